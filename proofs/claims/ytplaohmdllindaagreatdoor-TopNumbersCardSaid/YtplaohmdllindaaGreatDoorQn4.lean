/- RowG, SplitIter, SplitLaw, RowGTurn, TakeR, Held, AppendG, RowSet, Args, ArgOf, TyAt, Ent: texts put together. -/
import Derived.OwnWalkIn
import Derived.TacticsInMore
import Derived.LoopNIn
import Derived.LoopIn
import Derived.Test.YtplaohmdllindaaGreatDoorQn3
import Derived.Maps.AppendAt
import Derived.Test.YtplaohmdllindaaGreatDoorQn1
import Derived.Test.YtplaohmdllindaaGreatDoorQn2
import Derived.RangeFuncNested
import Derived.RangeFuncBound
import Derived.RangeFuncCalls
import Derived.RangeFuncLeaves
import Derived.Shelf.Abstract
import Derived.Shelf.RegionOpen
import Derived.Lib.Split
import Derived.Laws.Rows
set_option linter.unusedVariables false
set_option linter.unusedSimpArgs false
/- Rows of things of several cells that are the call's own. -/
namespace Go.Proofs.YtplaohmdllindaaGreatDoor
open Go.RowKit

/-- what a type's row is made of: its number, its size, its bytes, its zero -/
structure Kind (α : Type) where
  e : TypeId
  sl : TypeId
  size : Nat
  bytes : Nat
  cells : α → List Value
  zero : Value
  hsl : Tryz.prog.underlying sl = some (.slice e)
  hi : ∃ i, Tryz.prog.info? e = some i ∧ i.zero = some zero ∧ i.size = size ∧ i.bytes = bytes
  hzs : zero.cells.size = size
  hpos : 0 < size
  hlen : ∀ t, (cells t).length = size
  hone : ∀ t, ∀ u ∈ cells t, u.oneCell' = true

variable {α : Type} (k : Kind α)
def rowCells (ts : List α) : List Value := (ts.map k.cells).flatten
theorem rowCells_at (ts : List α) : ∀ (j : Nat) t i v, ts[j]? = some t → (k.cells t)[i]? = some v → (rowCells k ts)[j * k.size + i]? = some v := by
  induction ts with
  | nil => intro j t i v h; simp at h
  | cons x r ih =>
    intro j t i v h hv
    unfold rowCells at *
    rw [List.map_cons, List.flatten_cons]
    have hx := k.hlen x
    cases j with
    | zero =>
      simp at h
      subst h
      have hi : i < k.size := by have := (List.getElem?_eq_some_iff.1 hv).1; rw [hx] at this; exact this
      rw [Nat.zero_mul, Nat.zero_add, List.getElem?_append_left (by rw [hx]; exact hi)]
      exact hv
    | succ j =>
      simp only [List.getElem?_cons_succ] at h
      rw [List.getElem?_append_right (by rw [hx, Nat.succ_mul]; omega), hx, show (j + 1) * k.size + i - k.size = j * k.size + i by rw [Nat.succ_mul]; omega]
      exact ih j t i v h hv

/-- A row that is the call's own. -/
def OwnsG (w : World) (base : Nat) (v : Value) (ts : List α) : Prop := w.ownsRow base k.e k.size v ts.length (rowCells k ts)
variable {k}
theorem OwnsG.nil (w : World) (base : Nat) : OwnsG k w base (.slice none 0 0) [] := World.ownsRow_nil w base _ _
theorem OwnsG.alloc {w : World} {base : Nat} {v : Value} {ts : List α} (h : OwnsG k w base v ts) (o : Obj) : OwnsG k (w.alloc o) base v ts := World.ownsRow.alloc h o
/-- it stays where its own block stays -/
theorem OwnsG.kept {w w' : World} {base : Nat} {v : Value} {ts : List α} (h : OwnsG k w base v ts) (hb : ∀ g cur, v.ownBlock = some g → w.heap[g]? = some (.cells cur k.e (0, 0)) → w'.heap[g]? = w.heap[g]?) : OwnsG k w' base v ts := by
  refine ⟨h.1, ?_⟩
  rcases h.2 with h2 | ⟨g, cap, cur, rfl, h3, h4, h5⟩
  · exact .inl h2
  · exact .inr ⟨g, cap, cur, rfl, h3, by rw [hb g cur rfl h4]; exact h4, h5⟩
theorem OwnsG.off {w w' : World} {base : Nat} {v : Value} {ts : List α} {l : List Nat} (h : OwnsG k w base v ts) (hb : Off l w w') (hl : ∀ g, v.ownBlock = some g → g ∉ l) : OwnsG k w' base v ts :=
  h.kept (fun g cur hg hc => hb.block g (Array.getElem?_eq_some_iff.1 hc).1 (hl g hg))
theorem OwnsG.below {w w' : World} {base : Nat} {v : Value} {ts : List α} (h : OwnsG k w base v ts) (hb : Below w.heap.size w w') : OwnsG k w' base v ts :=
  h.kept (fun g cur _ hc => hb.block g (Array.getElem?_eq_some_iff.1 hc).1)
theorem OwnsG.base {w : World} {base b' : Nat} {v : Value} {ts : List α} (h : OwnsG k w base v ts) (hb : b' ≤ base) : OwnsG k w b' v ts := by
  refine ⟨h.1, ?_⟩
  rcases h.2 with h2 | ⟨g, cap, cur, h1, h3, h4⟩
  · exact .inl h2
  · exact .inr ⟨g, cap, cur, h1, by omega, h4⟩
theorem OwnsG.form {w : World} {base : Nat} {v : Value} {ts : List α} (h : OwnsG k w base v ts) : ∃ A c, v = .slice A ts.length c ∧ ts.length ≤ c ∧ c ≤ 9223372036854775807 ∧ (A = none → c = 0) ∧
    (ts = [] ∨ ∃ g, A = some ⟨g, 0, none⟩ ∧ base ≤ g ∧ g < w.heap.size ∧ ∀ (j : Nat) t i u, ts[j]? = some t → (k.cells t)[i]? = some u → w.cell? ⟨g, j * k.size + i, none⟩ = some u) := by
  rcases h.2 with ⟨h1, h2⟩ | ⟨g, cap, cur, rfl, h3, h4, h5, h6, _⟩
  · obtain rfl : ts = [] := List.length_eq_zero_iff.1 h2
    exact ⟨none, 0, h1, Nat.le_refl _, by omega, fun _ => rfl, .inl rfl⟩
  · refine ⟨some ⟨g, 0, none⟩, cap, rfl, h5, h6, (fun h => by cases h), .inr ⟨g, rfl, h3, (Array.getElem?_eq_some_iff.1 h4).1, fun j t i u ht hu => ?_⟩⟩
    have := World.ownsRow.cells h (g := g) rfl (j * k.size + i) u (rowCells_at k ts j t i u ht hu)
    rw [Go.WideShapes.add_plain, Nat.zero_add] at this
    exact this
/-- its own block holds things of its type alone -/
theorem OwnsG.block {w : World} {base : Nat} {v : Value} {ts : List α} (h : OwnsG k w base v ts) : ∀ g ∈ v.ownBlock.toList, base ≤ g ∧ ∃ cur, w.heap[g]? = some (.cells cur k.e (0, 0)) := by
  intro g hg
  rcases h.2 with ⟨h2, _⟩ | ⟨g', cap, cur, rfl, h3, h4, h5⟩
  · rw [h2] at hg; simp [Value.ownBlock] at hg
  · simp [Value.ownBlock] at hg
    subst hg
    exact ⟨h3, cur, h4⟩

theorem append_g {w : World} {base : Nat} {v : Value} {ts : List α} {b c : Nat} (t : α) (h : OwnsG k w base v ts) (hc : ∀ i u, (k.cells t)[i]? = some u → w.cell? ⟨b, i, none⟩ = some u) (ty : TypeId) (hb : base ≤ w.heap.size) (hn : (ts.length + 1) * k.bytes ≤ 140737488355328) (hn2 : ts.length + 1 ≤ 9223372036854775807) :
    ∃ v' w', (Builtin.append_ #[k.sl, k.sl] ty #[v, .slice (some ⟨b, 0, none⟩) 1 c]).run Tryz.prog w = .ok v' w' ∧ OwnsG k w' base v' (ts ++ [t]) ∧ Off v.ownBlock.toList w w' := by
  obtain ⟨i, hi, hz, hsz, hby⟩ := k.hi
  obtain ⟨v', w', h1, h2, h3, _, _⟩ := run_append_own_at (P := Tryz.prog) w base k.sl ty k.e i _ k.size k.bytes k.hsl hi hz hsz hby k.hzs k.hpos v ts.length _ h
    ⟨b, 0, none⟩ 1 c (k.cells t) (by rw [k.hlen, Nat.one_mul]) (fun j u hj => by rw [Go.WideShapes.add_plain, Nat.zero_add]; exact hc j u hj)
    (k.hone t) hn2 hn hb
  refine ⟨v', w', h1, ?_, grown_off h3 (fun k hk => by simp [hk])⟩
  unfold OwnsG
  rw [List.length_append]
  have e : rowCells k (ts ++ [t]) = rowCells k ts ++ k.cells t := by unfold rowCells; simp
  rw [e]
  exact h2

/-- AT THE OPERATION, in a round too. -/
theorem operIn_append_g {F : Fence} {n : Nat} {w : World} {o : Oper} {a : Act} {K : Act → World → Prop} {Q : Exit → Act → World → Prop} (s x : Operand)
    (ho : o.op = .call { callee := .builtin .append, args := #[s, x], argTypes := #[k.sl, k.sl] }) {base : Nat} {v : Value} {ts : List α} {b c : Nat} (t : α)
    (hs : a.eval s = v) (hx : a.eval x = .slice (some ⟨b, 0, none⟩) 1 c) (hown : OwnsG k w base v ts) (hc : ∀ i u, (k.cells t)[i]? = some u → w.cell? ⟨b, i, none⟩ = some u) (hb : base ≤ w.heap.size) (hn : (ts.length + 1) * k.bytes ≤ 140737488355328) (hn2 : ts.length + 1 ≤ 9223372036854775807)
    (h : ∀ v' w', OwnsG k w' base v' (ts ++ [t]) → Off v.ownBlock.toList w w' → K (a.put o.dst v') w') : o.wpIn F n Tryz.prog a w K Q := by
  obtain ⟨v', w', hrun, r1, r2⟩ := append_g (c := c) t hown hc o.type hb hn hn2
  unfold Oper.wpIn
  refine ⟨?_, ?_⟩
  · simp [Oper.about, ho, resolve, Target.leads, Sem.run_pure]
  · rw [Oper.semAt_plain F _ _ (by rw [ho]; intro c hc'; cases hc')]
    simp [execOp, ho, resolve, invoke, builtin, hs, hx, hrun, Result.andThen]
    exact h v' w' r1 r2
theorem wpListIn_append_g {F : Fence} {n : Nat} {w : World} {ops : Array Oper} {rest : List Oper} {o : Oper} {a : Act} {Q : Exit → Act → World → Prop} (hgd : o.guard = none) (s x : Operand)
    (ho : o.op = .call { callee := .builtin .append, args := #[s, x], argTypes := #[k.sl, k.sl] }) {base : Nat} {v : Value} {ts : List α} {b c : Nat} (t : α)
    (hs : a.eval s = v) (hx : a.eval x = .slice (some ⟨b, 0, none⟩) 1 c) (hown : OwnsG k w base v ts) (hc : ∀ i u, (k.cells t)[i]? = some u → w.cell? ⟨b, i, none⟩ = some u) (hb : base ≤ w.heap.size) (hn : (ts.length + 1) * k.bytes ≤ 140737488355328) (hn2 : ts.length + 1 ≤ 9223372036854775807)
    (h : ∀ v' w', OwnsG k w' base v' (ts ++ [t]) → Off v.ownBlock.toList w w' → wpListIn F n Tryz.prog ops Q rest (a.put o.dst v') w') : wpListIn F n Tryz.prog ops Q (o :: rest) a w :=
  wpListIn_plain hgd fun _ hK => operIn_append_g s x ho t hs hx hown hc hb hn hn2 (fun v' w' h1 h2 => hK _ _ (h v' w' h1 h2))
end Go.Proofs.YtplaohmdllindaaGreatDoor

/- strings.SplitSeq: the iterator's walk. -/
namespace Go.Proofs.YtplaohmdllindaaGreatDoor
open Go.RowKit Go.Shelf
attribute [local go_sem] Oper.semAt_some


/-- all pieces of a text -/
def pieces (sep s : ByteArray) : List ByteArray := Lib.splitB sep 0 s.size s
theorem splitB_fuel (sep : ByteArray) (hsep : 0 < sep.size) : ∀ (k : Nat) (s : ByteArray), s.size ≤ k → Lib.splitB sep 0 k s = Lib.splitB sep 0 s.size s := by
  intro k
  induction k using Nat.strongRecOn with
  | ind k ih =>
    intro s hk
    rcases Nat.eq_or_lt_of_le hk with rfl | hlt
    · rfl
    · obtain ⟨k, rfl⟩ : ∃ m, k = m + 1 := ⟨k - 1, by omega⟩
      by_cases hm : Lib.indexB s sep = -1
      · rw [Lib.splitB_miss _ _ _ _ hm, Lib.splitB_miss _ _ _ _ hm]
      · have hr := Lib.index_room s.data.toList sep.data.toList (by
          rcases Lib.index_spec s.data.toList sep.data.toList with ⟨h, _⟩ | ⟨i, h, _⟩
          · exact absurd h hm
          · omega)
        obtain ⟨i, hi⟩ : ∃ i : Nat, Lib.indexB s sep = i := by
          rcases Lib.index_spec s.data.toList sep.data.toList with ⟨h, _⟩ | ⟨i, h, _⟩
          · exact absurd h hm
          · exact ⟨i, h⟩
        have hi' : Lib.index s.data.toList sep.data.toList = (i : Int) := hi
        have hl : s.data.toList.length = s.size := by simp
        have hl2 : sep.data.toList.length = sep.size := by simp
        rw [hi', hl, hl2] at hr
        obtain ⟨m, hmm⟩ : ∃ m, s.size = m + 1 := ⟨s.size - 1, by omega⟩
        rw [Lib.splitB_hit _ _ _ _ _ hi, hmm, Lib.splitB_hit _ _ _ _ _ hi, ← hmm]
        have hes : (s.extract (i + sep.size) s.size).size = s.size - (i + sep.size) := by simp
        rw [ih k (by omega) _ (by rw [hes]; omega), ih m (by omega) _ (by rw [hes]; omega)]
theorem index_cases (s sep : ByteArray) (hsep : 0 < sep.size) : Lib.index s.data.toList sep.data.toList = -1 ∧ pieces sep s = [s] ∨
    ∃ i : Nat, Lib.index s.data.toList sep.data.toList = i ∧ i + sep.size ≤ s.size ∧ pieces sep s = s.extract 0 i :: pieces sep (s.extract (i + sep.size) s.size) := by
  rcases Lib.index_spec s.data.toList sep.data.toList with ⟨h, _⟩ | ⟨i, h, _⟩
  · exact .inl ⟨h, Lib.splitB_miss _ _ _ _ h⟩
  · right
    have hr := Lib.index_room s.data.toList sep.data.toList (by omega)
    have hl : s.data.toList.length = s.size := by simp
    have hl2 : sep.data.toList.length = sep.size := by simp
    rw [h, hl, hl2] at hr
    refine ⟨i, h, by omega, ?_⟩
    obtain ⟨m, hm⟩ : ∃ m, s.size = m + 1 := ⟨s.size - 1, by omega⟩
    have hes : (s.extract (i + sep.size) s.size).size = s.size - (i + sep.size) := by simp
    unfold pieces
    conv => lhs; rw [hm]
    rw [Lib.splitB_hit sep 0 m s i h, splitB_fuel sep hsep m _ (by rw [hes]; omega)]
    rfl
theorem pieces_size (sep : ByteArray) (hsep : 0 < sep.size) : ∀ (n : Nat) (s : ByteArray), s.size = n → ∀ x ∈ pieces sep s, x.size ≤ s.size := by
  intro n
  induction n using Nat.strongRecOn with
  | ind n ih =>
    intro s hs x hx
    rcases index_cases s sep hsep with ⟨_, h⟩ | ⟨i, _, hr, h⟩
    · rw [h] at hx
      simp at hx
      rw [hx]
      exact Nat.le_refl _
    · rw [h] at hx
      have hes : (s.extract (i + sep.size) s.size).size = s.size - (i + sep.size) := by simp
      rcases List.mem_cons.1 hx with rfl | hx
      · simp
        omega
      · have := ih _ (by rw [hes]; omega) _ rfl x hx
        omega
theorem pieces_len (sep : ByteArray) (hsep : 0 < sep.size) : ∀ (n : Nat) (s : ByteArray), s.size = n → (pieces sep s).length ≤ s.size + 1 := by
  intro n
  induction n using Nat.strongRecOn with
  | ind n ih =>
    intro s hs
    rcases index_cases s sep hsep with ⟨_, h⟩ | ⟨i, _, hr, h⟩
    · rw [h]
      simp
    · rw [h]
      have hes : (s.extract (i + sep.size) s.size).size = s.size - (i + sep.size) := by simp
      have := ih _ (by rw [hes]; omega) _ rfl
      rw [List.length_cons]
      omega

/-- the rest that the iterator still holds, read off the world -/
def restAt (bs : Nat) (W : World) : Nat := match W.cell? ⟨bs, 0, none⟩ with | some (.string r) => r.size | _ => 0
theorem restAt_eq {bs : Nat} {W : World} {t : TypeId} {r : ByteArray} (h : Boxed W bs t (.string r)) : restAt bs W = r.size := by
  unfold restAt
  rw [h.cell]

/-- The three boxes of the iterator. -/
structure Boxes (W : World) (bs : Nat) (sep : ByteArray) : Prop where
  sep : Boxed W (bs + 1) 9 (.string sep)
  save : Boxed W (bs + 2) 3 (.int .i64 0)

set_option maxRecDepth 100000 in
set_option maxHeartbeats 2000000 in
theorem split_iter (n l bs : Nat) (hn : 1 ≤ n) (sep s : ByteArray) (hsep : 0 < sep.size) (hs : s.size < 4294967281) (hs2 : sep.size ≤ 100) (J : List ByteArray → World → Prop)
    (hJ : ∀ pre W u, J pre W → J pre (W.setCell ⟨bs, 0, none⟩ u)) (hJb : ∀ pre W, J pre W → MaxL W ∧ Boxes W bs sep)
    (hY : ∀ pre x post r W, pieces sep s = pre ++ x :: post → J pre W → Boxed W bs 9 (.string r) → YieldAt Fence.wide (n - 1) Tryz.prog l #[.string x] W fun e W' => e = .returned (.bool true) ∧ J (pre ++ [x]) W' ∧ Boxed W' bs 9 (.string r))
    (W : World) (hb : Boxed W bs 9 (.string s)) (h0 : J [] W) :
    CallsIn Fence.wide n Tryz.prog 180 #[.func (.yield l) #[] #[], .pointer (some ⟨bs + 1, 0, none⟩), .pointer (some ⟨bs, 0, none⟩), .pointer (some ⟨bs + 2, 0, none⟩)] W fun e W' => (∃ v, e = .returned v) ∧ J (pieces sep s) W' := by
  have HJ := Lib.hid hJ
  have HJB := Lib.hid hJb
  have HY := Lib.hid hY
  have HB0 := Lib.hid hb
  have H0 := Lib.hid h0
  have cs0 := hb.cell
  have cp0 := (hJb _ _ h0).2.sep.cell
  have p0 : ((sep.size : Int) == 0) = false := by rw [beq_eq_false_iff_ne]; omega
  clear hJ hJb hY hb h0
  refine callsIn_of_wp Tryz.func180 rfl trivial ?_ rfl
  simp only [Tryz.ntmps180, List.size_toArray, List.length_cons, List.length_nil, Nat.reduceAdd, Nat.reduceSub, Array.replicate_succ, Array.replicate_zero, List.push_toArray, List.append_toArray, List.nil_append, List.cons_append]
  gi_wp2
  gi_loopw [7] (fun _ wr => ∃ (pre : List ByteArray) (r : ByteArray), Hid (pieces sep s = pre ++ pieces sep r) ∧ r.size ≤ s.size ∧ Hid (Boxed wr bs 9 (.string r)) ∧ Hid (J pre wr)) (fun _ wr => restAt bs wr)
  case atStart => exact ⟨[], s, Lib.hid rfl, Nat.le_refl _, HB0, H0⟩
  case round =>
    clear cs0 cp0 HB0 H0
    obtain ⟨pre, r, HP, hr, HB, HK⟩ := hrel
    have cs := HB.out.cell
    have fs := HB.out.frozen
    have hjb := HJB.out _ _ HK.out
    have cp := hjb.2.sep.cell
    have cv := hjb.2.save.cell
    obtain ⟨m, hm⟩ := hjb.1
    have KI := Tryz.strings_Index r sep m wr (by omega) hm
    clear hjb hm
    rcases index_cases r sep hsep with ⟨hi, hp⟩ | ⟨i, hi, hri, hp⟩
    · rw [hi] at KI
      have HI := Lib.hid KI
      obtain ⟨fn, tmps, assign, body, hy, hR⟩ := HY.out pre r [] r wr (by rw [HP.out, hp]) HK.out HB.out
      have hfin : Hid (pieces sep s = pre ++ [r]) := Lib.hid (by rw [HP.out, hp])
      clear KI hi hp HY
      gi_wp2
      refine ⟨trivial, (callsIn_wide.2 HI.out).mono ?_⟩
      rintro e w' ⟨rfl, rfl⟩
      clear HI cv
      gi_wp2
      refine hR.mono ?_
      rintro e W3 ⟨rfl, hJ3, hB3⟩
      gi_wp2
      go_end0
      exact ⟨⟨_, rfl⟩, by rw [hfin.out]; exact hJ3⟩
    · rw [hi] at KI
      have HI := Lib.hid KI
      obtain ⟨fn, tmps, assign, body, hy, hR⟩ := HY.out pre (r.extract 0 i) (pieces sep (r.extract (i + sep.size) r.size)) r wr (by rw [HP.out, hp]) HK.out HB.out
      have HP2 : Hid (pieces sep s = (pre ++ [r.extract 0 i]) ++ pieces sep (r.extract (i + sep.size) r.size)) := Lib.hid (by rw [HP.out, hp]; simp)
      have hes : (r.extract (i + sep.size) r.size).size ≤ r.size - (i + sep.size) := by simp
      have i0 : (0 : Int) ≤ (i : Int) := by omega
      have i1 : (i : Int) ≤ (r.size : Int) := by omega
      have i2 : (i : Int) + (sep.size : Int) ≤ (r.size : Int) := by omega
      have e1 : IntKind.i64.wrap ((i : Int) + (sep.size : Int)) = (i : Int) + (sep.size : Int) := IntWalk.i64_in _ (by omega)
      have e2 : ((i : Int) + (sep.size : Int)).toNat = i + sep.size := by omega
      clear KI hi hp
      gi_wp2
      refine ⟨trivial, (callsIn_wide.2 HI.out).mono ?_⟩
      rintro e w' ⟨rfl, rfl⟩
      clear HI
      gi_wp2
      refine hR.mono ?_
      rintro e W3 ⟨rfl, hJ3, hB3⟩
      clear cs fs cp cv
      have cs := hB3.cell
      have fs := hB3.frozen
      have cp := (HJB.out _ _ hJ3).2.sep.cell
      have HB4 := Lib.hid (hB3.set (.string (r.extract (i + sep.size) r.size)))
      have HJ4 := Lib.hid (HJ.out _ _ (.string (r.extract (i + sep.size) r.size)) hJ3)
      have hm1 : restAt bs (W3.setCell ⟨bs, 0, none⟩ (.string (r.extract (i + sep.size) r.size))) < restAt bs w' := by
        rw [restAt_eq HB4.out, restAt_eq HB.out]
        omega
      have HM := Lib.hid hm1
      clear hJ3 hB3 hm1
      gi_wp2
      go_roundw
      case rel => exact ⟨_, _, HP2, by omega, HB4, HJ4⟩
      case measure => exact HM.out
end Go.Proofs.YtplaohmdllindaaGreatDoor

/- 'for x := range strings.SplitSeq(s, sep)': the law of the statement, outermost and within a round of another one. -/
namespace Go.Proofs.YtplaohmdllindaaGreatDoor
open Go.RowKit Go.Shelf

/-- what the statement itself turns: the iterator's own box, and blocks that are no cells, from B on -/
structure Turn (B bs : Nat) (W W' : World) : Prop where
  os : W'.os = W.os
  tape : W'.tape = W.tape
  output : W'.output = W.output
  size : W.heap.size ≤ W'.heap.size
  block : ∀ (k : Nat) (o : Obj), W.heap[k]? = some o → k ≠ bs → (k < B ∨ o.isCells = true) → W'.heap[k]? = some o
/-- what the body may turn: the blocks of the list, and cells from B on -/
structure Keep (B : Nat) (L : List Nat) (W W' : World) : Prop where
  size : W.heap.size ≤ W'.heap.size
  block : ∀ (k : Nat) (o : Obj), W.heap[k]? = some o → k ∉ L → (k < B ∨ o.isCells = false) → W'.heap[k]? = some o

theorem Turn.alloc (B bs : Nat) (W : World) (o : Obj) : Turn B bs W (W.alloc o) :=
  ⟨rfl, rfl, rfl, by simp, fun k o' h _ _ => (Below.heap_alloc W o k (Array.getElem?_eq_some_iff.1 h).1).trans h⟩
theorem Turn.putObj {B bs : Nat} {W : World} {l : Nat} {o : Obj} (o' : Obj) (h : W.heap[l]? = some o) (hc : o.isCells = false) (hB : B ≤ l) : Turn B bs W (W.putObj l o') :=
  ⟨rfl, rfl, rfl, by simp, fun k o2 hk _ hor => by
    have hne : k ≠ l := fun e => by
      subst e
      rw [h] at hk
      cases hk
      rcases hor with h1 | h1
      · omega
      · rw [hc] at h1; cases h1
    exact (World.putObj_heap_other hne).trans hk⟩
theorem Turn.set (B bs : Nat) (W : World) (u : Value) : Turn B bs W (W.setCell ⟨bs, 0, none⟩ u) :=
  ⟨rfl, rfl, rfl, by simp, fun k o hk hne _ => (Below.heap_setCell W ⟨bs, 0, none⟩ u k hne).trans hk⟩
theorem Turn.boxed {B bs k : Nat} {W W' : World} {t : TypeId} {v : Value} (h : Turn B bs W W') (hk : k ≠ bs) (hb : Boxed W k t v) : Boxed W' k t v := h.block k _ hb hk (.inr rfl)
theorem Keep.boxed {B k : Nat} {L : List Nat} {W W' : World} {t : TypeId} {v : Value} (h : Keep B L W W') (hk : k ∉ L) (hB : k < B) (hb : Boxed W k t v) : Boxed W' k t v := h.block k _ hb hk (.inl hB)
theorem Keep.refl (B : Nat) (L : List Nat) (W : World) : Keep B L W W := ⟨Nat.le_refl _, fun _ _ h _ _ => h⟩
theorem Keep.below {B : Nat} {L : List Nat} {W W1 W2 : World} (h : Keep B L W W1) {C : Nat} (hb : Below C W1 W2) (hC : W.heap.size ≤ C) : Keep B L W W2 :=
  ⟨Nat.le_trans h.size hb.size, fun k o hk hl hor => by
    have h1 := h.block k o hk hl hor
    exact (hb.block k (Nat.lt_of_lt_of_le (Array.getElem?_eq_some_iff.1 hk).1 hC)).trans h1⟩
theorem Keep.set {B : Nat} {L : List Nat} {W W1 : World} (h : Keep B L W W1) (b o : Nat) (u : Value) (hb : b ∈ L) : Keep B L W (W1.setCell ⟨b, o, none⟩ u) :=
  ⟨by have := h.size; simpa using this, fun k o' hk hl hor => by
    have h1 := h.block k o' hk hl hor
    exact (Below.heap_setCell W1 ⟨b, o, none⟩ u k (fun e => hl (e ▸ hb))).trans h1⟩
/-- the statement's own turns are none of what the round that holds it must keep -/
theorem Keep.turn {B C bs : Nat} {L : List Nat} {W W1 W2 : World} (h : Keep B L W W1) (k : Turn C bs W1 W2) (hbs : W.heap.size ≤ bs) (hC : W.heap.size ≤ C) : Keep B L W W2 :=
  ⟨Nat.le_trans h.size k.size, fun i o hi hl hor => by
    have hlt := (Array.getElem?_eq_some_iff.1 hi).1
    exact k.block i o (h.block i o hi hl hor) (by omega) (.inl (by omega))⟩
/-- a row that the walk appends to -/
theorem Keep.row {B : Nat} {L : List Nat} {W W1 W2 : World} (h : Keep B L W W1) {M : List Nat} (hf : Off M W1 W2) (hM : ∀ k ∈ M, k ∉ L → B ≤ k ∧ ∀ o, W.heap[k]? = some o → o.isCells = true) : Keep B L W W2 :=
  ⟨Nat.le_trans h.size hf.size, fun k o hk hl hor => by
    have h1 := h.block k o hk hl hor
    refine (hf.block k (Array.getElem?_eq_some_iff.1 h1).1 (fun hm => ?_)).trans h1
    obtain ⟨hB, hc⟩ := hM k hm hl
    rcases hor with hx | hx
    · omega
    · rw [hc o hk] at hx; cases hx⟩
theorem Below.turn {n0 B bs : Nat} {w W W' : World} (h : Below n0 w W) (k : Turn B bs W W') (hbs : n0 ≤ bs) (hB : n0 ≤ B) (hn : n0 ≤ w.heap.size) : Below n0 w W' := by
  refine ⟨k.os.trans h.os, k.tape.trans h.tape, k.output.trans h.output, Nat.le_trans h.size k.size, fun i hi => ?_⟩
  have h1 := h.block i hi
  have hlt : i < W.heap.size := by have := h.size; omega
  obtain ⟨o, ho⟩ : ∃ o, W.heap[i]? = some o := ⟨_, Array.getElem?_eq_getElem hlt⟩
  rw [k.block i o ho (by omega) (.inl (by omega)), ← h1, ho]

/-- How a round's body may be left. -/
def splitPost (K I : World → Prop) : Exit → Act → World → Prop
  | .normal, _, W' => K W' ∧ I W'
  | _, _, _ => False

/-- THE STATEMENT, OUTERMOST. -/
theorem wp_splitSeq {p : Tmp} {assign body : Code} {Q : Exit → Act → World → Prop} {a : Act} {w : World} {g : Operand} (bs : Nat) (sep s : ByteArray) (hsep : 0 < sep.size) (hs : s.size < 4294967281) (hs2 : sep.size ≤ 100)
    (hg : a.eval g = .func (.func 180) #[] #[.pointer (some ⟨bs + 1, 0, none⟩), .pointer (some ⟨bs, 0, none⟩), .pointer (some ⟨bs + 2, 0, none⟩)])
    (hb : Boxed w bs 9 (.string s)) (hbx : Boxes w bs sep) (L : List Nat) (hL : ∀ k ∈ L, k < w.heap.size ∧ k ≠ bs ∧ k ≠ bs + 1 ∧ k ≠ bs + 2)
    (I : List ByteArray → World → Prop) (hI : ∀ pre W W', I pre W → Turn w.heap.size bs W W' → I pre W') (hIM : ∀ pre W, I pre W → MaxL W) (h0 : I [] w)
    (hround : ∀ (l : Nat) (pre : List ByteArray) (x : ByteArray) (post : List ByteArray) (W : World), pieces sep s = pre ++ x :: post → w.heap.size ≤ l →
      assign.wpIn (Fence.wide.inRound l) 7 Tryz.prog (Exit.then (fun a' W' => W' = W ∧ ∀ W2, (∃ r, W2.heap[l]? = some (.loop r)) → I pre W2 → body.wpIn (Fence.wide.inRound l) 7 Tryz.prog (splitPost (Keep w.heap.size L W2) (I (pre ++ [x]))) a' W2) (fun _ _ _ => False))
        { tmps := ((#[p] : Array Tmp).zip #[Value.string x]).foldl (fun t (p, v) => t.setIfInBounds p v) a.tmps, defers := [] } W)
    (hdone : ∀ (D : Nat) (W : World), w.heap.size ≤ D → I (pieces sep s) W → W.heap[D]? = some (.deferred (some [])) → Q .normal { a with defers := { target := .collected D, args := #[] } :: a.defers } W) :
    (Code.rangeFunc g #[p] assign body).wp Tryz.prog Q a w := by
  refine (wpIn_wide (n := 9)).1 ?_
  refine wpIn_rangeFunc ?_
  intro fn hfn
  obtain ⟨rec, hrec⟩ : ∃ rec : LoopState → Option Code → Loop, rec = fun st pe => { state := st, pending := pe, fn, tmps := a.tmps, params := #[p], assign, body, defers := w.heap.size } := ⟨_, rfl⟩
  obtain ⟨W1, hW1⟩ : ∃ W1, (w.alloc (.deferred (some []))).alloc (.loop (rec .ready none)) = W1 := ⟨_, rfl⟩
  have hL1 : W1.heap[w.heap.size + 1]? = some (.loop (rec .ready none)) := by
    rw [← hW1]; have := World.alloc_heap_new (w.alloc (.deferred (some []))) (.loop (rec .ready none)); rwa [World.size_alloc] at this
  have hK1 : W1.heap[w.heap.size]? = some (.deferred (some [])) := by
    rw [← hW1]; exact (Below.heap_alloc _ _ _ (by simp)).trans (World.alloc_heap_new w _)
  have hI1 : I [] W1 := by rw [← hW1]; exact hI _ _ _ (hI _ _ _ h0 (Turn.alloc _ _ _ _)) (Turn.alloc _ _ _ _)
  have hbl := hb.lt
  have hbl1 := hbx.sep.lt
  have hbl2 := hbx.save.lt
  have hb1 : Boxed W1 bs 9 (.string s) := by rw [← hW1]; exact (hb.alloc _).alloc _
  have hbx1 : Boxes W1 bs sep := by rw [← hW1]; exact ⟨(hbx.sep.alloc _).alloc _, (hbx.save.alloc _).alloc _⟩
  refine ⟨w.heap.size + 1, [{ target := .collected w.heap.size, args := #[] }], W1, { target := .fn (.func 180) #[.pointer (some ⟨bs + 1, 0, none⟩), .pointer (some ⟨bs, 0, none⟩), .pointer (some ⟨bs + 2, 0, none⟩)], args := #[.func (.yield (w.heap.size + 1)) #[] #[]] }, W1, 180,
    #[.func (.yield (w.heap.size + 1)) #[] #[]] ++ #[.pointer (some ⟨bs + 1, 0, none⟩), .pointer (some ⟨bs, 0, none⟩), .pointer (some ⟨bs + 2, 0, none⟩)], W1, ?_, ?_, ?_, ?_, (fun _ => by omega), ?_⟩
  · rw [← hW1, hrec]; exact run_enterLoop_outer _ _ _ _ _
  · simp only [resolve, hg]
    simp [go_sem]
  · intro f' _; trivial
  · simp [invoke, go_sem, enters_of Tryz.func180 (by kernel_rfl) rfl]
  · refine (split_iter 8 (w.heap.size + 1) bs (by omega) sep s hsep hs hs2
      (fun pre W => I pre W ∧ Boxes W bs sep ∧ W.heap[w.heap.size + 1]? = some (.loop (rec .ready none)) ∧ W.heap[w.heap.size]? = some (.deferred (some []))) ?_ ?_ ?_ W1 hb1 ⟨hI1, hbx1, hL1, hK1⟩).mono ?_
    · rintro pre W u ⟨hi, hx, hl, hk⟩
      have ht := Turn.set w.heap.size bs W u
      refine ⟨hI _ _ _ hi ht, ⟨ht.boxed (by omega) hx.sep, ht.boxed (by omega) hx.save⟩, ?_, ?_⟩
      · exact (Below.heap_setCell W ⟨bs, 0, none⟩ u _ (by show _ ≠ bs; omega)).trans hl
      · exact (Below.heap_setCell W ⟨bs, 0, none⟩ u _ (by show _ ≠ bs; omega)).trans hk
    · rintro pre W ⟨hi, hx, hl, hk⟩
      exact ⟨hIM _ _ hi, hx⟩
    · -- one round
      rintro pre x post r W hps ⟨hi, hx, hl, hk⟩ hbr
      have hlt : w.heap.size + 1 < W.heap.size := (Array.getElem?_eq_some_iff.1 hl).1
      have hy := run_yield (P := Tryz.prog) (args := #[Value.string x]) hl (by rw [hrec]; rfl)
      rw [hrec] at hy
      refine ⟨fn, _, assign, body, hy, roundIn_of_wpIn hfn (wpIn_mono (hround _ pre x post W hps (by omega)) ?_)⟩
      rintro e0 a0 W0 hp0
      cases e0 with
      | ret => exact hp0.elim
      | exit id => exact hp0.elim
      | goto t => exact hp0.elim
      | panic ch => exact hp0.elim
      | outgrown => exact hp0.elim
      | normal =>
      obtain ⟨hWW, hbody⟩ := hp0
      rw [hWW]
      clear hWW
      refine ⟨_, run_beginRound hl (by rw [hrec]), ?_⟩
      have ht2 := Turn.putObj (B := w.heap.size) (bs := bs) (.loop { rec .ready none with state := .busy }) hl rfl (by omega)
      have hl2 : (W.putObj (w.heap.size + 1) (.loop { rec .ready none with state := .busy })).heap[w.heap.size + 1]? = some (.loop { rec .ready none with state := .busy }) := World.putObj_heap_same hlt
      have hk2 : (W.putObj (w.heap.size + 1) (.loop { rec .ready none with state := .busy })).heap[w.heap.size]? = some (.deferred (some [])) := (World.putObj_heap_other (by omega)).trans hk
      have hr2 : Boxed (W.putObj (w.heap.size + 1) (.loop { rec .ready none with state := .busy })) bs 9 (.string r) := (World.putObj_heap_other (by omega)).trans hbr
      have hx2 : Boxes (W.putObj (w.heap.size + 1) (.loop { rec .ready none with state := .busy })) bs sep := ⟨ht2.boxed (by omega) hx.sep, ht2.boxed (by omega) hx.save⟩
      refine wpIn_mono (hbody _ ⟨_, hl2⟩ (hI _ _ _ hi ht2)) ?_
      rintro e a3 W3 hp
      cases e with
      | normal =>
        obtain ⟨hkp, hi3⟩ := hp
        have hl3 := hkp.block _ _ hl2 (fun hm => by have := (hL _ hm).1; omega) (.inr rfl)
        have hk3 := hkp.block _ _ hk2 (fun hm => by have := (hL _ hm).1; omega) (.inr rfl)
        have hr3 : Boxed W3 bs _ _ := hkp.boxed (fun hm => (hL _ hm).2.1 rfl) hbl hr2
        have hx3 : Boxes W3 bs sep := ⟨hkp.boxed (fun hm => (hL _ hm).2.2.1 rfl) hbl1 hx2.sep, hkp.boxed (fun hm => (hL _ hm).2.2.2 rfl) hbl2 hx2.save⟩
        have hlt3 := (Array.getElem?_eq_some_iff.1 hl3).1
        have hend := run_endRound (P := Tryz.prog) none hl3
        have ht3 := Turn.putObj (B := w.heap.size) (bs := bs) (.loop (rec .ready none)) hl3 rfl (by omega)
        have hend2 : (Instr.endRound (w.heap.size + 1) none).run Tryz.prog W3 = .ok (.bool true) (W3.putObj (w.heap.size + 1) (.loop (rec .ready none))) := by
          rw [hend, hrec]
          rfl
        exact ⟨_, _, hend2, rfl, ⟨hI _ _ _ hi3 ht3, ⟨ht3.boxed (by omega) hx3.sep, ht3.boxed (by omega) hx3.save⟩, World.putObj_heap_same hlt3, (World.putObj_heap_other (by omega)).trans hk3⟩, (World.putObj_heap_other (by omega)).trans hr3⟩
      | ret => exact hp.elim
      | exit id => exact hp.elim
      | goto t => exact hp.elim
      | panic ch => exact hp.elim
      | outgrown => exact hp.elim
    · rintro e W2 ⟨⟨v, rfl⟩, hi, hx, hl, hk⟩
      exact ⟨none, _, by have := run_endLoop (P := Tryz.prog) hl (by rw [hrec]; simp); rw [hrec] at this; exact this, hdone _ _ (Nat.le_refl _) (hI _ _ _ hi (Turn.putObj _ hl rfl (by omega))) ((World.putObj_heap_other (by omega)).trans hk)⟩

/-- THE STATEMENT WITHIN A ROUND OF LOOP l₀. -/
theorem wpIn_splitSeq {p : Tmp} {assign body : Code} {Q : Exit → Act → World → Prop} {a : Act} {w : World} {g : Operand} {l₀ : Nat} {r₀ : Loop} (hl₀ : w.heap[l₀]? = some (.loop r₀)) (bs : Nat) (sep s : ByteArray) (hsep : 0 < sep.size) (hs : s.size < 4294967281) (hs2 : sep.size ≤ 100)
    (hg : a.eval g = .func (.func 180) #[] #[.pointer (some ⟨bs + 1, 0, none⟩), .pointer (some ⟨bs, 0, none⟩), .pointer (some ⟨bs + 2, 0, none⟩)])
    (hb : Boxed w bs 9 (.string s)) (hbx : Boxes w bs sep) (L : List Nat) (hL : ∀ k ∈ L, k < w.heap.size ∧ k ≠ bs ∧ k ≠ bs + 1 ∧ k ≠ bs + 2)
    (I : List ByteArray → World → Prop) (hI : ∀ pre W W', I pre W → Turn w.heap.size bs W W' → I pre W') (hIM : ∀ pre W, I pre W → MaxL W) (h0 : I [] w)
    (hround : ∀ (l : Nat) (pre : List ByteArray) (x : ByteArray) (post : List ByteArray) (W : World), pieces sep s = pre ++ x :: post → w.heap.size ≤ l →
      assign.wpIn ((Fence.wide.inRound l₀).inRound l) 5 Tryz.prog (Exit.then (fun a' W' => W' = W ∧ ∀ W2, (∃ r, W2.heap[l]? = some (.loop r)) → I pre W2 → body.wpIn ((Fence.wide.inRound l₀).inRound l) 5 Tryz.prog (splitPost (Keep w.heap.size L W2) (I (pre ++ [x]))) a' W2) (fun _ _ _ => False))
        { tmps := ((#[p] : Array Tmp).zip #[Value.string x]).foldl (fun t (p, v) => t.setIfInBounds p v) a.tmps, defers := [] } W)
    (hdone : ∀ (W : World), I (pieces sep s) W → Q .normal a W) :
    (Code.rangeFunc g #[p] assign body).wpIn (Fence.wide.inRound l₀) 7 Tryz.prog Q a w := by
  refine wpIn_rangeFunc ?_
  intro fn hfn
  obtain ⟨rec, hrec⟩ : ∃ rec : LoopState → Option Code → Loop, rec = fun st pe => { state := st, pending := pe, fn, tmps := a.tmps, params := #[p], assign, body, defers := r₀.defers } := ⟨_, rfl⟩
  obtain ⟨W1, hW1⟩ : ∃ W1, w.alloc (.loop (rec .ready none)) = W1 := ⟨_, rfl⟩
  have hL1 : W1.heap[w.heap.size]? = some (.loop (rec .ready none)) := by rw [← hW1]; exact World.alloc_heap_new w _
  have hI1 : I [] W1 := by rw [← hW1]; exact hI _ _ _ h0 (Turn.alloc _ _ _ _)
  have hbl := hb.lt
  have hbl1 := hbx.sep.lt
  have hbl2 := hbx.save.lt
  have hb1 : Boxed W1 bs 9 (.string s) := by rw [← hW1]; exact hb.alloc _
  have hbx1 : Boxes W1 bs sep := by rw [← hW1]; exact ⟨hbx.sep.alloc _, hbx.save.alloc _⟩
  refine ⟨w.heap.size, [], W1, { target := .fn (.func 180) #[.pointer (some ⟨bs + 1, 0, none⟩), .pointer (some ⟨bs, 0, none⟩), .pointer (some ⟨bs + 2, 0, none⟩)], args := #[.func (.yield (w.heap.size)) #[] #[]] }, W1, 180,
    #[.func (.yield (w.heap.size)) #[] #[]] ++ #[.pointer (some ⟨bs + 1, 0, none⟩), .pointer (some ⟨bs, 0, none⟩), .pointer (some ⟨bs + 2, 0, none⟩)], W1, ?_, ?_, ?_, ?_, (fun _ => by omega), ?_⟩
  · rw [← hW1, hrec]; exact run_enterLoop_inner hl₀ _ _ _ _ _
  · simp only [resolve, hg]
    simp [go_sem]
  · intro f' _; trivial
  · simp [invoke, go_sem, enters_of Tryz.func180 (by kernel_rfl) rfl]
  · refine (split_iter 6 w.heap.size bs (by omega) sep s hsep hs hs2
      (fun pre W => I pre W ∧ Boxes W bs sep ∧ W.heap[w.heap.size]? = some (.loop (rec .ready none))) ?_ ?_ ?_ W1 hb1 ⟨hI1, hbx1, hL1⟩).mono ?_
    · rintro pre W u ⟨hi, hx, hl⟩
      have ht := Turn.set w.heap.size bs W u
      refine ⟨hI _ _ _ hi ht, ⟨ht.boxed (by omega) hx.sep, ht.boxed (by omega) hx.save⟩, ?_⟩
      exact (Below.heap_setCell W ⟨bs, 0, none⟩ u _ (by show _ ≠ bs; omega)).trans hl
    · rintro pre W ⟨hi, hx, hl⟩
      exact ⟨hIM _ _ hi, hx⟩
    · -- one round
      rintro pre x post r W hps ⟨hi, hx, hl⟩ hbr
      have hlt : w.heap.size < W.heap.size := (Array.getElem?_eq_some_iff.1 hl).1
      have hy := run_yield (P := Tryz.prog) (args := #[Value.string x]) hl (by rw [hrec]; rfl)
      rw [hrec] at hy
      refine ⟨fn, _, assign, body, hy, roundIn_of_wpIn hfn (wpIn_mono (hround _ pre x post W hps (by omega)) ?_)⟩
      rintro e0 a0 W0 hp0
      cases e0 with
      | ret => exact hp0.elim
      | exit id => exact hp0.elim
      | goto t => exact hp0.elim
      | panic ch => exact hp0.elim
      | outgrown => exact hp0.elim
      | normal =>
      obtain ⟨hWW, hbody⟩ := hp0
      rw [hWW]
      clear hWW
      refine ⟨_, run_beginRound hl (by rw [hrec]), ?_⟩
      have ht2 := Turn.putObj (B := w.heap.size) (bs := bs) (.loop { rec .ready none with state := .busy }) hl rfl (by omega)
      have hl2 : (W.putObj (w.heap.size) (.loop { rec .ready none with state := .busy })).heap[w.heap.size]? = some (.loop { rec .ready none with state := .busy }) := World.putObj_heap_same hlt
      have hr2 : Boxed (W.putObj (w.heap.size) (.loop { rec .ready none with state := .busy })) bs 9 (.string r) := (World.putObj_heap_other (by omega)).trans hbr
      have hx2 : Boxes (W.putObj (w.heap.size) (.loop { rec .ready none with state := .busy })) bs sep := ⟨ht2.boxed (by omega) hx.sep, ht2.boxed (by omega) hx.save⟩
      refine wpIn_mono (hbody _ ⟨_, hl2⟩ (hI _ _ _ hi ht2)) ?_
      rintro e a3 W3 hp
      cases e with
      | normal =>
        obtain ⟨hkp, hi3⟩ := hp
        have hl3 := hkp.block _ _ hl2 (fun hm => by have := (hL _ hm).1; omega) (.inr rfl)
        have hr3 : Boxed W3 bs _ _ := hkp.boxed (fun hm => (hL _ hm).2.1 rfl) hbl hr2
        have hx3 : Boxes W3 bs sep := ⟨hkp.boxed (fun hm => (hL _ hm).2.2.1 rfl) hbl1 hx2.sep, hkp.boxed (fun hm => (hL _ hm).2.2.2 rfl) hbl2 hx2.save⟩
        have hlt3 := (Array.getElem?_eq_some_iff.1 hl3).1
        have hend := run_endRound (P := Tryz.prog) none hl3
        have ht3 := Turn.putObj (B := w.heap.size) (bs := bs) (.loop (rec .ready none)) hl3 rfl (by omega)
        have hend2 : (Instr.endRound (w.heap.size) none).run Tryz.prog W3 = .ok (.bool true) (W3.putObj (w.heap.size) (.loop (rec .ready none))) := by
          rw [hend, hrec]
          rfl
        exact ⟨_, _, hend2, rfl, ⟨hI _ _ _ hi3 ht3, ⟨ht3.boxed (by omega) hx3.sep, ht3.boxed (by omega) hx3.save⟩, World.putObj_heap_same hlt3⟩, (World.putObj_heap_other (by omega)).trans hr3⟩
      | ret => exact hp.elim
      | exit id => exact hp.elim
      | goto t => exact hp.elim
      | panic ch => exact hp.elim
      | outgrown => exact hp.elim
    · rintro e W2 ⟨⟨v, rfl⟩, hi, hx, hl⟩
      exact ⟨none, _, by have := run_endLoop (P := Tryz.prog) hl (by rw [hrec]; simp); rw [hrec] at this; exact this, hdone _ (hI _ _ _ hi (Turn.putObj _ hl rfl (by omega)))⟩
end Go.Proofs.YtplaohmdllindaaGreatDoor

/- Rows that are the call's own, over a SplitSeq's turn. -/
namespace Go.Proofs.YtplaohmdllindaaGreatDoor
open Go.RowKit
variable {α : Type} {k : Kind α}
theorem OwnsG.turn {w w' : World} {B bs : Nat} {base : Nat} {v : Value} {ts : List α} (h : OwnsG k w base v ts) (hb : Turn B bs w w') (hbs : bs < base) : OwnsG k w' base v ts := by
  refine ⟨h.1, ?_⟩
  rcases h.2 with h2 | ⟨g, cap, cur, rfl, h3, h4, h5⟩
  · exact .inl h2
  · exact .inr ⟨g, cap, cur, rfl, h3, hb.block g _ h4 (by omega) (.inr rfl), h5⟩
end Go.Proofs.YtplaohmdllindaaGreatDoor

/- In a round of a loop over a function, too, an operation that reads no world may be taken first, where no operation of the region defers. -/
namespace Go.Proofs.YtplaohmdllindaaGreatDoor
section
variable {F : Fence} {n : Nat} {P : Program} {ops : Array Oper} {Q : Exit → Act → World → Prop} {md : Region.Mode}

def noDefer (ops : Array Oper) : Bool := ops.all fun o => match o.op with | .defer _ => false | _ => true
theorem noDefer_at (h : noDefer ops = true) {j : Nat} {o : Oper} (ho : ops[j]? = some o) (F : Fence) (a : Act) : Oper.semAt F.round a.eval o = execOp a.eval o := by
  refine Oper.semAt_eq _ _ _ (fun c e => ?_)
  have := Array.all_eq_true_iff_forall_mem.1 h o (Array.mem_of_getElem? ho)
  simp [e] at this

/-- what the operation does, told of any place that it is done at -/
def stepOf (F : Fence) (n : Nat) (P : Program) (o : Oper) (Q : Exit → Act → World → Prop) (K : Act → World → Prop) (ops : Array Oper) (a : Act) (w : World) : Prop :=
  (∀ f, o.about P w a.eval = some f → F.fn f) ∧ if Region.wanted o (yielded ops a.tmps) then o.uponIn F n P a K Q ((execOp a.eval o).run P w) else K (a.put o.dst undef) w

theorem step_iff (hd : noDefer ops = true) {j : Nat} {o : Oper} (ho : ops[j]? = some o) {K : Act → World → Prop} {a : Act} {w : World} : wpOpIn F n P ops Q j K a w ↔ stepOf F n P o Q K ops a w := by
  unfold wpOpIn stepOf Oper.wpIn
  simp only [ho, noDefer_at hd ho]
  split <;> exact Iff.rfl

theorem yields_step {o : Oper} {v : Value} {a : Act} (hy : YieldsFenced P ops o v a) {K : Act → World → Prop} {w : World} (h : K (a.put o.dst v) w) : stepOf F n P o Q K ops a w := by
  refine ⟨fun f hf => (by rw [hy.2 w] at hf; cases hf), ?_⟩
  rcases hy.1 with ⟨hw, hv⟩ | ⟨hw, rfl⟩
  · rw [if_pos hw, hv w]; exact h
  · rw [hw]; exact h

theorem step_put {oi oj : Oper} {v : Value} (hap : oi.apart ops oj = true) (hsi : ∀ cs b, oi.op ≠ .select cs b) (hsj : ∀ cs b, oj.op ≠ .select cs b)
    (hQ : ∀ c a w, Q (.panic c) (a.put oi.dst v) w → Q (.panic c) a w) {K : Act → World → Prop} {a : Act} {w : World}
    (hy : YieldsFenced P ops oi v a) (h : stepOf F n P oj Q K ops (a.put oi.dst v) w) :
    stepOf F n P oj Q (fun a' w' => YieldsFenced P ops oi v a' ∧ K (a'.put oi.dst v) w') ops a w := by
  obtain ⟨h1, h2, h3⟩ := Oper.apart_spec hap
  have keep : ∀ (a : Act), YieldsFenced P ops oi v a → ∀ u, YieldsFenced P ops oi v (a.put oj.dst u) := fun a hy u =>
    hy.of_same (execOp_put oi hsi a oj.dst u h3) (wanted_put oi a oj.dst u h3) (fun w => about_put oi w a oj.dst u h3)
  have put : ∀ u, K ((a.put oi.dst v).put oj.dst u) = K ((a.put oj.dst u).put oi.dst v) := fun u => by rw [Act.put_comm a v u h2]
  obtain ⟨g1, g2⟩ := h
  rw [about_put oj w a oi.dst v h1] at g1
  rw [wanted_put oj a oi.dst v h1, execOp_put oj hsj a oi.dst v h1] at g2
  refine ⟨g1, ?_⟩
  split
  · rename_i hw
    rw [if_pos hw] at g2
    cases hr : (execOp a.eval oj).run P w with
    | ok x w' =>
      rw [hr] at g2
      cases x <;> simp only [Oper.uponIn] at g2 ⊢
      case value u => exact ⟨keep a hy u, by rw [← put]; exact g2⟩
      case skip => exact ⟨keep a hy _, by rw [← put]; exact g2⟩
      case defer d => exact ⟨keep { a with defers := d :: a.defers } (hy.of_same rfl rfl (fun _ => rfl)) _, by rw [← Act.put_comm _ v undef h2, ← Act.put_defers]; exact g2⟩
      case enter f args =>
        refine ⟨g2.1, CallsIn.mono g2.2 fun e w'' he => ?_⟩
        cases e with
        | returned u => exact ⟨keep a hy u, by rw [← put]; exact he⟩
        | panicked c => exact hQ _ _ _ he
        | outgrown => exact he
      case row row args => exact ⟨g2.1, RowsIn.mono g2.2 fun u w'' he => ⟨keep a hy u, by rw [← put]; exact he⟩⟩
      case round l f tmps assign body =>
        refine ⟨g2.1, RoundIn.mono g2.2 fun e w'' he => ?_⟩
        cases e with
        | returned u => exact ⟨keep a hy u, by rw [← put]; exact he⟩
        | panicked c => exact hQ _ _ _ he
        | outgrown => exact he
    | halt x w' =>
      rw [hr] at g2
      cases x <;> simp only [Oper.uponIn] at g2 ⊢
      case panic u => exact hQ _ _ _ g2
  · rename_i hw
    rw [if_neg hw] at g2
    exact ⟨keep a hy _, by rw [← put]; exact g2⟩

theorem first_r {i : Nat} {oi : Oper} {v : Value} (hd : noDefer ops = true) (hi : ops[i]? = some oi) (hsel : ∀ (j : Nat) (o : Oper) cs b, ops[j]? = some o → o.op ≠ .select cs b)
    (hQ : ∀ c a w, Q (.panic c) (a.put oi.dst v) w → Q (.panic c) a w) :
    ∀ (fuel : Nat) (listed : Array Bool) (a : Act) (w : World),
      (∀ j oj, ops[j]? = some oj → j ≠ i → listed.getD j true = false → (∀ e ∈ oj.after, Region.binds md e = true → e.on ≠ i) → oi.apart ops oj = true) →
      i ∈ Region.ready md ops listed → YieldsFenced P ops oi v a →
      wpAnyIn F n P md ops Q fuel (listed.setIfInBounds i true) (a.put oi.dst v) w → wpAnyIn F n P md ops Q (fuel + 1) listed a w
  | fuel, listed, a, w => fun hfree hr hy H => by
    refine ⟨fun h => (by rw [h] at hr; cases hr), fun j hj => ?_⟩
    by_cases hji : j = i
    · subst hji; exact (step_iff hd hi).2 (yields_step hy H)
    · cases fuel with
      | zero => have := ready_mono hj hji; rw [H.1] at this; cases this
      | succ fuel =>
        have h1 := H.2 j (ready_mono hj hji)
        obtain ⟨hjun, oj, hoj, hall⟩ := mem_ready.1 hj
        have hnot : ∀ e ∈ oj.after, Region.binds md e = true → e.on ≠ i := fun e he hb heq => by
          have h2 := hall e he hb
          have h0 := (mem_ready.1 hr).1
          rw [heq] at h2
          rcases Nat.lt_or_ge i listed.size with h' | h'
          · simp [h'] at h0 h2; rw [h0] at h2; cases h2
          · simp [Array.getElem?_eq_none h'] at h2
        have h2 := step_put (hfree j oj hoj hji hjun hnot) (fun cs b => hsel i oi cs b hi) (fun cs b => hsel j oj cs b hoj) hQ hy ((step_iff hd hoj).1 h1)
        refine wpOpIn_mono (fun a' w' h3 => first_r hd hi hsel hQ fuel (listed.setIfInBounds j true) a' w' (fun k ok hk hki hun hno => hfree k ok hk hki ?_ hno) (ready_mono hr (Ne.symm hji)) h3.1 ?_) ((step_iff hd hoj).2 h2)
        · by_cases hjk : j = k
          · subst hjk; exact hjun
          · rw [getD_set_ne true hjk] at hun; exact hun
        · rw [Array.setIfInBounds_comm _ _ hji]; exact h3.2

theorem take_r {i : Nat} {oi : Oper} {v : Value} {fuel : Nat} {listed : Array Bool} {a : Act} {w : World} (hd : noDefer ops = true) (hi : ops[i]? = some oi)
    (hs : Region.noSelect ops = true) (hf : Region.free md ops listed i = true) (hr : (Region.ready md ops listed).contains i = true)
    (hQ : ∀ c a w, Q (.panic c) (a.put oi.dst v) w → Q (.panic c) a w) (hw : Region.wanted oi (yielded ops a.tmps) = true) (hy : ∀ w, (execOp a.eval oi).run P w = .ok (.value v) w) (ha : ∀ w, oi.about P w a.eval = none)
    (h : wpAnyIn F n P md ops Q fuel (listed.setIfInBounds i true) (a.put oi.dst v) w) : wpAnyIn F n P md ops Q (fuel + 1) listed a w :=
  first_r hd hi (Region.noSelect_spec hs) hQ fuel listed a w (Region.free_spec hi hf) (by simpa using hr) ⟨Or.inl ⟨hw, hy⟩, ha⟩ h
end
end Go.Proofs.YtplaohmdllindaaGreatDoor

/- What is told by blocks that stay. -/
namespace Go.Proofs.YtplaohmdllindaaGreatDoor
open Go.RowKit

/-- Φ holds of each world that bears these blocks (from lo on, below hi, cells of these types) as W bears them -/
def Held (W : World) (lo hi : Nat) (Ts : List TypeId) (Φ : World → Prop) : Prop :=
  ∃ G : List (Nat × Array Value × TypeId), (∀ x ∈ G, lo ≤ x.1 ∧ x.1 < hi ∧ x.2.2 ∈ Ts ∧ W.heap[x.1]? = some (.cells x.2.1 x.2.2 (0, 0))) ∧
    ∀ W' : World, (∀ x ∈ G, W'.heap[x.1]? = some (.cells x.2.1 x.2.2 (0, 0))) → Φ W'
variable {W W' : World} {lo hi lo' hi' : Nat} {Ts Ts' : List TypeId} {Φ Ψ : World → Prop}
theorem Held.now (h : Held W lo hi Ts Φ) : Φ W := by
  obtain ⟨G, h1, h2⟩ := h
  exact h2 W fun x hx => (h1 x hx).2.2.2
theorem Held.kept (h : Held W lo hi Ts Φ) (hk : ∀ k cur t, lo ≤ k → k < hi → t ∈ Ts → W.heap[k]? = some (.cells cur t (0, 0)) → W'.heap[k]? = W.heap[k]?) : Held W' lo hi Ts Φ := by
  obtain ⟨G, h1, h2⟩ := h
  exact ⟨G, fun x hx => ⟨(h1 x hx).1, (h1 x hx).2.1, (h1 x hx).2.2.1, (hk _ _ _ (h1 x hx).1 (h1 x hx).2.1 (h1 x hx).2.2.1 (h1 x hx).2.2.2).trans (h1 x hx).2.2.2⟩, h2⟩
theorem Held.mono (h : Held W lo hi Ts Φ) (hlo : lo' ≤ lo) (hhi : hi ≤ hi') (hT : ∀ t ∈ Ts, t ∈ Ts') (hΦ : ∀ W, Φ W → Ψ W) : Held W lo' hi' Ts' Ψ := by
  obtain ⟨G, h1, h2⟩ := h
  exact ⟨G, fun x hx => ⟨by have := (h1 x hx).1; omega, by have := (h1 x hx).2.1; omega, hT _ (h1 x hx).2.2.1, (h1 x hx).2.2.2⟩, fun W' hW => hΦ _ (h2 W' hW)⟩
theorem Held.pure (h : ∀ W, Φ W) : Held W lo hi Ts Φ := ⟨[], ⟨fun _ hx => (List.not_mem_nil hx).elim, fun W' _ => h W'⟩⟩
theorem Held.and (h : Held W lo hi Ts Φ) (k : Held W lo hi Ts Ψ) : Held W lo hi Ts (fun W => Φ W ∧ Ψ W) := by
  obtain ⟨G, h1, h2⟩ := h
  obtain ⟨G', k1, k2⟩ := k
  refine ⟨G ++ G', fun x hx => ?_, fun W' hW => ⟨h2 W' fun x hx => hW x (by simp [hx]), k2 W' fun x hx => hW x (by simp [hx])⟩⟩
  rcases List.mem_append.1 hx with hx | hx
  · exact h1 x hx
  · exact k1 x hx
theorem Held.all {β : Type} {Φ : β → World → Prop} {l : List β} (h : ∀ b ∈ l, Held W lo hi Ts (Φ b)) : Held W lo hi Ts (fun W => ∀ b ∈ l, Φ b W) := by
  induction l with
  | nil => exact .pure fun _ b hb => (List.not_mem_nil hb).elim
  | cons b l ih =>
    refine ((h b (List.mem_cons_self ..)).and (ih fun c hc => h c (List.mem_cons_of_mem _ hc))).mono (Nat.le_refl _) (Nat.le_refl _) (fun _ h => h) fun W hW c hc => ?_
    rcases List.mem_cons.1 hc with rfl | hc
    · exact hW.1
    · exact hW.2 c hc
theorem Held.block {k : Nat} {cur : Array Value} {t : TypeId} (h : W.heap[k]? = some (.cells cur t (0, 0))) (h1 : lo ≤ k) (h2 : k < hi) (h3 : t ∈ Ts) : Held W lo hi Ts (fun W' => W'.heap[k]? = some (.cells cur t (0, 0))) :=
  ⟨[(k, cur, t)], fun x hx => by simp at hx; subst hx; exact ⟨h1, h2, h3, h⟩, fun W' hW => hW (k, cur, t) (by simp)⟩
theorem Held.lt (h : W.heap.size ≤ W'.heap.size) (k : Held W lo W.heap.size Ts Φ) (hk : ∀ k cur t, lo ≤ k → k < W.heap.size → t ∈ Ts → W.heap[k]? = some (.cells cur t (0, 0)) → W'.heap[k]? = W.heap[k]?) : Held W' lo W'.heap.size Ts Φ :=
  (k.kept hk).mono (Nat.le_refl _) h (fun _ h => h) fun _ h => h
theorem OwnsG.held {α : Type} {k : Kind α} {base : Nat} {v : Value} {ts : List α} (h : OwnsG k W base v ts) : Held W base W.heap.size [k.e] (fun W' => OwnsG k W' base v ts) := by
  rcases h.2 with h2 | ⟨g, cap, cur, h1, h3, h4, h5⟩
  · exact .pure fun W' => ⟨h.1, .inl h2⟩
  · exact (Held.block h4 h3 (Array.getElem?_eq_some_iff.1 h4).1 (by simp)).mono (Nat.le_refl _) (Nat.le_refl _) (fun _ h => h) fun W' h' => ⟨h.1, .inr ⟨g, cap, cur, h1, h3, h', h5⟩⟩
end Go.Proofs.YtplaohmdllindaaGreatDoor

/- A row appended to a row that is the call's own. -/
namespace Go.Proofs.YtplaohmdllindaaGreatDoor
open Go.RowKit

variable {α : Type} {k : Kind α}
theorem rowCells_length (ts : List α) : (rowCells k ts).length = ts.length * k.size := by
  induction ts with
  | nil => simp [rowCells]
  | cons x r ih =>
    unfold rowCells at *
    rw [List.map_cons, List.flatten_cons, List.length_append, ih, k.hlen, List.length_cons, Nat.succ_mul]
    omega
theorem rowCells_inv (ts : List α) : ∀ (j : Nat) u, (rowCells k ts)[j]? = some u → ∃ q t i, j = q * k.size + i ∧ ts[q]? = some t ∧ (k.cells t)[i]? = some u := by
  induction ts with
  | nil => intro j u h; simp [rowCells] at h
  | cons x r ih =>
    intro j u h
    unfold rowCells at *
    rw [List.map_cons, List.flatten_cons] at h
    by_cases hj : j < k.size
    · rw [List.getElem?_append_left (by rw [k.hlen]; exact hj)] at h
      exact ⟨0, x, j, by simp, rfl, h⟩
    · rw [List.getElem?_append_right (by rw [k.hlen]; omega), k.hlen] at h
      obtain ⟨q, t, i, h1, h2, h3⟩ := ih _ _ h
      exact ⟨q + 1, t, i, by rw [Nat.succ_mul]; omega, by simpa using h2, h3⟩
theorem rowCells_one (ts : List α) : ∀ u ∈ rowCells k ts, u.oneCell' = true := by
  intro u hu
  obtain ⟨j, hj⟩ := List.mem_iff_getElem?.1 hu
  obtain ⟨q, t, i, _, _, h3⟩ := rowCells_inv ts j u hj
  exact k.hone t u (List.mem_of_getElem? h3)
theorem rowCells_append (a b : List α) : rowCells k (a ++ b) = rowCells k a ++ rowCells k b := by unfold rowCells; simp

/-- a row lies there -/
def LiesG (k : Kind α) (w : World) (A : Option Addr) (ys : List α) : Prop :=
  ys = [] ∨ ∃ b o, A = some ⟨b, o, none⟩ ∧ ∀ (j : Nat) t i u, ys[j]? = some t → (k.cells t)[i]? = some u → w.cell? ⟨b, o + j * k.size + i, none⟩ = some u
theorem append_manyG {w : World} {base : Nat} {v : Value} {ts ys : List α} {A : Option Addr} {c : Nat} (h : OwnsG k w base v ts) (hy : LiesG k w A ys) (hA : A = none → c = 0) (ty : TypeId) (hb : base ≤ w.heap.size) (hn : (ts.length + ys.length) * k.bytes ≤ 140737488355328) (hn2 : ts.length + ys.length ≤ 9223372036854775807) :
    ∃ v' w', (Builtin.append_ #[k.sl, k.sl] ty #[v, .slice A ys.length c]).run Tryz.prog w = .ok v' w' ∧ OwnsG k w' base v' (ts ++ ys) ∧ Off v.ownBlock.toList w w' := by
  obtain ⟨i, hi, hz, hsz, hby⟩ := k.hi
  cases A with
  | none =>
    obtain rfl := hA rfl
    obtain rfl : ys = [] := by
      rcases hy with h1 | ⟨b, o, h1, _⟩
      · exact h1
      · cases h1
    exact ⟨v, w, run_append_owned_none w base k.sl ty k.e i k.size k.hsl hi v ts.length _ h, by rw [List.append_nil]; exact h, Off.refl _ _⟩
  | some a =>
    obtain ⟨v', w', h1, h2, h3, _⟩ := run_append_own (P := Tryz.prog) w base k.sl ty k.e i _ k.size k.bytes k.hsl hi hz hsz hby k.hzs k.hpos v ts.length _ h
      a ys.length c (rowCells k ys) (rowCells_length ys) (fun j u hj => by
        rcases hy with h1 | ⟨b, o, h1, h2⟩
        · subst h1; simp [rowCells] at hj
        · cases h1
          obtain ⟨q, t, i, rfl, ht, hu⟩ := rowCells_inv ys j u hj
          rw [Go.WideShapes.add_plain, ← Nat.add_assoc]
          exact h2 q t i u ht hu) (rowCells_one ys) hn2 hn hb
    refine ⟨v', w', h1, ?_, grown_off h3 fun k hk => by simp [hk]⟩
    unfold OwnsG
    rw [List.length_append, rowCells_append]
    exact h2
theorem OwnsG.grown {wa wb : World} {base : Nat} {v : Value} {ts : List α} (h : OwnsG k wa base v ts) (hoff : Off v.ownBlock.toList wa wb) (hb : base ≤ wa.heap.size) : Below base wa wb :=
  hoff.toBelow (fun g hg => (h.block g hg).1) hb
end Go.Proofs.YtplaohmdllindaaGreatDoor

/- A row of one's own: one cell of one thing turned; append that tells where the row lies then. -/
namespace Go.Proofs.YtplaohmdllindaaGreatDoor
open Go.RowKit

variable {α : Type} {k : Kind α}
theorem rowCells_set (ts : List α) : ∀ (i p : Nat) (t' : α) (u : Value), i < ts.length → p < k.size → (∀ t, ts[i]? = some t → k.cells t' = (k.cells t).set p u) → rowCells k (ts.set i t') = (rowCells k ts).set (i * k.size + p) u := by
  induction ts with
  | nil => intro i p t' u h; simp at h
  | cons x r ih =>
    intro i p t' u hi hp h
    unfold rowCells at *
    cases i with
    | zero =>
      rw [List.set_cons_zero, List.map_cons, List.map_cons, List.flatten_cons, List.flatten_cons, h x rfl, Nat.zero_mul, Nat.zero_add, List.set_append_left _ _ (by rw [k.hlen]; exact hp)]
    | succ i =>
      rw [List.set_cons_succ, List.map_cons, List.map_cons, List.flatten_cons, List.flatten_cons, ih i p t' u (by simpa using hi) hp (fun t ht => h t (by simpa using ht)), List.set_append_right _ _ (by rw [k.hlen, Nat.succ_mul]; omega), k.hlen, Nat.succ_mul]
      congr 2
      omega
theorem OwnsG.turnAt {w : World} {base g n c : Nat} {ts : List α} (h : OwnsG k w base (.slice (some ⟨g, 0, none⟩) n c) ts) (i p : Nat) (t' : α) (u : Value) (hi : i < ts.length) (hp : p < k.size) (ht : ∀ t, ts[i]? = some t → k.cells t' = (k.cells t).set p u) :
    OwnsG k (w.setCell ⟨g, i * k.size + p, none⟩ u) base (.slice (some ⟨g, 0, none⟩) n c) (ts.set i t') := by
  obtain ⟨A, c', he, _⟩ := h.form
  have hn : n = ts.length := by injection he with _ h1 _
  subst hn
  unfold OwnsG at *
  rw [List.length_set, rowCells_set ts i p t' u hi hp ht]
  exact (World.ownsRow.stored h (i * k.size + p) u).1
theorem OwnsG.frozen {w : World} {base g n c : Nat} {ts : List α} (h : OwnsG k w base (.slice (some ⟨g, 0, none⟩) n c) ts) (j : Nat) : w.frozen? ⟨g, j, none⟩ = false := by
  obtain ⟨A, c', he, _⟩ := h.form
  have hn : n = ts.length := by injection he with _ h1 _
  subst hn
  exact World.ownsRow.frozenAt h j
theorem OwnsG.cells {w : World} {base g n c : Nat} {ts : List α} (h : OwnsG k w base (.slice (some ⟨g, 0, none⟩) n c) ts) {j : Nat} {t : α} (ht : ts[j]? = some t) {i : Nat} {u : Value} (hu : (k.cells t)[i]? = some u) : w.cell? ⟨g, j * k.size + i, none⟩ = some u := by
  obtain ⟨A, c', he, _, _, _, h5⟩ := h.form
  injection he with e1 _ _
  rcases h5 with h5 | ⟨g', h6, _, _, h7⟩
  · rw [h5] at ht; simp at ht
  · rw [h6] at e1
    cases e1
    exact h7 j t i u ht hu

/-- where an appended row lies -/
theorem append_gB {w : World} {base : Nat} {v : Value} {ts : List α} {b c : Nat} (t : α) (h : OwnsG k w base v ts) (hc : ∀ i u, (k.cells t)[i]? = some u → w.cell? ⟨b, i, none⟩ = some u) (ty : TypeId) (hb : base ≤ w.heap.size) (hn : (ts.length + 1) * k.bytes ≤ 140737488355328) (hn2 : ts.length + 1 ≤ 9223372036854775807) :
    ∃ v' w', (Builtin.append_ #[k.sl, k.sl] ty #[v, .slice (some ⟨b, 0, none⟩) 1 c]).run Tryz.prog w = .ok v' w' ∧ OwnsG k w' base v' (ts ++ [t]) ∧ Off v.ownBlock.toList w w' ∧ (v'.ownBlock = v.ownBlock ∨ v'.ownBlock = some w.heap.size) := by
  obtain ⟨i, hi, hz, hsz, hby⟩ := k.hi
  obtain ⟨v', w', h1, h2, h3, _, h5⟩ := run_append_own_at (P := Tryz.prog) w base k.sl ty k.e i _ k.size k.bytes k.hsl hi hz hsz hby k.hzs k.hpos v ts.length _ h
    ⟨b, 0, none⟩ 1 c (k.cells t) (by rw [k.hlen, Nat.one_mul]) (fun j u hj => by rw [Go.WideShapes.add_plain, Nat.zero_add]; exact hc j u hj)
    (k.hone t) hn2 hn hb
  refine ⟨v', w', h1, ?_, grown_off h3 (fun k hk => by simp [hk]), h5⟩
  unfold OwnsG
  rw [List.length_append]
  have e : rowCells k (ts ++ [t]) = rowCells k ts ++ k.cells t := by unfold rowCells; simp
  rw [e]
  exact h2
theorem wpList_append_gB {w : World} {ops : Array Oper} {rest : List Oper} {o : Oper} {a : Act} {Q : Exit → Act → World → Prop} (hgd : o.guard = none) (s x : Operand)
    (ho : o.op = .call { callee := .builtin .append, args := #[s, x], argTypes := #[k.sl, k.sl] }) {base : Nat} {v : Value} {ts : List α} {b c : Nat} (t : α)
    (hs : a.eval s = v) (hx : a.eval x = .slice (some ⟨b, 0, none⟩) 1 c) (hown : OwnsG k w base v ts) (hc : ∀ i u, (k.cells t)[i]? = some u → w.cell? ⟨b, i, none⟩ = some u) (hb : base ≤ w.heap.size) (hn : (ts.length + 1) * k.bytes ≤ 140737488355328) (hn2 : ts.length + 1 ≤ 9223372036854775807)
    (h : ∀ v' w', OwnsG k w' base v' (ts ++ [t]) → Off v.ownBlock.toList w w' → (v'.ownBlock = v.ownBlock ∨ v'.ownBlock = some w.heap.size) → wpList Tryz.prog ops Q rest (a.put o.dst v') w') : wpList Tryz.prog ops Q (o :: rest) a w := by
  refine wpList_plain hgd fun K hK => ?_
  obtain ⟨v', w', hr, h2, h3, h4⟩ := append_gB (c := c) t hown hc o.type hb hn hn2
  unfold Oper.wp execOp
  simp only [ho, resolve, invoke, builtin, Sem.run_bind, Sem.run_pure, Result.andThen_ok, List.map_toArray, List.map_cons, List.map_nil, hs, hx, hr]
  exact hK _ _ (h v' w' h2 h3 h4)
/-- at a step of a region that draws its order -/
theorem step_append_gB {w : World} {ops : Array Oper} {o : Oper} {a : Act} {K : Act → World → Prop} {Q : Exit → Act → World → Prop} {E : Prop} (hgd : o.guard = none) (s x : Operand)
    (ho : o.op = .call { callee := .builtin .append, args := #[s, x], argTypes := #[k.sl, k.sl] }) {base : Nat} {v : Value} {ts : List α} {b c : Nat} (t : α)
    (hs : a.eval s = v) (hx : a.eval x = .slice (some ⟨b, 0, none⟩) 1 c) (hown : OwnsG k w base v ts) (hc : ∀ i u, (k.cells t)[i]? = some u → w.cell? ⟨b, i, none⟩ = some u) (hb : base ≤ w.heap.size) (hn : (ts.length + 1) * k.bytes ≤ 140737488355328) (hn2 : ts.length + 1 ≤ 9223372036854775807)
    (h : ∀ v' w', OwnsG k w' base v' (ts ++ [t]) → Off v.ownBlock.toList w w' → (v'.ownBlock = v.ownBlock ∨ v'.ownBlock = some w.heap.size) → K (a.put o.dst v') w') :
    if Region.wanted o (yielded ops a.tmps) = true then Oper.wp Tryz.prog o a w K Q else E := by
  have hw : Region.wanted o (yielded ops a.tmps) = true := by simp [Region.wanted, hgd]
  rw [if_pos hw]
  obtain ⟨v', w', hr, h2, h3, h4⟩ := append_gB (c := c) t hown hc o.type hb hn hn2
  unfold Oper.wp execOp
  simp only [ho, resolve, invoke, builtin, Sem.run_bind, Sem.run_pure, Result.andThen_ok, List.map_toArray, List.map_cons, List.map_nil, hs, hx, hr]
  exact h v' w' h2 h3 h4
/-- whatever block is the row's own then was so or is new -/
def Fresh (w : World) (v v' : Value) : Prop := ∀ g ∈ v'.ownBlock.toList, g ∈ v.ownBlock.toList ∨ w.heap.size ≤ g
theorem Fresh.refl (w : World) (v : Value) : Fresh w v v := fun _ h => .inl h
theorem Fresh.of {w : World} {v v' : Value} (h : v'.ownBlock = v.ownBlock ∨ v'.ownBlock = some w.heap.size) : Fresh w v v' := by
  intro g hg
  rcases h with h | h
  · rw [h] at hg; exact .inl hg
  · rw [h] at hg; simp at hg; exact .inr (by omega)
theorem Fresh.trans {w w1 : World} {v v1 v2 : Value} (h : Fresh w v v1) (k : Fresh w1 v1 v2) (hs : w.heap.size ≤ w1.heap.size) : Fresh w v v2 := by
  intro g hg
  rcases k g hg with k | k
  · exact h g k
  · exact .inr (by omega)
theorem Fresh.not {w : World} {v v' : Value} {b : Nat} (h : Fresh w v v') (hb : b ∉ v.ownBlock.toList) (hlt : b < w.heap.size) : b ∉ v'.ownBlock.toList := by
  intro hm
  rcases h b hm with h | h
  · exact hb h
  · omega
end Go.Proofs.YtplaohmdllindaaGreatDoor

/- Rows of args. -/
namespace Go.Proofs.YtplaohmdllindaaGreatDoor
open Go.RowKit

structure ArgC where
  name : ByteArray
  isNum : Bool
  coef : Int
  scale : Int
  text : ByteArray
/-- an arg lies at a place -/
def ArgAt (w : World) (b o : Nat) (x : ArgC) : Prop :=
  w.cell? ⟨b, o, none⟩ = some (.string x.name) ∧ w.cell? ⟨b, o + 1, none⟩ = some (.bool x.isNum) ∧ w.cell? ⟨b, o + 2, none⟩ = some (.int .i64 x.coef) ∧ w.cell? ⟨b, o + 3, none⟩ = some (.int .i64 x.scale) ∧ w.cell? ⟨b, o + 4, none⟩ = some (.string x.text)
theorem ArgAt.below {w w' : World} {b o : Nat} {x : ArgC} (h : ArgAt w b o x) (hb : Below w.heap.size w w') : ArgAt w' b o x :=
  ⟨carry hb h.1, carry hb h.2.1, carry hb h.2.2.1, carry hb h.2.2.2.1, carry hb h.2.2.2.2⟩
/-- args lie there -/
def ArgsIn (w : World) (A : Option Addr) (l : List ArgC) : Prop :=
  l = [] ∨ ∃ b o, A = some ⟨b, o, none⟩ ∧ ∀ (j : Nat) x, l[j]? = some x → ArgAt w b (o + j * 5) x
theorem ArgsIn.below {w w' : World} {A : Option Addr} {l : List ArgC} (h : ArgsIn w A l) (hb : Below w.heap.size w w') : ArgsIn w' A l := by
  rcases h with h | ⟨b, o, h1, h2⟩
  · exact .inl h
  · exact .inr ⟨b, o, h1, fun j x hx => (h2 j x hx).below hb⟩
theorem ArgsIn.at {w : World} {A : Option Addr} {l : List ArgC} (h : ArgsIn w A l) (hp : 0 < l.length) : ∃ b o, A = some ⟨b, o, none⟩ ∧ ∀ (j : Nat) x, l[j]? = some x → ArgAt w b (o + j * 5) x := by
  rcases h with h | h
  · rw [h] at hp; simp at hp
  · exact h
end Go.Proofs.YtplaohmdllindaaGreatDoor

/- The reference's ArgOf. -/
namespace Go.Proofs.YtplaohmdllindaaGreatDoor
open Go.RowKit

def hasA (name : ByteArray) (x : ArgC) : Bool := x.name.toList == name.toList
end Go.Proofs.YtplaohmdllindaaGreatDoor

/- Blocks and their types: what keeps a row apart from another one. -/
namespace Go.Proofs.YtplaohmdllindaaGreatDoor
open Go.RowKit

/-- block b holds things of type t -/
def TyAt (w : World) (b : Nat) (t : TypeId) : Prop := ∃ cur, w.heap[b]? = some (.cells cur t (0, 0))
theorem TyAt.lt {w : World} {b : Nat} {t : TypeId} (h : TyAt w b t) : b < w.heap.size := by
  obtain ⟨cur, h⟩ := h
  exact (Array.getElem?_eq_some_iff.1 h).1
theorem TyAt.off {w w' : World} {b : Nat} {t : TypeId} {m : List Nat} (h : TyAt w b t) (hm : Off m w w') (hb : b ∉ m) : TyAt w' b t := by
  have hl := h.lt
  obtain ⟨cur, h⟩ := h
  exact ⟨cur, (hm.block b hl hb).trans h⟩
theorem TyAt.below {w w' : World} {b : Nat} {t : TypeId} (h : TyAt w b t) (hb : Below w.heap.size w w') : TyAt w' b t := by
  have hl := h.lt
  obtain ⟨cur, h⟩ := h
  exact ⟨cur, (hb.block b hl).trans h⟩
theorem TyAt.set {w : World} {b : Nat} {t : TypeId} (h : TyAt w b t) (g j : Nat) (u : Value) : TyAt (w.setCell ⟨g, j, none⟩ u) b t := by
  have hl := h.lt
  obtain ⟨cur, h⟩ := h
  by_cases e : b = g
  · subst e
    exact ⟨_, heap_setCell_same w b j cur t u h⟩
  · exact ⟨cur, (heap_setCell_other w ⟨g, j, none⟩ b u (fun e' => e (by simpa using e'))).trans h⟩
theorem TyAt.new (w : World) (cur : Array Value) (t : TypeId) : TyAt (w.alloc (.cells cur t)) w.heap.size t := ⟨cur, Go.heap_alloc_new w _⟩
theorem TyAt.frozen {w : World} {b : Nat} {t : TypeId} (h : TyAt w b t) (j : Nat) : w.frozen? ⟨b, j, none⟩ = false := by
  obtain ⟨cur, h⟩ := h
  exact frozen_of_row w b j cur t h
theorem TyAt.not {α : Type} {k : Kind α} {w : World} {b base : Nat} {t : TypeId} {v : Value} {ts : List α} (h : TyAt w b t) (ho : OwnsG k w base v ts) (ht : t ≠ k.e) : b ∉ v.ownBlock.toList := by
  intro hm
  obtain ⟨cur, h⟩ := h
  obtain ⟨_, cur', h'⟩ := ho.block b hm
  rw [h] at h'
  injection h' with h'
  injection h' with _ h2 _
  exact ht h2
theorem TyAt.ne {w : World} {b b' : Nat} {t t' : TypeId} (h : TyAt w b t) (h' : TyAt w b' t') (ht : t ≠ t') : b ≠ b' := by
  rintro rfl
  obtain ⟨cur, h⟩ := h
  obtain ⟨cur', h'⟩ := h'
  rw [h] at h'
  injection h' with h'
  injection h' with _ h2 _
  exact ht h2
theorem OwnsG.ty {α : Type} {k : Kind α} {w : World} {base : Nat} {v : Value} {ts : List α} (h : OwnsG k w base v ts) : ∀ g ∈ v.ownBlock.toList, TyAt w g k.e := fun g hg => (h.block g hg).2
end Go.Proofs.YtplaohmdllindaaGreatDoor

/- Rows of entries that are the call's own. -/
namespace Go.Proofs.YtplaohmdllindaaGreatDoor
open Go.RowKit

def EntC.cells (x : EntC) : List Value := [.string x.key, .string x.text]
def kEnt : Kind EntC where
  e := 61
  sl := 62
  size := 2
  bytes := 32
  cells := EntC.cells
  zero := .agg #[.string ⟨#[]⟩, .string ⟨#[]⟩]
  hsl := Tryz.underlying62
  hi := by
    have h : (Tryz.prog.info? 61).map (fun i => (i.zero, i.size, i.bytes)) = some (some (.agg #[.string ⟨#[]⟩, .string ⟨#[]⟩]), 2, 32) := by kernel_rfl
    obtain ⟨i, hi, h2⟩ := Option.map_eq_some_iff.1 h
    simp only [Prod.mk.injEq] at h2
    exact ⟨i, hi, h2.1, h2.2.1, h2.2.2⟩
  hzs := rfl
  hpos := by decide
  hlen := fun _ => rfl
  hone := fun x u hu => by
    simp only [EntC.cells, List.mem_cons, List.not_mem_nil, or_false] at hu
    rcases hu with rfl | rfl <;> rfl
theorem EntsIn.lies {w : World} {A : Option Addr} {l : List EntC} (h : EntsIn w A l) : LiesG kEnt w A l := by
  rcases h with h | ⟨b, o, rfl, h2⟩
  · exact .inl h
  · refine .inr ⟨b, o, rfl, fun j x i u hx hu => ?_⟩
    obtain ⟨c0, c1⟩ := h2 j x hx
    match i, hu with
    | 0, hu => cases hu; exact c0
    | 1, hu => cases hu; exact c1
end Go.Proofs.YtplaohmdllindaaGreatDoor
