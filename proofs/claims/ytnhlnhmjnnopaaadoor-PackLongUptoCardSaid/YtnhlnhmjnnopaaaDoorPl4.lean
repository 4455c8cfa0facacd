/- RowG, AppendG, RowSet, TyAt, PackRow, PackNumber, PackText, PackTable, PackSum, Ent: texts put together. -/
import Derived.OwnWalkIn
import Derived.TacticsInMore
import Derived.LoopNIn
import Derived.LoopIn
import Derived.Test.YtnhlnhmjnnopaaaDoorPl3
import Derived.Maps.AppendAt
import Derived.Laws.Rows
import Derived.Lib.AppendStr
import Derived.Deep.RegionLaw
import Derived.BigRegion
import Derived.Deep.WholeRow
set_option linter.unusedVariables false
set_option linter.unusedSimpArgs false
/- Rows of things of several cells that are the call's own. -/
namespace Go.Proofs.YtnhlnhmjnnopaaaDoor
open Go.RowKit

/-- what a type's row is made of: its number, its size, its bytes, its zero -/
structure Kind (α : Type) where
  e : TypeId
  sl : TypeId
  size : Nat
  bytes : Nat
  cells : α → List Value
  zero : Value
  hsl : Tryd.prog.underlying sl = some (.slice e)
  hi : ∃ i, Tryd.prog.info? e = some i ∧ i.zero = some zero ∧ i.size = size ∧ i.bytes = bytes
  hzs : zero.cells.size = size
  hpos : 0 < size
  hlen : ∀ t, (cells t).length = size
  hone : ∀ t, ∀ u ∈ cells t, u.oneCell' = true

variable {α : Type} (k : Kind α)
def rowCells (ts : List α) : List Value := (ts.map k.cells).flatten
theorem rowCells_at (ts : List α) : ∀ (j : Nat) t i v, ts[j]? = some t → (k.cells t)[i]? = some v → (rowCells k ts)[j * k.size + i]? = some v := by
  induction ts with
  | nil => intro j t i v h; simp at h
  | cons x r ih =>
    intro j t i v h hv
    unfold rowCells at *
    rw [List.map_cons, List.flatten_cons]
    have hx := k.hlen x
    cases j with
    | zero =>
      simp at h
      subst h
      have hi : i < k.size := by have := (List.getElem?_eq_some_iff.1 hv).1; rw [hx] at this; exact this
      rw [Nat.zero_mul, Nat.zero_add, List.getElem?_append_left (by rw [hx]; exact hi)]
      exact hv
    | succ j =>
      simp only [List.getElem?_cons_succ] at h
      rw [List.getElem?_append_right (by rw [hx, Nat.succ_mul]; omega), hx, show (j + 1) * k.size + i - k.size = j * k.size + i by rw [Nat.succ_mul]; omega]
      exact ih j t i v h hv

/-- A row that is the call's own. -/
def OwnsG (w : World) (base : Nat) (v : Value) (ts : List α) : Prop := w.ownsRow base k.e k.size v ts.length (rowCells k ts)
variable {k}
theorem OwnsG.nil (w : World) (base : Nat) : OwnsG k w base (.slice none 0 0) [] := World.ownsRow_nil w base _ _
theorem OwnsG.alloc {w : World} {base : Nat} {v : Value} {ts : List α} (h : OwnsG k w base v ts) (o : Obj) : OwnsG k (w.alloc o) base v ts := World.ownsRow.alloc h o
/-- it stays where its own block stays -/
theorem OwnsG.kept {w w' : World} {base : Nat} {v : Value} {ts : List α} (h : OwnsG k w base v ts) (hb : ∀ g cur, v.ownBlock = some g → w.heap[g]? = some (.cells cur k.e (0, 0)) → w'.heap[g]? = w.heap[g]?) : OwnsG k w' base v ts := by
  refine ⟨h.1, ?_⟩
  rcases h.2 with h2 | ⟨g, cap, cur, rfl, h3, h4, h5⟩
  · exact .inl h2
  · exact .inr ⟨g, cap, cur, rfl, h3, by rw [hb g cur rfl h4]; exact h4, h5⟩
theorem OwnsG.off {w w' : World} {base : Nat} {v : Value} {ts : List α} {l : List Nat} (h : OwnsG k w base v ts) (hb : Off l w w') (hl : ∀ g, v.ownBlock = some g → g ∉ l) : OwnsG k w' base v ts :=
  h.kept (fun g cur hg hc => hb.block g (Array.getElem?_eq_some_iff.1 hc).1 (hl g hg))
theorem OwnsG.below {w w' : World} {base : Nat} {v : Value} {ts : List α} (h : OwnsG k w base v ts) (hb : Below w.heap.size w w') : OwnsG k w' base v ts :=
  h.kept (fun g cur _ hc => hb.block g (Array.getElem?_eq_some_iff.1 hc).1)
theorem OwnsG.base {w : World} {base b' : Nat} {v : Value} {ts : List α} (h : OwnsG k w base v ts) (hb : b' ≤ base) : OwnsG k w b' v ts := by
  refine ⟨h.1, ?_⟩
  rcases h.2 with h2 | ⟨g, cap, cur, h1, h3, h4⟩
  · exact .inl h2
  · exact .inr ⟨g, cap, cur, h1, by omega, h4⟩
theorem OwnsG.form {w : World} {base : Nat} {v : Value} {ts : List α} (h : OwnsG k w base v ts) : ∃ A c, v = .slice A ts.length c ∧ ts.length ≤ c ∧ c ≤ 9223372036854775807 ∧ (A = none → c = 0) ∧
    (ts = [] ∨ ∃ g, A = some ⟨g, 0, none⟩ ∧ base ≤ g ∧ g < w.heap.size ∧ ∀ (j : Nat) t i u, ts[j]? = some t → (k.cells t)[i]? = some u → w.cell? ⟨g, j * k.size + i, none⟩ = some u) := by
  rcases h.2 with ⟨h1, h2⟩ | ⟨g, cap, cur, rfl, h3, h4, h5, h6, _⟩
  · obtain rfl : ts = [] := List.length_eq_zero_iff.1 h2
    exact ⟨none, 0, h1, Nat.le_refl _, by omega, fun _ => rfl, .inl rfl⟩
  · refine ⟨some ⟨g, 0, none⟩, cap, rfl, h5, h6, (fun h => by cases h), .inr ⟨g, rfl, h3, (Array.getElem?_eq_some_iff.1 h4).1, fun j t i u ht hu => ?_⟩⟩
    have := World.ownsRow.cells h (g := g) rfl (j * k.size + i) u (rowCells_at k ts j t i u ht hu)
    rw [Go.WideShapes.add_plain, Nat.zero_add] at this
    exact this
/-- its own block holds things of its type alone -/
theorem OwnsG.block {w : World} {base : Nat} {v : Value} {ts : List α} (h : OwnsG k w base v ts) : ∀ g ∈ v.ownBlock.toList, base ≤ g ∧ ∃ cur, w.heap[g]? = some (.cells cur k.e (0, 0)) := by
  intro g hg
  rcases h.2 with ⟨h2, _⟩ | ⟨g', cap, cur, rfl, h3, h4, h5⟩
  · rw [h2] at hg; simp [Value.ownBlock] at hg
  · simp [Value.ownBlock] at hg
    subst hg
    exact ⟨h3, cur, h4⟩

theorem append_g {w : World} {base : Nat} {v : Value} {ts : List α} {b c : Nat} (t : α) (h : OwnsG k w base v ts) (hc : ∀ i u, (k.cells t)[i]? = some u → w.cell? ⟨b, i, none⟩ = some u) (ty : TypeId) (hb : base ≤ w.heap.size) (hn : (ts.length + 1) * k.bytes ≤ 140737488355328) (hn2 : ts.length + 1 ≤ 9223372036854775807) :
    ∃ v' w', (Builtin.append_ #[k.sl, k.sl] ty #[v, .slice (some ⟨b, 0, none⟩) 1 c]).run Tryd.prog w = .ok v' w' ∧ OwnsG k w' base v' (ts ++ [t]) ∧ Off v.ownBlock.toList w w' := by
  obtain ⟨i, hi, hz, hsz, hby⟩ := k.hi
  obtain ⟨v', w', h1, h2, h3, _, _⟩ := run_append_own_at (P := Tryd.prog) w base k.sl ty k.e i _ k.size k.bytes k.hsl hi hz hsz hby k.hzs k.hpos v ts.length _ h
    ⟨b, 0, none⟩ 1 c (k.cells t) (by rw [k.hlen, Nat.one_mul]) (fun j u hj => by rw [Go.WideShapes.add_plain, Nat.zero_add]; exact hc j u hj)
    (k.hone t) hn2 hn hb
  refine ⟨v', w', h1, ?_, grown_off h3 (fun k hk => by simp [hk])⟩
  unfold OwnsG
  rw [List.length_append]
  have e : rowCells k (ts ++ [t]) = rowCells k ts ++ k.cells t := by unfold rowCells; simp
  rw [e]
  exact h2

/-- AT THE OPERATION, in a round too. -/
theorem operIn_append_g {F : Fence} {n : Nat} {w : World} {o : Oper} {a : Act} {K : Act → World → Prop} {Q : Exit → Act → World → Prop} (s x : Operand)
    (ho : o.op = .call { callee := .builtin .append, args := #[s, x], argTypes := #[k.sl, k.sl] }) {base : Nat} {v : Value} {ts : List α} {b c : Nat} (t : α)
    (hs : a.eval s = v) (hx : a.eval x = .slice (some ⟨b, 0, none⟩) 1 c) (hown : OwnsG k w base v ts) (hc : ∀ i u, (k.cells t)[i]? = some u → w.cell? ⟨b, i, none⟩ = some u) (hb : base ≤ w.heap.size) (hn : (ts.length + 1) * k.bytes ≤ 140737488355328) (hn2 : ts.length + 1 ≤ 9223372036854775807)
    (h : ∀ v' w', OwnsG k w' base v' (ts ++ [t]) → Off v.ownBlock.toList w w' → K (a.put o.dst v') w') : o.wpIn F n Tryd.prog a w K Q := by
  obtain ⟨v', w', hrun, r1, r2⟩ := append_g (c := c) t hown hc o.type hb hn hn2
  unfold Oper.wpIn
  refine ⟨?_, ?_⟩
  · simp [Oper.about, ho, resolve, Target.leads, Sem.run_pure]
  · rw [Oper.semAt_plain F _ _ (by rw [ho]; intro c hc'; cases hc')]
    simp [execOp, ho, resolve, invoke, builtin, hs, hx, hrun, Result.andThen]
    exact h v' w' r1 r2
theorem wpListIn_append_g {F : Fence} {n : Nat} {w : World} {ops : Array Oper} {rest : List Oper} {o : Oper} {a : Act} {Q : Exit → Act → World → Prop} (hgd : o.guard = none) (s x : Operand)
    (ho : o.op = .call { callee := .builtin .append, args := #[s, x], argTypes := #[k.sl, k.sl] }) {base : Nat} {v : Value} {ts : List α} {b c : Nat} (t : α)
    (hs : a.eval s = v) (hx : a.eval x = .slice (some ⟨b, 0, none⟩) 1 c) (hown : OwnsG k w base v ts) (hc : ∀ i u, (k.cells t)[i]? = some u → w.cell? ⟨b, i, none⟩ = some u) (hb : base ≤ w.heap.size) (hn : (ts.length + 1) * k.bytes ≤ 140737488355328) (hn2 : ts.length + 1 ≤ 9223372036854775807)
    (h : ∀ v' w', OwnsG k w' base v' (ts ++ [t]) → Off v.ownBlock.toList w w' → wpListIn F n Tryd.prog ops Q rest (a.put o.dst v') w') : wpListIn F n Tryd.prog ops Q (o :: rest) a w :=
  wpListIn_plain hgd fun _ hK => operIn_append_g s x ho t hs hx hown hc hb hn hn2 (fun v' w' h1 h2 => hK _ _ (h v' w' h1 h2))
end Go.Proofs.YtnhlnhmjnnopaaaDoor

/- A row appended to a row that is the call's own. -/
namespace Go.Proofs.YtnhlnhmjnnopaaaDoor
open Go.RowKit

variable {α : Type} {k : Kind α}
theorem rowCells_length (ts : List α) : (rowCells k ts).length = ts.length * k.size := by
  induction ts with
  | nil => simp [rowCells]
  | cons x r ih =>
    unfold rowCells at *
    rw [List.map_cons, List.flatten_cons, List.length_append, ih, k.hlen, List.length_cons, Nat.succ_mul]
    omega
theorem rowCells_inv (ts : List α) : ∀ (j : Nat) u, (rowCells k ts)[j]? = some u → ∃ q t i, j = q * k.size + i ∧ ts[q]? = some t ∧ (k.cells t)[i]? = some u := by
  induction ts with
  | nil => intro j u h; simp [rowCells] at h
  | cons x r ih =>
    intro j u h
    unfold rowCells at *
    rw [List.map_cons, List.flatten_cons] at h
    by_cases hj : j < k.size
    · rw [List.getElem?_append_left (by rw [k.hlen]; exact hj)] at h
      exact ⟨0, x, j, by simp, rfl, h⟩
    · rw [List.getElem?_append_right (by rw [k.hlen]; omega), k.hlen] at h
      obtain ⟨q, t, i, h1, h2, h3⟩ := ih _ _ h
      exact ⟨q + 1, t, i, by rw [Nat.succ_mul]; omega, by simpa using h2, h3⟩
theorem rowCells_one (ts : List α) : ∀ u ∈ rowCells k ts, u.oneCell' = true := by
  intro u hu
  obtain ⟨j, hj⟩ := List.mem_iff_getElem?.1 hu
  obtain ⟨q, t, i, _, _, h3⟩ := rowCells_inv ts j u hj
  exact k.hone t u (List.mem_of_getElem? h3)
theorem rowCells_append (a b : List α) : rowCells k (a ++ b) = rowCells k a ++ rowCells k b := by unfold rowCells; simp

/-- a row lies there -/
def LiesG (k : Kind α) (w : World) (A : Option Addr) (ys : List α) : Prop :=
  ys = [] ∨ ∃ b o, A = some ⟨b, o, none⟩ ∧ ∀ (j : Nat) t i u, ys[j]? = some t → (k.cells t)[i]? = some u → w.cell? ⟨b, o + j * k.size + i, none⟩ = some u
theorem LiesG.below {w w' : World} {A : Option Addr} {ys : List α} (h : LiesG k w A ys) (hb : Below w.heap.size w w') : LiesG k w' A ys := by
  rcases h with h | ⟨b, o, h1, h2⟩
  · exact .inl h
  · exact .inr ⟨b, o, h1, fun j t i u ht hu => carry hb (h2 j t i u ht hu)⟩

theorem append_manyG {w : World} {base : Nat} {v : Value} {ts ys : List α} {A : Option Addr} {c : Nat} (h : OwnsG k w base v ts) (hy : LiesG k w A ys) (hA : A = none → c = 0) (ty : TypeId) (hb : base ≤ w.heap.size) (hn : (ts.length + ys.length) * k.bytes ≤ 140737488355328) (hn2 : ts.length + ys.length ≤ 9223372036854775807) :
    ∃ v' w', (Builtin.append_ #[k.sl, k.sl] ty #[v, .slice A ys.length c]).run Tryd.prog w = .ok v' w' ∧ OwnsG k w' base v' (ts ++ ys) ∧ Off v.ownBlock.toList w w' := by
  obtain ⟨i, hi, hz, hsz, hby⟩ := k.hi
  cases A with
  | none =>
    obtain rfl := hA rfl
    obtain rfl : ys = [] := by
      rcases hy with h1 | ⟨b, o, h1, _⟩
      · exact h1
      · cases h1
    exact ⟨v, w, run_append_owned_none w base k.sl ty k.e i k.size k.hsl hi v ts.length _ h, by rw [List.append_nil]; exact h, Off.refl _ _⟩
  | some a =>
    obtain ⟨v', w', h1, h2, h3, _⟩ := run_append_own (P := Tryd.prog) w base k.sl ty k.e i _ k.size k.bytes k.hsl hi hz hsz hby k.hzs k.hpos v ts.length _ h
      a ys.length c (rowCells k ys) (rowCells_length ys) (fun j u hj => by
        rcases hy with h1 | ⟨b, o, h1, h2⟩
        · subst h1; simp [rowCells] at hj
        · cases h1
          obtain ⟨q, t, i, rfl, ht, hu⟩ := rowCells_inv ys j u hj
          rw [Go.WideShapes.add_plain, ← Nat.add_assoc]
          exact h2 q t i u ht hu) (rowCells_one ys) hn2 hn hb
    refine ⟨v', w', h1, ?_, grown_off h3 fun k hk => by simp [hk]⟩
    unfold OwnsG
    rw [List.length_append, rowCells_append]
    exact h2
theorem wpList_append_manyG {w : World} {ops : Array Oper} {rest : List Oper} {o : Oper} {a : Act} {Q : Exit → Act → World → Prop} (hgd : o.guard = none) (s x : Operand)
    (ho : o.op = .call { callee := .builtin .append, args := #[s, x], argTypes := #[k.sl, k.sl] }) {base : Nat} {v : Value} {ts ys : List α} {A : Option Addr} {c : Nat}
    (hs : a.eval s = v) (hx : a.eval x = .slice A ys.length c) (hown : OwnsG k w base v ts) (hy : LiesG k w A ys) (hA : A = none → c = 0) (hb : base ≤ w.heap.size) (hn : (ts.length + ys.length) * k.bytes ≤ 140737488355328) (hn2 : ts.length + ys.length ≤ 9223372036854775807)
    (h : ∀ v' w', OwnsG k w' base v' (ts ++ ys) → Off v.ownBlock.toList w w' → wpList Tryd.prog ops Q rest (a.put o.dst v') w') : wpList Tryd.prog ops Q (o :: rest) a w := by
  refine wpList_plain hgd fun K hK => ?_
  obtain ⟨v', w', hr, h2, h3⟩ := append_manyG hown hy hA o.type hb hn hn2
  unfold Oper.wp execOp
  simp only [ho, resolve, invoke, builtin, Sem.run_bind, Sem.run_pure, Result.andThen_ok, List.map_toArray, List.map_cons, List.map_nil, hs, hx, hr]
  exact hK _ _ (h v' w' h2 h3)
theorem OwnsG.grown {wa wb : World} {base : Nat} {v : Value} {ts : List α} (h : OwnsG k wa base v ts) (hoff : Off v.ownBlock.toList wa wb) (hb : base ≤ wa.heap.size) : Below base wa wb :=
  hoff.toBelow (fun g hg => (h.block g hg).1) hb
end Go.Proofs.YtnhlnhmjnnopaaaDoor

/- A row of one's own: one cell of one thing turned; append that tells where the row lies then. -/
namespace Go.Proofs.YtnhlnhmjnnopaaaDoor
open Go.RowKit

variable {α : Type} {k : Kind α}
theorem rowCells_set (ts : List α) : ∀ (i p : Nat) (t' : α) (u : Value), i < ts.length → p < k.size → (∀ t, ts[i]? = some t → k.cells t' = (k.cells t).set p u) → rowCells k (ts.set i t') = (rowCells k ts).set (i * k.size + p) u := by
  induction ts with
  | nil => intro i p t' u h; simp at h
  | cons x r ih =>
    intro i p t' u hi hp h
    unfold rowCells at *
    cases i with
    | zero =>
      rw [List.set_cons_zero, List.map_cons, List.map_cons, List.flatten_cons, List.flatten_cons, h x rfl, Nat.zero_mul, Nat.zero_add, List.set_append_left _ _ (by rw [k.hlen]; exact hp)]
    | succ i =>
      rw [List.set_cons_succ, List.map_cons, List.map_cons, List.flatten_cons, List.flatten_cons, ih i p t' u (by simpa using hi) hp (fun t ht => h t (by simpa using ht)), List.set_append_right _ _ (by rw [k.hlen, Nat.succ_mul]; omega), k.hlen, Nat.succ_mul]
      congr 2
      omega
theorem OwnsG.turnAt {w : World} {base g n c : Nat} {ts : List α} (h : OwnsG k w base (.slice (some ⟨g, 0, none⟩) n c) ts) (i p : Nat) (t' : α) (u : Value) (hi : i < ts.length) (hp : p < k.size) (ht : ∀ t, ts[i]? = some t → k.cells t' = (k.cells t).set p u) :
    OwnsG k (w.setCell ⟨g, i * k.size + p, none⟩ u) base (.slice (some ⟨g, 0, none⟩) n c) (ts.set i t') := by
  obtain ⟨A, c', he, _⟩ := h.form
  have hn : n = ts.length := by injection he with _ h1 _
  subst hn
  unfold OwnsG at *
  rw [List.length_set, rowCells_set ts i p t' u hi hp ht]
  exact (World.ownsRow.stored h (i * k.size + p) u).1
theorem OwnsG.frozen {w : World} {base g n c : Nat} {ts : List α} (h : OwnsG k w base (.slice (some ⟨g, 0, none⟩) n c) ts) (j : Nat) : w.frozen? ⟨g, j, none⟩ = false := by
  obtain ⟨A, c', he, _⟩ := h.form
  have hn : n = ts.length := by injection he with _ h1 _
  subst hn
  exact World.ownsRow.frozenAt h j
theorem OwnsG.cells {w : World} {base g n c : Nat} {ts : List α} (h : OwnsG k w base (.slice (some ⟨g, 0, none⟩) n c) ts) {j : Nat} {t : α} (ht : ts[j]? = some t) {i : Nat} {u : Value} (hu : (k.cells t)[i]? = some u) : w.cell? ⟨g, j * k.size + i, none⟩ = some u := by
  obtain ⟨A, c', he, _, _, _, h5⟩ := h.form
  injection he with e1 _ _
  rcases h5 with h5 | ⟨g', h6, _, _, h7⟩
  · rw [h5] at ht; simp at ht
  · rw [h6] at e1
    cases e1
    exact h7 j t i u ht hu

/-- where an appended row lies -/
theorem append_gB {w : World} {base : Nat} {v : Value} {ts : List α} {b c : Nat} (t : α) (h : OwnsG k w base v ts) (hc : ∀ i u, (k.cells t)[i]? = some u → w.cell? ⟨b, i, none⟩ = some u) (ty : TypeId) (hb : base ≤ w.heap.size) (hn : (ts.length + 1) * k.bytes ≤ 140737488355328) (hn2 : ts.length + 1 ≤ 9223372036854775807) :
    ∃ v' w', (Builtin.append_ #[k.sl, k.sl] ty #[v, .slice (some ⟨b, 0, none⟩) 1 c]).run Tryd.prog w = .ok v' w' ∧ OwnsG k w' base v' (ts ++ [t]) ∧ Off v.ownBlock.toList w w' ∧ (v'.ownBlock = v.ownBlock ∨ v'.ownBlock = some w.heap.size) := by
  obtain ⟨i, hi, hz, hsz, hby⟩ := k.hi
  obtain ⟨v', w', h1, h2, h3, _, h5⟩ := run_append_own_at (P := Tryd.prog) w base k.sl ty k.e i _ k.size k.bytes k.hsl hi hz hsz hby k.hzs k.hpos v ts.length _ h
    ⟨b, 0, none⟩ 1 c (k.cells t) (by rw [k.hlen, Nat.one_mul]) (fun j u hj => by rw [Go.WideShapes.add_plain, Nat.zero_add]; exact hc j u hj)
    (k.hone t) hn2 hn hb
  refine ⟨v', w', h1, ?_, grown_off h3 (fun k hk => by simp [hk]), h5⟩
  unfold OwnsG
  rw [List.length_append]
  have e : rowCells k (ts ++ [t]) = rowCells k ts ++ k.cells t := by unfold rowCells; simp
  rw [e]
  exact h2
theorem wpList_append_gB {w : World} {ops : Array Oper} {rest : List Oper} {o : Oper} {a : Act} {Q : Exit → Act → World → Prop} (hgd : o.guard = none) (s x : Operand)
    (ho : o.op = .call { callee := .builtin .append, args := #[s, x], argTypes := #[k.sl, k.sl] }) {base : Nat} {v : Value} {ts : List α} {b c : Nat} (t : α)
    (hs : a.eval s = v) (hx : a.eval x = .slice (some ⟨b, 0, none⟩) 1 c) (hown : OwnsG k w base v ts) (hc : ∀ i u, (k.cells t)[i]? = some u → w.cell? ⟨b, i, none⟩ = some u) (hb : base ≤ w.heap.size) (hn : (ts.length + 1) * k.bytes ≤ 140737488355328) (hn2 : ts.length + 1 ≤ 9223372036854775807)
    (h : ∀ v' w', OwnsG k w' base v' (ts ++ [t]) → Off v.ownBlock.toList w w' → (v'.ownBlock = v.ownBlock ∨ v'.ownBlock = some w.heap.size) → wpList Tryd.prog ops Q rest (a.put o.dst v') w') : wpList Tryd.prog ops Q (o :: rest) a w := by
  refine wpList_plain hgd fun K hK => ?_
  obtain ⟨v', w', hr, h2, h3, h4⟩ := append_gB (c := c) t hown hc o.type hb hn hn2
  unfold Oper.wp execOp
  simp only [ho, resolve, invoke, builtin, Sem.run_bind, Sem.run_pure, Result.andThen_ok, List.map_toArray, List.map_cons, List.map_nil, hs, hx, hr]
  exact hK _ _ (h v' w' h2 h3 h4)
/-- at a step of a region that draws its order -/
theorem step_append_gB {w : World} {ops : Array Oper} {o : Oper} {a : Act} {K : Act → World → Prop} {Q : Exit → Act → World → Prop} {E : Prop} (hgd : o.guard = none) (s x : Operand)
    (ho : o.op = .call { callee := .builtin .append, args := #[s, x], argTypes := #[k.sl, k.sl] }) {base : Nat} {v : Value} {ts : List α} {b c : Nat} (t : α)
    (hs : a.eval s = v) (hx : a.eval x = .slice (some ⟨b, 0, none⟩) 1 c) (hown : OwnsG k w base v ts) (hc : ∀ i u, (k.cells t)[i]? = some u → w.cell? ⟨b, i, none⟩ = some u) (hb : base ≤ w.heap.size) (hn : (ts.length + 1) * k.bytes ≤ 140737488355328) (hn2 : ts.length + 1 ≤ 9223372036854775807)
    (h : ∀ v' w', OwnsG k w' base v' (ts ++ [t]) → Off v.ownBlock.toList w w' → (v'.ownBlock = v.ownBlock ∨ v'.ownBlock = some w.heap.size) → K (a.put o.dst v') w') :
    if Region.wanted o (yielded ops a.tmps) = true then Oper.wp Tryd.prog o a w K Q else E := by
  have hw : Region.wanted o (yielded ops a.tmps) = true := by simp [Region.wanted, hgd]
  rw [if_pos hw]
  obtain ⟨v', w', hr, h2, h3, h4⟩ := append_gB (c := c) t hown hc o.type hb hn hn2
  unfold Oper.wp execOp
  simp only [ho, resolve, invoke, builtin, Sem.run_bind, Sem.run_pure, Result.andThen_ok, List.map_toArray, List.map_cons, List.map_nil, hs, hx, hr]
  exact h v' w' h2 h3 h4
/-- whatever block is the row's own then was so or is new -/
def Fresh (w : World) (v v' : Value) : Prop := ∀ g ∈ v'.ownBlock.toList, g ∈ v.ownBlock.toList ∨ w.heap.size ≤ g
theorem Fresh.refl (w : World) (v : Value) : Fresh w v v := fun _ h => .inl h
theorem Fresh.of {w : World} {v v' : Value} (h : v'.ownBlock = v.ownBlock ∨ v'.ownBlock = some w.heap.size) : Fresh w v v' := by
  intro g hg
  rcases h with h | h
  · rw [h] at hg; exact .inl hg
  · rw [h] at hg; simp at hg; exact .inr (by omega)
theorem Fresh.trans {w w1 : World} {v v1 v2 : Value} (h : Fresh w v v1) (k : Fresh w1 v1 v2) (hs : w.heap.size ≤ w1.heap.size) : Fresh w v v2 := by
  intro g hg
  rcases k g hg with k | k
  · exact h g k
  · exact .inr (by omega)
theorem Fresh.not {w : World} {v v' : Value} {b : Nat} (h : Fresh w v v') (hb : b ∉ v.ownBlock.toList) (hlt : b < w.heap.size) : b ∉ v'.ownBlock.toList := by
  intro hm
  rcases h b hm with h | h
  · exact hb h
  · omega
end Go.Proofs.YtnhlnhmjnnopaaaDoor

/- Blocks and their types: what keeps a row apart from another one. -/
namespace Go.Proofs.YtnhlnhmjnnopaaaDoor
open Go.RowKit

/-- block b holds things of type t -/
def TyAt (w : World) (b : Nat) (t : TypeId) : Prop := ∃ cur, w.heap[b]? = some (.cells cur t (0, 0))
theorem TyAt.lt {w : World} {b : Nat} {t : TypeId} (h : TyAt w b t) : b < w.heap.size := by
  obtain ⟨cur, h⟩ := h
  exact (Array.getElem?_eq_some_iff.1 h).1
theorem TyAt.off {w w' : World} {b : Nat} {t : TypeId} {m : List Nat} (h : TyAt w b t) (hm : Off m w w') (hb : b ∉ m) : TyAt w' b t := by
  have hl := h.lt
  obtain ⟨cur, h⟩ := h
  exact ⟨cur, (hm.block b hl hb).trans h⟩
theorem TyAt.below {w w' : World} {b : Nat} {t : TypeId} (h : TyAt w b t) (hb : Below w.heap.size w w') : TyAt w' b t := by
  have hl := h.lt
  obtain ⟨cur, h⟩ := h
  exact ⟨cur, (hb.block b hl).trans h⟩
theorem TyAt.set {w : World} {b : Nat} {t : TypeId} (h : TyAt w b t) (g j : Nat) (u : Value) : TyAt (w.setCell ⟨g, j, none⟩ u) b t := by
  have hl := h.lt
  obtain ⟨cur, h⟩ := h
  by_cases e : b = g
  · subst e
    exact ⟨_, heap_setCell_same w b j cur t u h⟩
  · exact ⟨cur, (heap_setCell_other w ⟨g, j, none⟩ b u (fun e' => e (by simpa using e'))).trans h⟩
theorem TyAt.new (w : World) (cur : Array Value) (t : TypeId) : TyAt (w.alloc (.cells cur t)) w.heap.size t := ⟨cur, Go.heap_alloc_new w _⟩
theorem TyAt.frozen {w : World} {b : Nat} {t : TypeId} (h : TyAt w b t) (j : Nat) : w.frozen? ⟨b, j, none⟩ = false := by
  obtain ⟨cur, h⟩ := h
  exact frozen_of_row w b j cur t h
theorem TyAt.not {α : Type} {k : Kind α} {w : World} {b base : Nat} {t : TypeId} {v : Value} {ts : List α} (h : TyAt w b t) (ho : OwnsG k w base v ts) (ht : t ≠ k.e) : b ∉ v.ownBlock.toList := by
  intro hm
  obtain ⟨cur, h⟩ := h
  obtain ⟨_, cur', h'⟩ := ho.block b hm
  rw [h] at h'
  injection h' with h'
  injection h' with _ h2 _
  exact ht h2
theorem TyAt.ne {w : World} {b b' : Nat} {t t' : TypeId} (h : TyAt w b t) (h' : TyAt w b' t') (ht : t ≠ t') : b ≠ b' := by
  rintro rfl
  obtain ⟨cur, h⟩ := h
  obtain ⟨cur', h'⟩ := h'
  rw [h] at h'
  injection h' with h'
  injection h' with _ h2 _
  exact ht h2
theorem OwnsG.ty {α : Type} {k : Kind α} {w : World} {base : Nat} {v : Value} {ts : List α} (h : OwnsG k w base v ts) : ∀ g ∈ v.ownBlock.toList, TyAt w g k.e := fun g hg => (h.block g hg).2
/-- rows of unlike types lie apart -/
theorem OwnsG.apart {α β : Type} {k : Kind α} {k' : Kind β} {w : World} {base base' : Nat} {v v' : Value} {ts : List α} {ts' : List β} (h : OwnsG k w base v ts) (h' : OwnsG k' w base' v' ts') (ht : k.e ≠ k'.e) : ∀ g, v.ownBlock = some g → g ∉ v'.ownBlock.toList :=
  fun g hg => (h.ty g (by simp [hg])).not h' ht
end Go.Proofs.YtnhlnhmjnnopaaaDoor

/- A writer of bytes in memory. -/
namespace Go.Proofs.YtnhlnhmjnnopaaaDoor
open Go.RowKit

theorem Off.ofBelowB {l : List Nat} {a b : World} (h : Below a.heap.size a b) : Off l a b := (Off.refl l a).below h (Nat.le_refl _)
def byteV (c : UInt8) : Value := .int .u8 c.toNat
def kByte : Kind UInt8 where
  e := 5
  sl := 57
  size := 1
  bytes := 1
  cells := fun c => [byteV c]
  zero := .int .u8 0
  hsl := Tryd.underlying57
  hi := by
    have h : (Tryd.prog.info? 5).map (fun i => (i.zero, i.size, i.bytes)) = some (some (.int .u8 0), 1, 1) := by kernel_rfl
    obtain ⟨i, hi, h2⟩ := Option.map_eq_some_iff.1 h
    simp only [Prod.mk.injEq] at h2
    exact ⟨i, hi, h2.1, h2.2.1, h2.2.2⟩
  hzs := rfl
  hpos := by decide
  hlen := fun _ => rfl
  hone := fun x u hu => by
    rw [List.mem_singleton.1 hu]
    rfl
theorem byteRow (bs : List UInt8) : rowCells kByte bs = bs.map byteV := by
  unfold rowCells
  induction bs with
  | nil => rfl
  | cons b r ih => rw [List.map_cons, List.flatten_cons, ih]; rfl
/-- a full row, its block's head frozen or not -/
def FullB (w : World) (base : Nat) (v : Value) (bs : List UInt8) : Prop :=
  ∃ g cur fr, v = .slice (some ⟨g, 0, none⟩) bs.length bs.length ∧ base ≤ g ∧ w.heap[g]? = some (.cells cur 5 fr) ∧ ∀ (j : Nat) c, bs[j]? = some c → w.cell? ⟨g, j, none⟩ = some (byteV c)
def OwnB (p : Prop) (w : World) (base : Nat) (v : Value) (bs : List UInt8) : Prop := OwnsG kByte w base v bs ∨ (p ∧ FullB w base v bs)
theorem OwnB.mono {p q : Prop} {w : World} {base : Nat} {v : Value} {bs : List UInt8} (h : OwnB p w base v bs) (hq : p → q) : OwnB q w base v bs := h.imp id fun ⟨a, b⟩ => ⟨hq a, b⟩
theorem OwnB.own {w : World} {base : Nat} {v : Value} {bs : List UInt8} (h : OwnB False w base v bs) : OwnsG kByte w base v bs := h.elim id fun ⟨a, _⟩ => a.elim
theorem FullB.off {w w' : World} {base : Nat} {v : Value} {bs : List UInt8} {m : List Nat} (h : FullB w base v bs) (hf : Off m w w') (hl : ∀ g, v.ownBlock = some g → g ∉ m) : FullB w' base v bs := by
  obtain ⟨g, cur, fr, rfl, h1, h2, h3⟩ := h
  have hg := hl g rfl
  exact ⟨g, cur, fr, rfl, h1, (hf.block g (Array.getElem?_eq_some_iff.1 h2).1 hg).trans h2, fun j c hc => hf.cell (h3 j c hc) hg⟩
theorem OwnB.off {p : Prop} {w w' : World} {base : Nat} {v : Value} {bs : List UInt8} {m : List Nat} (h : OwnB p w base v bs) (hf : Off m w w') (hl : ∀ g, v.ownBlock = some g → g ∉ m) : OwnB p w' base v bs :=
  h.imp (fun a => OwnsG.off a hf hl) fun ⟨a, b⟩ => ⟨a, b.off hf hl⟩
theorem OwnB.below {p : Prop} {w w' : World} {base : Nat} {v : Value} {bs : List UInt8} (h : OwnB p w base v bs) (hb : Below w.heap.size w w') : OwnB p w' base v bs :=
  h.off (Off.ofBelowB hb) (fun _ _ hm => List.not_mem_nil hm)
theorem OwnB.form {p : Prop} {w : World} {base : Nat} {v : Value} {bs : List UInt8} (h : OwnB p w base v bs) : ∃ A c, v = .slice A bs.length c ∧ bs.length ≤ c := by
  rcases h with h | ⟨_, g, cur, fr, rfl, _⟩
  · obtain ⟨A, c, rfl, h1, _⟩ := h.form
    exact ⟨A, c, rfl, h1⟩
  · exact ⟨_, _, rfl, Nat.le_refl _⟩
/-- the writer's box, its row -/
structure WAt (p : Prop) (w : World) (base wb : Nat) (v : Value) (bs : List UInt8) : Prop where
  ty : TyAt w wb 57
  c0 : w.cell? ⟨wb, 0, none⟩ = some v
  own : OwnB p w base v bs
theorem WAt.not {p : Prop} {w : World} {base wb : Nat} {v : Value} {bs : List UInt8} (h : WAt p w base wb v bs) : wb ∉ v.ownBlock.toList := by
  rcases h.own with ho | ⟨_, g, cur, fr, rfl, _, h2, _⟩
  · exact h.ty.not ho (by decide)
  · intro hm
    have : wb = g := by simpa [Value.ownBlock] using hm
    subst this
    obtain ⟨c, hc⟩ := h.ty
    rw [h2] at hc
    cases hc
/-- it stays where neither the box nor the row is touched -/
theorem WAt.off {p : Prop} {w w' : World} {base wb : Nat} {v : Value} {bs : List UInt8} {m : List Nat} (h : WAt p w base wb v bs) (hf : Off m w w') (h1 : wb ∉ m) (h2 : ∀ g, v.ownBlock = some g → g ∉ m) : WAt p w' base wb v bs :=
  ⟨h.ty.off hf h1, hf.cell h.c0 h1, h.own.off hf h2⟩
theorem WAt.below {p : Prop} {w w' : World} {base wb : Nat} {v : Value} {bs : List UInt8} (h : WAt p w base wb v bs) (hb : Below w.heap.size w w') : WAt p w' base wb v bs :=
  ⟨h.ty.below hb, carry hb h.c0, h.own.below hb⟩
theorem WAt.mono {p q : Prop} {w : World} {base wb : Nat} {v : Value} {bs : List UInt8} (h : WAt p w base wb v bs) (hq : p → q) : WAt q w base wb v bs := ⟨h.ty, h.c0, h.own.mono hq⟩
/-- an append of a text's bytes -/
theorem append_bytes {w : World} {base : Nat} {v : Value} {bs : List UInt8} (s : ByteArray) (h : OwnsG kByte w base v bs) (ty : TypeId) (hb : base ≤ w.heap.size) (hn : bs.length + s.size ≤ 140737488355328) :
    ∃ v' w', (Builtin.append_ #[57, 9] ty #[v, .string s]).run Tryd.prog w = .ok v' w' ∧ OwnsG kByte w' base v' (bs ++ s.data.toList) ∧ Off v.ownBlock.toList w w' ∧ Fresh w v v' := by
  obtain ⟨i, hi, hz, hsz, hby⟩ := kByte.hi
  have h0 : w.ownsRow base 5 1 v bs.length (bs.map byteV) := by rw [← byteRow]; exact h
  have hML : bs.length + s.size ≤ maxLen := by unfold maxLen; omega
  obtain ⟨v', w', h1, h2, h3, _⟩ := Lib.run_append_own_string (P := Tryd.prog) w base 57 9 ty 5 i Tryd.underlying57 Tryd.underlying9 hi hz hsz hby v bs.length _ h0 s hML hn hb
  refine ⟨v', w', h1, ?_, grown_off h3 (fun k hk => by simp [hk]), ?_⟩
  · have hl : s.data.toList.length = s.size := by rw [Array.length_toList]; rfl
    unfold OwnsG
    rw [byteRow, List.length_append, List.map_append, hl]
    exact h2
  · have hxl : (bs.map byteV).length = bs.length * 1 := h0.1
    rcases h0.2 with ⟨rfl, h00⟩ | ⟨g, cap, cur, rfl, hbg, hg, hnc, hcm, hcs, htake⟩
    · have h0' : w.ownsRow w.heap.size 5 1 (.slice none 0 0) bs.length (bs.map byteV) := ⟨hxl, .inl ⟨rfl, h00⟩⟩
      obtain ⟨v2, w2, k1, k2, _, _⟩ := Lib.run_append_own_string (P := Tryd.prog) w w.heap.size 57 9 ty 5 i Tryd.underlying57 Tryd.underlying9 hi hz hsz hby _ bs.length _ h0' s hML hn (Nat.le_refl _)
      rw [h1] at k1
      cases k1
      intro b hbm
      right
      rcases k2.2 with ⟨rfl, _⟩ | ⟨g, cap, cur, rfl, hbg, _⟩
      · cases hbm
      · have : b = g := by simpa [Value.ownBlock] using hbm
        omega
    · by_cases hroom : bs.length + s.size ≤ cap
      · have hcs' : cur.size = cap := by simpa using hcs
        have hr := Lib.run_append_room_string (P := Tryd.prog) w 57 9 ty 5 i Tryd.underlying57 Tryd.underlying9 hi hsz g bs.length cap cur hg s hroom (by omega)
        rw [h1] at hr
        cases hr
        intro b hbm
        exact .inl hbm
      · have holds : ∀ j u, (bs.map byteV)[j]? = some u → w.cell? ((⟨g, 0, none⟩ : Addr).add j) = some u := h0.cells (g := g) rfl
        have hr := Lib.run_append_grow_string (P := Tryd.prog) w 57 9 ty 5 i (.int .u8 0) Tryd.underlying57 Tryd.underlying9 hi hz ⟨g, 0, none⟩ bs.length cap _ (by rw [hsz]; exact hxl) holds s (by omega) (by omega) (by rw [show i.bytes = 1 from hby]; exact growslice_fits (by omega) (by omega))
        rw [h1] at hr
        cases hr
        exact Fresh.of (.inr rfl)
/-- the same, an operation -/
theorem wpList_append_bytes {w : World} {ops : Array Oper} {rest : List Oper} {o : Oper} {a : Act} {Q : Exit → Act → World → Prop} (hgd : o.guard = none) (sl x : Operand)
    (ho : o.op = .call { callee := .builtin .append, args := #[sl, x], argTypes := #[57, 9] }) {base : Nat} {v : Value} {bs : List UInt8} (s : ByteArray)
    (hs : a.eval sl = v) (hx : a.eval x = .string s) (hown : OwnsG kByte w base v bs) (hb : base ≤ w.heap.size) (hn : bs.length + s.size ≤ 140737488355328)
    (h : ∀ v' w', OwnsG kByte w' base v' (bs ++ s.data.toList) → Off v.ownBlock.toList w w' → Fresh w v v' → wpList Tryd.prog ops Q rest (a.put o.dst v') w') : wpList Tryd.prog ops Q (o :: rest) a w := by
  refine wpList_plain hgd fun K hK => ?_
  obtain ⟨v', w', hr, h2, h3, h4⟩ := append_bytes s hown o.type hb hn
  unfold Oper.wp execOp
  simp only [ho, resolve, invoke, builtin, Sem.run_bind, Sem.run_pure, Result.andThen_ok, List.map_toArray, List.map_cons, List.map_nil, hs, hx, hr]
  exact hK _ _ (h v' w' h2 h3 h4)
theorem step_append_bytes {w : World} {ops : Array Oper} {o : Oper} {a : Act} {K : Act → World → Prop} {Q : Exit → Act → World → Prop} {E : Prop} (hgd : o.guard = none) (sl x : Operand)
    (ho : o.op = .call { callee := .builtin .append, args := #[sl, x], argTypes := #[57, 9] }) {base : Nat} {v : Value} {bs : List UInt8} (s : ByteArray)
    (hs : a.eval sl = v) (hx : a.eval x = .string s) (hown : OwnsG kByte w base v bs) (hb : base ≤ w.heap.size) (hn : bs.length + s.size ≤ 140737488355328)
    (h : ∀ v' w', OwnsG kByte w' base v' (bs ++ s.data.toList) → Off v.ownBlock.toList w w' → Fresh w v v' → K (a.put o.dst v') w') :
    if Region.wanted o (yielded ops a.tmps) = true then Oper.wp Tryd.prog o a w K Q else E := by
  have hw : Region.wanted o (yielded ops a.tmps) = true := by simp [Region.wanted, hgd]
  rw [if_pos hw]
  obtain ⟨v', w', hr, h2, h3, h4⟩ := append_bytes s hown o.type hb hn
  unfold Oper.wp execOp
  simp only [ho, resolve, invoke, builtin, Sem.run_bind, Sem.run_pure, Result.andThen_ok, List.map_toArray, List.map_cons, List.map_nil, hs, hx, hr]
  exact h v' w' h2 h3 h4
/-- one byte more -/
theorem append_byte {p : Prop} {w : World} {base : Nat} {v : Value} {bs : List UInt8} {b : Nat} (t : UInt8) (h : OwnB p w base v bs) (hc : ∀ i u, (kByte.cells t)[i]? = some u → w.cell? ⟨b, i, none⟩ = some u) (ty : TypeId) (hb : base ≤ w.heap.size) (hn : (bs.length + 1) * kByte.bytes ≤ 140737488355328) (hn2 : bs.length + 1 ≤ 9223372036854775807) :
    ∃ v' w', (Builtin.append_ #[kByte.sl, kByte.sl] ty #[v, .slice (some ⟨b, 0, none⟩) 1 1]).run Tryd.prog w = .ok v' w' ∧ OwnsG kByte w' base v' (bs ++ [t]) ∧ Off v.ownBlock.toList w w' ∧ Fresh w v v' := by
  rcases h with h | ⟨_, g, cur, fr, rfl, hg, h2, h3⟩
  · obtain ⟨v', w', h1, h2, h3, h4⟩ := append_gB (k := kByte) (c := 1) t h hc ty hb hn hn2
    exact ⟨v', w', h1, h2, h3, Fresh.of h4⟩
  · obtain ⟨i, hi, hz, hsz, hby⟩ := kByte.hi
    have hs1 : i.size = 1 := hsz
    have hb1 : i.bytes = 1 := hby
    have hn' : bs.length + 1 ≤ 140737488355328 := by simpa [kByte] using hn
    have hr := run_append_grow (P := Tryd.prog) w kByte.sl ty kByte.e i kByte.zero kByte.hsl hi hz ⟨g, 0, none⟩ bs.length bs.length (bs.map byteV) (by rw [hs1]; simp)
      (fun j u hj => by
        rw [List.getElem?_map] at hj
        obtain ⟨c, hc1, hc2⟩ := Option.map_eq_some_iff.1 hj
        rw [Go.WideShapes.add_plain, Nat.zero_add, ← hc2]
        exact h3 j c hc1)
      ⟨b, 0, none⟩ 1 1 (kByte.cells t) (by rw [hs1]; rfl) (fun j u hj => by rw [Go.WideShapes.add_plain, Nat.zero_add]; exact hc j u hj)
      (by omega) (by omega) (by rw [hb1]; exact growslice_fits (by omega) (by omega))
    refine ⟨_, _, hr, ?_, ?_, Fresh.of (.inr rfl)⟩
    · unfold OwnsG
      rw [byteRow, List.length_append, List.length_singleton, List.map_append]
      have hge := grownCap_ge w (bs.length + 1) bs.length 5
      have hcm : grownCap w (bs.length + 1) bs.length 5 ≤ maxLen := grownCap_le_maxLen w (bs.length + 1) bs.length 5 (by unfold maxLen; omega)
      refine ⟨by simp [kByte], .inr ⟨w.heap.size, _, _, rfl, hb, heap_alloc_new w.drew _, hge, hcm, ?_, ?_⟩⟩
      · have hz1 : kByte.zero.cells.size = 1 := rfl
        have hk1 : kByte.size = 1 := rfl
        have hkc : (kByte.cells t).length = 1 := rfl
        have hke : kByte.e = 5 := rfl
        rw [hk1, hke]
        simp only [Array.size_append, List.size_toArray, size_zeroCells, hz1, List.length_map, hkc]
        omega
      · have hk1 : kByte.size = 1 := rfl
        rw [hk1]
        simp only [Array.toList_append, List.append_assoc]
        rw [← List.append_assoc]
        exact List.take_left' (by simp [kByte])
    · exact (Off.refl _ w).drewN 1 |>.alloc _
theorem step_append_byte {p : Prop} {w : World} {ops : Array Oper} {o : Oper} {a : Act} {K : Act → World → Prop} {Q : Exit → Act → World → Prop} {E : Prop} (hgd : o.guard = none) (s x : Operand)
    (ho : o.op = .call { callee := .builtin .append, args := #[s, x], argTypes := #[kByte.sl, kByte.sl] }) {base : Nat} {v : Value} {bs : List UInt8} {b : Nat} (t : UInt8)
    (hs : a.eval s = v) (hx : a.eval x = .slice (some ⟨b, 0, none⟩) 1 1) (hown : OwnB p w base v bs) (hc : ∀ i u, (kByte.cells t)[i]? = some u → w.cell? ⟨b, i, none⟩ = some u) (hb : base ≤ w.heap.size) (hn : (bs.length + 1) * kByte.bytes ≤ 140737488355328) (hn2 : bs.length + 1 ≤ 9223372036854775807)
    (h : ∀ v' w', OwnsG kByte w' base v' (bs ++ [t]) → Off v.ownBlock.toList w w' → Fresh w v v' → K (a.put o.dst v') w') :
    if Region.wanted o (yielded ops a.tmps) = true then Oper.wp Tryd.prog o a w K Q else E := by
  have hw : Region.wanted o (yielded ops a.tmps) = true := by simp [Region.wanted, hgd]
  rw [if_pos hw]
  obtain ⟨v', w', hr, h2, h3, h4⟩ := append_byte t hown hc o.type hb hn hn2
  unfold Oper.wp execOp
  simp only [ho, resolve, invoke, builtin, Sem.run_bind, Sem.run_pure, Result.andThen_ok, List.map_toArray, List.map_cons, List.map_nil, hs, hx, hr]
  exact h v' w' h2 h3 h4
/-- what a call of the writer's may change -/
structure Wrote (p : Prop) (w w' : World) (base wb : Nat) (v : Value) (bs : List UInt8) : Prop where
  at_ : ∃ v', WAt p w' base wb v' bs ∧ Fresh w v v'
  off : Off (wb :: v.ownBlock.toList) w w'
theorem Wrote.trans {p : Prop} {w w1 w2 : World} {base wb : Nat} {v v1 : Value} {bs : List UInt8} (h : Off (wb :: v.ownBlock.toList) w w1) (hF : Fresh w v v1) (k : Wrote p w1 w2 base wb v1 bs) : Wrote p w w2 base wb v bs := by
  obtain ⟨v2, h2, f2⟩ := k.at_
  refine ⟨⟨v2, h2, hF.trans f2 h.size⟩, ?_⟩
  refine ⟨k.off.os.trans h.os, k.off.tape.trans h.tape, k.off.output.trans h.output, Nat.le_trans h.size k.off.size, fun i hi hl => (k.off.block i (Nat.lt_of_lt_of_le hi h.size) (fun hm => ?_)).trans (h.block i hi hl)⟩
  rcases List.mem_cons.1 hm with rfl | hm
  · exact hl List.mem_cons_self
  · rcases hF i hm with h1 | h1
    · exact hl (List.mem_cons_of_mem _ h1)
    · omega
theorem Wrote.mono {p q : Prop} {w w' : World} {base wb : Nat} {v : Value} {bs : List UInt8} (h : Wrote p w w' base wb v bs) (hq : p → q) : Wrote q w w' base wb v bs := by
  obtain ⟨v', h1, h2⟩ := h.at_
  exact ⟨⟨v', h1.mono hq, h2⟩, h.off⟩
theorem Wrote.refl {p : Prop} {w : World} {base wb : Nat} {v : Value} {bs : List UInt8} (h : WAt p w base wb v bs) : Wrote p w w base wb v bs := ⟨⟨v, h, Fresh.refl _ _⟩, Off.refl _ _⟩
/-- an append, and its store into the box -/
theorem WAt.store {p : Prop} {w w1 : World} {base wb : Nat} {v v1 : Value} {bs cs : List UInt8} (h : WAt p w base wb v bs) (ho : OwnsG kByte w1 base v1 cs) (hf : Off v.ownBlock.toList w w1) (hfr : Fresh w v v1) :
    Wrote False w (w1.setCell ⟨wb, 0, none⟩ v1) base wb v cs := by
  have hty := h.ty.off hf h.not
  have hc := hf.cell h.c0 h.not
  have hn1 : wb ∉ v1.ownBlock.toList := hty.not ho (by decide)
  refine ⟨⟨v1, ⟨hty.set _ _ _, cell_same hc, .inl (ho.off ((Off.refl [wb] w1).setCell _ _ (by simp)) (fun g hg hm => ?_))⟩, hfr⟩, ?_⟩
  · simp only [List.mem_singleton] at hm
    subst hm
    exact hn1 (by simpa using hg)
  · exact (hf.more (fun k hk => List.mem_cons_of_mem _ hk)).setCell _ _ (by simp)
end Go.Proofs.YtnhlnhmjnnopaaaDoor

/- pack's writer: number. -/
namespace Go.Proofs.YtnhlnhmjnnopaaaDoor
open Go.RowKit

/-- a number's bytes -/
def wordB (n size : Nat) : List UInt8 := (List.range size).map fun i => UInt8.ofNat (n >>> (8 * (size - 1 - i)))
theorem wordB_len (n size : Nat) : (wordB n size).length = size := by unfold wordB; simp
theorem wordB_at (n size j : Nat) (h : j < size) : (wordB n size).take (j + 1) = (wordB n size).take j ++ [UInt8.ofNat (n >>> (8 * (size - 1 - j)))] := by
  rw [List.take_succ_eq_append_getElem (by rw [wordB_len]; exact h)]
  congr 1
  unfold wordB
  simp
theorem word_val (n k : Nat) (hn : n < 4294967296) : IntKind.u8.wrap ((n : Int) / 2 ^ min k 32) = ((UInt8.ofNat (n >>> k)).toNat : Int) := by
  have h1 : (n : Int) / 2 ^ min k 32 = ((n / 2 ^ min k 32 : Nat) : Int) := by norm_cast
  rw [h1, show ∀ m : Int, IntKind.u8.wrap m = m % 256 from fun m => by simp [IntKind.wrap, IntKind.bits, IntKind.signed], UInt8.toNat_ofNat', Nat.shiftRight_eq_div_pow]
  by_cases h : k ≤ 32
  · rw [Nat.min_eq_left h]
    omega
  · rw [Nat.min_eq_right (by omega)]
    have h2 : 2 ^ 32 ≤ 2 ^ k := Nat.pow_le_pow_right (by decide) (by omega)
    have e1 : n / 2 ^ 32 = 0 := Nat.div_eq_of_lt (by omega)
    have e2 : n / 2 ^ k = 0 := Nat.div_eq_of_lt (by omega)
    rw [e1, e2]
    rfl
set_option maxHeartbeats 4000000 in
set_option maxRecDepth 100000 in
theorem pack_number {p : Prop} (base wb : Nat) (v : Value) (bs : List UInt8) (n size : Nat) (w : World) (hW : WAt p w base wb v bs) (hb : base ≤ w.heap.size) (hn : n < 4294967296) (hz1 : 1 ≤ size) (hz : size ≤ 8) (hl : bs.length ≤ 1000000000) :
    Calls Tryd.prog 22 #[.pointer (some ⟨wb, 0, none⟩), .int .u32 n, .int .i64 size] w fun e w' => e = .returned (.tuple #[]) ∧ Wrote False w w' base wb v (bs ++ wordB n size) := by
  have e0 : IntKind.i64.wrap ((size : Int) - 1) = (size : Int) - 1 := IntWalk.i64_in _ (by omega)
  have e1 : IntKind.i64.wrap (8 * ((size : Int) - 1)) = 8 * (size : Int) - 8 := by rw [IntWalk.i64_in _ (by omega)]; omega
  have HW := Lib.hid hW
  clear hW
  go_enter Tryd.func22, Tryd.ntmps22
  go_wp2_with fail
  go_loopw [6] (fun i wr => ∃ j : Nat, j ≤ size ∧ i = .int .i64 (8 * (size : Int) - 8 - 8 * (j : Int)) ∧ Hid (Wrote (j = 0) w wr base wb v (bs ++ (wordB n size).take j))) (fun i _ => (intOf i + 8).toNat)
  case atStart => exact ⟨0, Nat.zero_le _, by congr 1; omega, Lib.hid (by rw [List.take_zero, List.append_nil]; exact Wrote.refl (HW.out.mono fun _ => rfl))⟩
  case round =>
    obtain ⟨j, hj, rfl, HX⟩ := hrel
    by_cases hlt : j < size
    · obtain ⟨v1, hW1, hF1⟩ := HX.out.at_
      have hwl := wordB_len n size
      obtain ⟨cs, hcs⟩ : ∃ cs, cs = bs ++ (wordB n size).take j := ⟨_, rfl⟩
      have hcl : cs.length = bs.length + j := by rw [hcs, List.length_append, List.length_take, hwl]; omega
      obtain ⟨cB, hcB⟩ : ∃ cB, cB = UInt8.ofNat (n >>> (8 * (size - 1 - j))) := ⟨_, rfl⟩
      have hval : IntKind.u8.wrap ((n : Int) / 2 ^ min (8 * (size : Int) - 8 - 8 * (j : Int)).toNat 32) = (cB.toNat : Int) := by
        rw [show (8 * (size : Int) - 8 - 8 * (j : Int)).toNat = 8 * (size - 1 - j) by omega, hcB]
        exact word_val _ _ hn
      have hnext : bs ++ (wordB n size).take (j + 1) = cs ++ [cB] := by rw [wordB_at _ _ _ hlt, hcs, hcB, List.append_assoc]
      rw [← hcs] at hW1
      obtain ⟨A1, c1, rfl, _⟩ := hW1.own.form
      have p0 := hW1.c0
      have p1 := hW1.ty.frozen 0
      have plt := lt_of_cell p0
      have i0 : (0 : Int) ≤ 8 * (size : Int) - 8 - 8 * (j : Int) := by omega
      have e2 : IntKind.i64.wrap (8 * (size : Int) - 8 - 8 * (j : Int) - 8) = 8 * (size : Int) - 8 - 8 * ((j + 1 : Nat) : Int) := by rw [IntWalk.i64_in _ (by omega)]; omega
      have hbL : Below wr.heap.size wr (wr.alloc (.cells #[.int .u8 cB.toNat] 5)).drew := ((Below.refl _ _).alloc (Nat.le_refl _) _).drew
      have HW2 := Lib.hid (hW1.below hbL)
      have HXX := Lib.hid HX.out.off
      have HF := Lib.hid hF1
      have HBL := Lib.hid hbL
      have X0 : Hid (∀ i u, (kByte.cells cB)[i]? = some u → (wr.alloc (.cells #[.int .u8 cB.toNat] 5)).drew.cell? ⟨wr.heap.size, i, none⟩ = some u) := Lib.hid (fun i u hu => by
        match i, u, hu with
        | 0, _, hu => injection hu with hu; subst hu; go_simp; rfl)
      have HB2 : Hid (base ≤ (wr.alloc (.cells #[.int .u8 cB.toNat] 5)).drew.heap.size) := Lib.hid (by have := HX.out.off.size; simp; omega)
      have HL1 : Hid ((cs.length + 1) * 1 ≤ 140737488355328) := Lib.hid (by omega)
      have HL2 : Hid (cs.length + 1 ≤ 9223372036854775807) := Lib.hid (by omega)
      have HNX := Lib.hid hnext
      clear hW1 hF1 hcs hcl hcB hnext hbL hwl HX
      go_wp2_with fail
      go_region_law (apply step_append_byte (s := .tmp 17) (x := .tmp 22) (t := cB) (hown := HW2.out.own) (hc := X0.out) (hb := HB2.out) (hn := HL1.out) (hn2 := HL2.out); (any_goals rfl); intro v' w3 ho hoff hfr; have HST := Lib.hid (HW2.out.store ho hoff hfr); have HFR := Lib.hid hfr; have P3 := hoff.cell HW2.out.c0 HW2.out.not; have P4 := (hoff.frozen (lt_of_cell HW2.out.c0) HW2.out.not).trans (HW2.out.ty.frozen 0); obtain ⟨A2, c2, rfl, _⟩ := ho.form; clear ho hoff hfr)
      all_goals
        rw [List.length_append, List.length_singleton] at HST
        have HW3 := Lib.hid (Wrote.trans (HXX.out.below HBL.out HXX.out.size) HF.out HST.out)
        rw [← HNX.out] at HW3
        clear HST HXX HF HBL HW2 X0 HB2 HL1 HL2 HNX HFR P3 P4 p0 p1
        go_wp2_with fail
        refine ⟨⟨j + 1, hlt, ?_, Lib.hid (HW3.out.mono (fun h => h.elim))⟩, ?_⟩
        · congr 1
        · simp only [intOf]; omega
    · obtain rfl : j = size := by omega
      have HX2 := HX
      rw [List.take_of_length_le (by rw [wordB_len]; omega)] at HX2
      go_wp2_with fail
      go_end0
      exact ⟨rfl, HX2.out.mono (fun h => by omega)⟩
end Go.Proofs.YtnhlnhmjnnopaaaDoor

/- pack's writer: text. -/
namespace Go.Proofs.YtnhlnhmjnnopaaaDoor
open Go.RowKit

set_option maxHeartbeats 4000000 in
set_option maxRecDepth 100000 in
theorem pack_text {p : Prop} (base wb : Nat) (v : Value) (bs : List UInt8) (s : ByteArray) (size : Nat) (w : World) (hW : WAt p w base wb v bs) (hb : base ≤ w.heap.size) (hn : s.size < 4294967296) (hz1 : 1 ≤ size) (hz : size ≤ 8) (hl : bs.length ≤ 1000000000) :
    Calls Tryd.prog 21 #[.pointer (some ⟨wb, 0, none⟩), .string s, .int .i64 size] w fun e w' => e = .returned (.tuple #[]) ∧ Wrote False w w' base wb v (bs ++ wordB s.size size ++ s.data.toList) := by
  have e0 : IntKind.u32.wrap (s.size : Int) = (s.size : Int) := by
    rw [show ∀ m : Int, IntKind.u32.wrap m = m % 4294967296 from fun m => by simp [IntKind.wrap, IntKind.bits, IntKind.signed]]
    omega
  have HN := Lib.hid (fun W (hW : WAt p W base wb v bs) (hb : base ≤ W.heap.size) => pack_number base wb v bs s.size size W hW hb hn hz1 hz hl)
  have HW := Lib.hid hW
  clear hW
  go_enter Tryd.func21, Tryd.ntmps21
  go_wp2_with fail
  refine (HN.out _ HW.out hb).mono ?_
  rintro e w1 ⟨rfl, h1⟩
  obtain ⟨v1, hW1, hF1⟩ := h1.at_
  have hwl := wordB_len s.size size
  obtain ⟨cs, hcs⟩ : ∃ cs, cs = bs ++ wordB s.size size := ⟨_, rfl⟩
  have HL1 : Hid (cs.length + s.size ≤ 140737488355328) := Lib.hid (by rw [hcs, List.length_append, hwl]; omega)
  rw [← hcs] at hW1
  have HCS := Lib.hid hcs
  have HOFF := Lib.hid h1.off
  obtain ⟨A1, c1, rfl, _⟩ := hW1.own.form
  have HF1 := Lib.hid hF1
  have p0 := hW1.c0
  have p1 := hW1.ty.frozen 0
  have HW1 := Lib.hid hW1
  have HB1 : Hid (base ≤ w1.heap.size) := Lib.hid (Nat.le_trans hb h1.off.size)
  clear h1 hF1 hW1 hwl hcs
  go_wp2_with (at_builtin; refine wpList_append_bytes rfl _ _ rfl s rfl rfl HW1.out.own.own HB1.out HL1.out ?_; intro v' w3 ho hoff hfr; have HST := Lib.hid (HW1.out.store ho hoff hfr); have P3 := hoff.cell HW1.out.c0 HW1.out.not; have P4 := (hoff.frozen (lt_of_cell HW1.out.c0) HW1.out.not).trans (HW1.out.ty.frozen 0); obtain ⟨A2, c2, rfl, _⟩ := ho.form; clear ho hoff hfr)
  have hal : (cs ++ s.data.toList).length = cs.length + s.size := by rw [List.length_append, Array.length_toList]; rfl
  all_goals
    go_end0
    refine ⟨rfl, ?_⟩
    rw [← HCS.out]
    have HST2 := HST.out
    rw [hal] at HST2
    exact Wrote.trans HOFF.out HF1.out HST2
end Go.Proofs.YtnhlnhmjnnopaaaDoor

/- pack's table: whatever it holds, it holds 256 numbers of 32 bits. -/
namespace Go.Proofs.YtnhlnhmjnnopaaaDoor
open Go.RowKit

def U32 (v : Value) : Prop := ∃ z : Int, 0 ≤ z ∧ z < 4294967296 ∧ v = .int .u32 z
structure TabC (c : Array Value) : Prop where
  size : c.size = 256
  all : ∀ i : Nat, ∀ v, c[i]? = some v → U32 v
theorem u32_wrap (z : Int) : 0 ≤ IntKind.u32.wrap z ∧ IntKind.u32.wrap z < 4294967296 := by
  rw [show ∀ m : Int, IntKind.u32.wrap m = m % 4294967296 from fun m => by simp [IntKind.wrap, IntKind.bits, IntKind.signed]]
  omega
theorem TabC.zero : TabC (Array.replicate 256 (.int .u32 0)) := ⟨by simp, fun i v hv => by
  rw [Array.getElem?_replicate] at hv
  split at hv
  · injection hv with hv; exact ⟨0, by decide, by decide, hv.symm⟩
  · cases hv⟩
theorem TabC.set {c : Array Value} (h : TabC c) (i : Nat) {v : Value} (hv : U32 v) : TabC (c.setIfInBounds i v) := ⟨by rw [Array.size_setIfInBounds]; exact h.size, fun j u hu => by
  rw [Array.getElem?_setIfInBounds] at hu
  split at hu
  · split at hu
    · injection hu with hu; rw [← hu]; exact hv
    · cases hu
  · exact h.all j u hu⟩
theorem TabC.one {c : Array Value} (h : TabC c) : c.all (·.oneCell') = true := by
  rw [Array.all_eq_true]
  intro i hi
  obtain ⟨z, _, _, e⟩ := h.all i _ (Array.getElem?_eq_getElem hi)
  rw [e]
  rfl
theorem infoTab : (Tryd.prog.info? 90).map (fun i => (i.zero, i.size)) = some (some (.agg (Array.replicate 256 (.int .u32 0))), 256) := by kernel_rfl
set_option maxHeartbeats 4000000 in
set_option maxRecDepth 100000 in
theorem pack_table (w : World) : Calls Tryd.prog 53 #[] w fun e w' => ∃ c, TabC c ∧ e = .returned (.agg c) ∧ w' = w.alloc (.cells c 90) := by
  have hza := (zero_of_info infoTab).1
  have HZ := Lib.hid (zero_of_info infoTab).2
  go_enter Tryd.func53, Tryd.ntmps53
  go_wp2_with fail
  go_loopw [3] (fun i wr => ∃ (k : Nat) (c : Array Value), k ≤ 256 ∧ i = .int .i64 k ∧ Hid (TabC c) ∧ wr = w.alloc (.cells c 90)) (fun i _ => 256 - (intOf i).toNat)
  case atStart => exact ⟨0, _, by decide, rfl, Lib.hid TabC.zero, rfl⟩
  case round =>
    obtain ⟨k, c, hk, rfl, HT, rfl⟩ := hrel
    by_cases hlt : k < 256
    · have i0 : (k : Int) < 256 := by omega
      go_wp2_with fail
      go_loopw [8, 2] (fun i x wq => ∃ (m : Nat) (z : Int), m ≤ 8 ∧ i = .int .i64 m ∧ x = .int .u32 z ∧ 0 ≤ z ∧ z < 4294967296 ∧ wq = w.alloc (.cells c 90)) (fun i _ _ => 8 - (intOf i).toNat)
      case atStart => exact ⟨0, _, by decide, rfl, rfl, by omega, by omega, rfl⟩
      case round =>
        obtain ⟨m, z, hm, rfl, rfl, z0, z1, rfl⟩ := hrel
        by_cases hl8 : m < 8
        · have i8 : (m : Int) < 8 := by omega
          have hbx := bits_within BinOp.xor .u32 (z / 2) 3988292384
          rw [show IntKind.u32.min = 0 from rfl, show IntKind.u32.max = 4294967295 from rfl] at hbx
          go_wp2_with fail
          · exact ⟨⟨m + 1, _, hl8, by congr 1, rfl, hbx.1, by omega, trivial⟩, by simp only [intOf]; omega⟩
          · exact ⟨⟨m + 1, _, hl8, by congr 1, rfl, by omega, by omega, trivial⟩, by simp only [intOf]; omega⟩
        · obtain ⟨u, hu⟩ : ∃ u, c[k]? = some u := ⟨c[k]'(by rw [HT.out.size]; exact hlt), Array.getElem?_eq_getElem _⟩
          go_wp2_with fail
          exact ⟨⟨k + 1, _, hlt, by congr 1, Lib.hid (HT.out.set k ⟨z, z0, z1, rfl⟩), rfl⟩, by simp only [intOf]; omega⟩
    · have hsz := HT.out.size
      have hld := run_loadAt_new (P := Tryd.prog) w 90 c 256 60 Tryd.underlying90 (by rw [hsz]; exact HZ.out)
      have hsc := run_storeCells_new (P := Tryd.prog) w 90 c c (by rw [hsz]; exact HZ.out) rfl HT.out.one
      have hlv := run_loadVar_new (P := Tryd.prog) w 90 c 256 60 Tryd.underlying90 (by rw [hsz]; exact HZ.out)
      go_wp2_with fail
      unfold Oper.wp execOp
      simp only [Act.eval, Sem.run_bind]
      erw [hld]
      simp only [Result.andThen_ok, Sem.run_pure]
      rw [Oper.upon_value]
      clear hld
      go_wp2_with fail
      (try simp only [Exit.inBlock, Exit.then])
      refine bodyPost_ret (v := .agg c) ?_ rfl ⟨c, HT.out, rfl, rfl⟩
      exact results_cell_row rfl _ _ w.heap.size 90 c (0, 0) _ rfl (heap_alloc_last w _) Tryd.underlying90 rfl (by rw [hsz]; exact HZ.out)
end Go.Proofs.YtnhlnhmjnnopaaaDoor

/- pack.Sum: some number of 32 bits. -/
namespace Go.Proofs.YtnhlnhmjnnopaaaDoor
open Go.RowKit

set_option maxHeartbeats 4000000 in
set_option maxRecDepth 100000 in
theorem pack_sum (base : Nat) (A : Option Addr) (bs : List UInt8) (cp : Nat) (w : World) (hO : OwnsG kByte w base (.slice A bs.length cp) bs) (hl : bs.length ≤ 1000000000000) :
    Calls Tryd.prog 26 #[.slice A bs.length cp] w fun e w' => ∃ n : Nat, n < 4294967296 ∧ e = .returned (.int .u32 n) ∧ Below w.heap.size w w' := by
  have hza := (zero_of_info infoTab).1
  have HZ := Lib.hid (zero_of_info infoTab).2
  have HO := Lib.hid hO
  have KT := fun W => pack_table W
  have HKT := Lib.hid KT
  clear hO KT
  go_enter Tryd.func26, Tryd.ntmps26
  go_wp2_with fail
  refine (HKT.out _).mono ?_
  rintro e w1 ⟨c, hc, rfl, rfl⟩
  have hsc : ∀ W : World, (storeCells ⟨W.heap.size, 0, none⟩ c.toList 0).run Tryd.prog (W.alloc (.cells (Array.replicate 256 (.int .u32 0)) 90)) = .ok () (W.alloc (.cells c 90)) := fun W => run_storeCells_new (P := Tryd.prog) W 90 _ c (by rw [hc.size]; exact HZ.out) (by rw [hc.size]; simp) hc.one
  have hs2 := hsc (w.alloc (.cells c 90))
  simp only [World.size_alloc] at hs2
  have HC := Lib.hid hc
  have hcs := hc.size
  clear hsc hc
  go_wp2_with fail
  obtain ⟨W2, hW2⟩ : ∃ W2, W2 = (w.alloc (.cells c 90)).alloc (.cells c 90) := ⟨_, rfl⟩
  have hb2 : Below w.heap.size w W2 := by rw [hW2]; exact (by (repeat (first | with_reducible exact Below.refl _ _ | with_reducible refine bel_set ?_ ?_ | with_reducible refine bel_alloc ?_ ?_ | with_reducible refine Below.drew ?_ | with_reducible refine bel_drewN _ ?_ | with_reducible refine bel_call ?_ (by assumption) ?_)); all_goals (first | (simp; done) | omega | (simp; omega)))
  have HB2 := Lib.hid hb2
  have hcell : ∀ i : Nat, W2.cell? ⟨w.heap.size + 1, i, none⟩ = c[i]? := fun i => by rw [hW2]; go_simp
  have HCELL := Lib.hid hcell
  rw [← hW2]
  clear hs2 hza hW2 hb2 hcell
  go_loopw [10, 4] (fun i x wq => ∃ (m : Nat) (z : Int), m ≤ bs.length ∧ i = .int .i64 m ∧ x = .int .u32 z ∧ 0 ≤ z ∧ z < 4294967296 ∧ wq = W2) (fun i _ _ => bs.length - (intOf i).toNat)
  case atStart => exact ⟨0, _, by omega, rfl, rfl, by omega, by omega, rfl⟩
  case round =>
    obtain ⟨m, z, hm, rfl, rfl, z0, z1, rfl⟩ := hrel
    by_cases hl8 : m < bs.length
    · have i8 : (m : Int) < (bs.length : Int) := by omega
      obtain ⟨A', c', he, _, _, _, h5⟩ := (HO.out.below HB2.out).form
      injection he with e1 e2 e3
      subst e1
      rcases h5 with h5 | ⟨g, rfl, _, hg2, h7⟩
      · rw [h5] at hl8; simp at hl8
      have hcb := h7 m _ 0 (byteV bs[m]) (List.getElem?_eq_getElem hl8) rfl
      rw [Nat.add_zero, show m * kByte.size = m from Nat.mul_one m] at hcb
      obtain ⟨bb, hbb⟩ : ∃ bb, bb = bs[m] := ⟨_, rfl⟩
      rw [← hbb] at hcb
      unfold byteV at hcb
      clear h7 hbb
      have hq := bits_within BinOp.xor .u8 (z % 256) (bb.toNat : Int)
      rw [show IntKind.u8.min = 0 from rfl, show IntKind.u8.max = 255 from rfl] at hq
      have hq0 := hq.1
      have hq1 : bits BinOp.xor .u8 (z % 256) (bb.toNat : Int) < 256 := by omega
      obtain ⟨y, hy⟩ : ∃ y, c[(bits BinOp.xor .u8 (z % 256) (bb.toNat : Int)).toNat]? = some y := ⟨c[(bits BinOp.xor .u8 (z % 256) (bb.toNat : Int)).toNat]'(by omega), Array.getElem?_eq_getElem _⟩
      obtain ⟨y0, y1, y2, rfl⟩ := HC.out.all _ _ hy
      have hcy := HCELL.out (bits BinOp.xor .u8 (z % 256) (bb.toNat : Int)).toNat
      rw [hy] at hcy
      have hbx := bits_within BinOp.xor .u32 y0 (z / 256)
      rw [show IntKind.u32.min = 0 from rfl, show IntKind.u32.max = 4294967295 from rfl] at hbx
      clear hy hq
      go_wp2_with fail
      exact ⟨⟨m + 1, _, hl8, by congr 1, rfl, hbx.1, by omega, trivial⟩, by simp only [intOf]; omega⟩
    · have hbx := bits_within BinOp.xor .u32 4294967295 z
      rw [show IntKind.u32.min = 0 from rfl, show IntKind.u32.max = 4294967295 from rfl] at hbx
      go_wp2_with fail
      go_ret
      refine ⟨(bits BinOp.xor .u32 4294967295 z).toNat, by omega, ?_, HB2.out⟩
      rw [Int.toNat_of_nonneg hbx.1]
      rfl
end Go.Proofs.YtnhlnhmjnnopaaaDoor

/- Rows of entries that are the call's own. -/
namespace Go.Proofs.YtnhlnhmjnnopaaaDoor
open Go.RowKit

def EntC.cells (x : EntC) : List Value := [.string x.key, .string x.text]
def kEnt : Kind EntC where
  e := 28
  sl := 29
  size := 2
  bytes := 32
  cells := EntC.cells
  zero := .agg #[.string ⟨#[]⟩, .string ⟨#[]⟩]
  hsl := Tryd.underlying29
  hi := by
    have h : (Tryd.prog.info? 28).map (fun i => (i.zero, i.size, i.bytes)) = some (some (.agg #[.string ⟨#[]⟩, .string ⟨#[]⟩]), 2, 32) := by kernel_rfl
    obtain ⟨i, hi, h2⟩ := Option.map_eq_some_iff.1 h
    simp only [Prod.mk.injEq] at h2
    exact ⟨i, hi, h2.1, h2.2.1, h2.2.2⟩
  hzs := rfl
  hpos := by decide
  hlen := fun _ => rfl
  hone := fun x u hu => by
    simp only [EntC.cells, List.mem_cons, List.not_mem_nil, or_false] at hu
    rcases hu with rfl | rfl <;> rfl
theorem EntsIn.lies {w : World} {A : Option Addr} {l : List EntC} (h : EntsIn w A l) : LiesG kEnt w A l := by
  rcases h with h | ⟨b, o, rfl, h2⟩
  · exact .inl h
  · refine .inr ⟨b, o, rfl, fun j x i u hx hu => ?_⟩
    obtain ⟨c0, c1⟩ := h2 j x hx
    match i, hu with
    | 0, hu => cases hu; exact c0
    | 1, hu => cases hu; exact c1
theorem ents_of {w : World} {base : Nat} {v : Value} {l : List EntC} (h : OwnsG kEnt w base v l) : ∃ A c, v = .slice A l.length c ∧ l.length ≤ c ∧ c ≤ 9223372036854775807 ∧ (A = none → c = 0) ∧ EntsIn w A l := by
  obtain ⟨A, c, rfl, h1, h2, h0, h3⟩ := h.form
  refine ⟨A, c, rfl, h1, h2, h0, ?_⟩
  rcases h3 with h3 | ⟨g, rfl, _, _, h4⟩
  · exact .inl h3
  · refine .inr ⟨g, 0, rfl, fun j x hx => ?_⟩
    rw [Nat.zero_add]
    exact ⟨h4 j x 0 _ hx rfl, h4 j x 1 _ hx rfl⟩
end Go.Proofs.YtnhlnhmjnnopaaaDoor
