/- Rows of things of several cells that are the call's own. -/
import Derived.OwnWalkIn
import Derived.TacticsInMore
import Derived.LoopNIn
import Derived.LoopIn
import Derived.Test.YthlcjlmaaaappaaDoorRowsS
import Derived.Maps.AppendAt
namespace Go.Proofs.YthlcjlmaaaappaaDoor
open Go.RowKit

/-- what a type's row is made of: its number, its size, its bytes, its zero -/
structure Kind (α : Type) where
  e : TypeId
  sl : TypeId
  size : Nat
  bytes : Nat
  cells : α → List Value
  zero : Value
  hsl : Tryd.prog.underlying sl = some (.slice e)
  hi : ∃ i, Tryd.prog.info? e = some i ∧ i.zero = some zero ∧ i.size = size ∧ i.bytes = bytes
  hzs : zero.cells.size = size
  hpos : 0 < size
  hlen : ∀ t, (cells t).length = size
  hone : ∀ t, ∀ u ∈ cells t, u.oneCell' = true

variable {α : Type} (k : Kind α)
def rowCells (ts : List α) : List Value := (ts.map k.cells).flatten
theorem rowCells_at (ts : List α) : ∀ (j : Nat) t i v, ts[j]? = some t → (k.cells t)[i]? = some v → (rowCells k ts)[j * k.size + i]? = some v := by
  induction ts with
  | nil => intro j t i v h; simp at h
  | cons x r ih =>
    intro j t i v h hv
    unfold rowCells at *
    rw [List.map_cons, List.flatten_cons]
    have hx := k.hlen x
    cases j with
    | zero =>
      simp at h
      subst h
      have hi : i < k.size := by have := (List.getElem?_eq_some_iff.1 hv).1; rw [hx] at this; exact this
      rw [Nat.zero_mul, Nat.zero_add, List.getElem?_append_left (by rw [hx]; exact hi)]
      exact hv
    | succ j =>
      simp only [List.getElem?_cons_succ] at h
      rw [List.getElem?_append_right (by rw [hx, Nat.succ_mul]; omega), hx, show (j + 1) * k.size + i - k.size = j * k.size + i by rw [Nat.succ_mul]; omega]
      exact ih j t i v h hv

/-- A row that is the call's own. -/
def OwnsG (w : World) (base : Nat) (v : Value) (ts : List α) : Prop := w.ownsRow base k.e k.size v ts.length (rowCells k ts)
variable {k}
theorem OwnsG.nil (w : World) (base : Nat) : OwnsG k w base (.slice none 0 0) [] := World.ownsRow_nil w base _ _
theorem OwnsG.alloc {w : World} {base : Nat} {v : Value} {ts : List α} (h : OwnsG k w base v ts) (o : Obj) : OwnsG k (w.alloc o) base v ts := World.ownsRow.alloc h o
/-- it stays where its own block stays -/
theorem OwnsG.kept {w w' : World} {base : Nat} {v : Value} {ts : List α} (h : OwnsG k w base v ts) (hb : ∀ g cur, v.ownBlock = some g → w.heap[g]? = some (.cells cur k.e (0, 0)) → w'.heap[g]? = w.heap[g]?) : OwnsG k w' base v ts := by
  refine ⟨h.1, ?_⟩
  rcases h.2 with h2 | ⟨g, cap, cur, rfl, h3, h4, h5⟩
  · exact .inl h2
  · exact .inr ⟨g, cap, cur, rfl, h3, by rw [hb g cur rfl h4]; exact h4, h5⟩
theorem OwnsG.off {w w' : World} {base : Nat} {v : Value} {ts : List α} {l : List Nat} (h : OwnsG k w base v ts) (hb : Off l w w') (hl : ∀ g, v.ownBlock = some g → g ∉ l) : OwnsG k w' base v ts :=
  h.kept (fun g cur hg hc => hb.block g (Array.getElem?_eq_some_iff.1 hc).1 (hl g hg))
theorem OwnsG.below {w w' : World} {base : Nat} {v : Value} {ts : List α} (h : OwnsG k w base v ts) (hb : Below w.heap.size w w') : OwnsG k w' base v ts :=
  h.kept (fun g cur _ hc => hb.block g (Array.getElem?_eq_some_iff.1 hc).1)
theorem OwnsG.base {w : World} {base b' : Nat} {v : Value} {ts : List α} (h : OwnsG k w base v ts) (hb : b' ≤ base) : OwnsG k w b' v ts := by
  refine ⟨h.1, ?_⟩
  rcases h.2 with h2 | ⟨g, cap, cur, h1, h3, h4⟩
  · exact .inl h2
  · exact .inr ⟨g, cap, cur, h1, by omega, h4⟩
theorem OwnsG.form {w : World} {base : Nat} {v : Value} {ts : List α} (h : OwnsG k w base v ts) : ∃ A c, v = .slice A ts.length c ∧ ts.length ≤ c ∧ c ≤ 9223372036854775807 ∧ (A = none → c = 0) ∧
    (ts = [] ∨ ∃ g, A = some ⟨g, 0, none⟩ ∧ base ≤ g ∧ g < w.heap.size ∧ ∀ (j : Nat) t i u, ts[j]? = some t → (k.cells t)[i]? = some u → w.cell? ⟨g, j * k.size + i, none⟩ = some u) := by
  rcases h.2 with ⟨h1, h2⟩ | ⟨g, cap, cur, rfl, h3, h4, h5, h6, _⟩
  · obtain rfl : ts = [] := List.length_eq_zero_iff.1 h2
    exact ⟨none, 0, h1, Nat.le_refl _, by omega, fun _ => rfl, .inl rfl⟩
  · refine ⟨some ⟨g, 0, none⟩, cap, rfl, h5, h6, (fun h => by cases h), .inr ⟨g, rfl, h3, (Array.getElem?_eq_some_iff.1 h4).1, fun j t i u ht hu => ?_⟩⟩
    have := World.ownsRow.cells h (g := g) rfl (j * k.size + i) u (rowCells_at k ts j t i u ht hu)
    rw [Go.WideShapes.add_plain, Nat.zero_add] at this
    exact this
/-- its own block holds things of its type alone -/
theorem OwnsG.block {w : World} {base : Nat} {v : Value} {ts : List α} (h : OwnsG k w base v ts) : ∀ g ∈ v.ownBlock.toList, base ≤ g ∧ ∃ cur, w.heap[g]? = some (.cells cur k.e (0, 0)) := by
  intro g hg
  rcases h.2 with ⟨h2, _⟩ | ⟨g', cap, cur, rfl, h3, h4, h5⟩
  · rw [h2] at hg; simp [Value.ownBlock] at hg
  · simp [Value.ownBlock] at hg
    subst hg
    exact ⟨h3, cur, h4⟩

theorem append_g {w : World} {base : Nat} {v : Value} {ts : List α} {b c : Nat} (t : α) (h : OwnsG k w base v ts) (hc : ∀ i u, (k.cells t)[i]? = some u → w.cell? ⟨b, i, none⟩ = some u) (ty : TypeId) (hb : base ≤ w.heap.size) (hn : (ts.length + 1) * k.bytes ≤ 140737488355328) (hn2 : ts.length + 1 ≤ 9223372036854775807) :
    ∃ v' w', (Builtin.append_ #[k.sl, k.sl] ty #[v, .slice (some ⟨b, 0, none⟩) 1 c]).run Tryd.prog w = .ok v' w' ∧ OwnsG k w' base v' (ts ++ [t]) ∧ Off v.ownBlock.toList w w' := by
  obtain ⟨i, hi, hz, hsz, hby⟩ := k.hi
  obtain ⟨v', w', h1, h2, h3, _, _⟩ := run_append_own_at (P := Tryd.prog) w base k.sl ty k.e i _ k.size k.bytes k.hsl hi hz hsz hby k.hzs k.hpos v ts.length _ h
    ⟨b, 0, none⟩ 1 c (k.cells t) (by rw [k.hlen, Nat.one_mul]) (fun j u hj => by rw [Go.WideShapes.add_plain, Nat.zero_add]; exact hc j u hj)
    (k.hone t) hn2 hn hb
  refine ⟨v', w', h1, ?_, grown_off h3 (fun k hk => by simp [hk])⟩
  unfold OwnsG
  rw [List.length_append]
  have e : rowCells k (ts ++ [t]) = rowCells k ts ++ k.cells t := by unfold rowCells; simp
  rw [e]
  exact h2

/-- AT THE OPERATION, in a round too. -/
theorem operIn_append_g {F : Fence} {n : Nat} {w : World} {o : Oper} {a : Act} {K : Act → World → Prop} {Q : Exit → Act → World → Prop} (s x : Operand)
    (ho : o.op = .call { callee := .builtin .append, args := #[s, x], argTypes := #[k.sl, k.sl] }) {base : Nat} {v : Value} {ts : List α} {b c : Nat} (t : α)
    (hs : a.eval s = v) (hx : a.eval x = .slice (some ⟨b, 0, none⟩) 1 c) (hown : OwnsG k w base v ts) (hc : ∀ i u, (k.cells t)[i]? = some u → w.cell? ⟨b, i, none⟩ = some u) (hb : base ≤ w.heap.size) (hn : (ts.length + 1) * k.bytes ≤ 140737488355328) (hn2 : ts.length + 1 ≤ 9223372036854775807)
    (h : ∀ v' w', OwnsG k w' base v' (ts ++ [t]) → Off v.ownBlock.toList w w' → K (a.put o.dst v') w') : o.wpIn F n Tryd.prog a w K Q := by
  obtain ⟨v', w', hrun, r1, r2⟩ := append_g (c := c) t hown hc o.type hb hn hn2
  unfold Oper.wpIn
  refine ⟨?_, ?_⟩
  · simp [Oper.about, ho, resolve, Target.leads, Sem.run_pure]
  · rw [Oper.semAt_plain F _ _ (by rw [ho]; intro c hc'; cases hc')]
    simp [execOp, ho, resolve, invoke, builtin, hs, hx, hrun, Result.andThen]
    exact h v' w' r1 r2
theorem wpListIn_append_g {F : Fence} {n : Nat} {w : World} {ops : Array Oper} {rest : List Oper} {o : Oper} {a : Act} {Q : Exit → Act → World → Prop} (hgd : o.guard = none) (s x : Operand)
    (ho : o.op = .call { callee := .builtin .append, args := #[s, x], argTypes := #[k.sl, k.sl] }) {base : Nat} {v : Value} {ts : List α} {b c : Nat} (t : α)
    (hs : a.eval s = v) (hx : a.eval x = .slice (some ⟨b, 0, none⟩) 1 c) (hown : OwnsG k w base v ts) (hc : ∀ i u, (k.cells t)[i]? = some u → w.cell? ⟨b, i, none⟩ = some u) (hb : base ≤ w.heap.size) (hn : (ts.length + 1) * k.bytes ≤ 140737488355328) (hn2 : ts.length + 1 ≤ 9223372036854775807)
    (h : ∀ v' w', OwnsG k w' base v' (ts ++ [t]) → Off v.ownBlock.toList w w' → wpListIn F n Tryd.prog ops Q rest (a.put o.dst v') w') : wpListIn F n Tryd.prog ops Q (o :: rest) a w :=
  wpListIn_plain hgd fun _ hK => operIn_append_g s x ho t hs hx hown hc hb hn hn2 (fun v' w' h1 h2 => hK _ _ (h v' w' h1 h2))
end Go.Proofs.YthlcjlmaaaappaaDoor
