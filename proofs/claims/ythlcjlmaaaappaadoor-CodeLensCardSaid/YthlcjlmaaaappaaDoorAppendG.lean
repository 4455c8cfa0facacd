/- A row appended to a row that is the call's own. -/
import Derived.Test.YthlcjlmaaaappaaDoorRowG
namespace Go.Proofs.YthlcjlmaaaappaaDoor
open Go.RowKit

variable {α : Type} {k : Kind α}
theorem rowCells_length (ts : List α) : (rowCells k ts).length = ts.length * k.size := by
  induction ts with
  | nil => simp [rowCells]
  | cons x r ih =>
    unfold rowCells at *
    rw [List.map_cons, List.flatten_cons, List.length_append, ih, k.hlen, List.length_cons, Nat.succ_mul]
    omega
theorem rowCells_inv (ts : List α) : ∀ (j : Nat) u, (rowCells k ts)[j]? = some u → ∃ q t i, j = q * k.size + i ∧ ts[q]? = some t ∧ (k.cells t)[i]? = some u := by
  induction ts with
  | nil => intro j u h; simp [rowCells] at h
  | cons x r ih =>
    intro j u h
    unfold rowCells at *
    rw [List.map_cons, List.flatten_cons] at h
    by_cases hj : j < k.size
    · rw [List.getElem?_append_left (by rw [k.hlen]; exact hj)] at h
      exact ⟨0, x, j, by simp, rfl, h⟩
    · rw [List.getElem?_append_right (by rw [k.hlen]; omega), k.hlen] at h
      obtain ⟨q, t, i, h1, h2, h3⟩ := ih _ _ h
      exact ⟨q + 1, t, i, by rw [Nat.succ_mul]; omega, by simpa using h2, h3⟩
theorem rowCells_one (ts : List α) : ∀ u ∈ rowCells k ts, u.oneCell' = true := by
  intro u hu
  obtain ⟨j, hj⟩ := List.mem_iff_getElem?.1 hu
  obtain ⟨q, t, i, _, _, h3⟩ := rowCells_inv ts j u hj
  exact k.hone t u (List.mem_of_getElem? h3)
theorem rowCells_append (a b : List α) : rowCells k (a ++ b) = rowCells k a ++ rowCells k b := by unfold rowCells; simp

/-- a row lies there -/
def LiesG (k : Kind α) (w : World) (A : Option Addr) (ys : List α) : Prop :=
  ys = [] ∨ ∃ b o, A = some ⟨b, o, none⟩ ∧ ∀ (j : Nat) t i u, ys[j]? = some t → (k.cells t)[i]? = some u → w.cell? ⟨b, o + j * k.size + i, none⟩ = some u
theorem LiesG.below {w w' : World} {A : Option Addr} {ys : List α} (h : LiesG k w A ys) (hb : Below w.heap.size w w') : LiesG k w' A ys := by
  rcases h with h | ⟨b, o, h1, h2⟩
  · exact .inl h
  · exact .inr ⟨b, o, h1, fun j t i u ht hu => carry hb (h2 j t i u ht hu)⟩

theorem append_manyG {w : World} {base : Nat} {v : Value} {ts ys : List α} {A : Option Addr} {c : Nat} (h : OwnsG k w base v ts) (hy : LiesG k w A ys) (hA : A = none → c = 0) (ty : TypeId) (hb : base ≤ w.heap.size) (hn : (ts.length + ys.length) * k.bytes ≤ 140737488355328) (hn2 : ts.length + ys.length ≤ 9223372036854775807) :
    ∃ v' w', (Builtin.append_ #[k.sl, k.sl] ty #[v, .slice A ys.length c]).run Tryd.prog w = .ok v' w' ∧ OwnsG k w' base v' (ts ++ ys) ∧ Off v.ownBlock.toList w w' := by
  obtain ⟨i, hi, hz, hsz, hby⟩ := k.hi
  cases A with
  | none =>
    obtain rfl := hA rfl
    obtain rfl : ys = [] := by
      rcases hy with h1 | ⟨b, o, h1, _⟩
      · exact h1
      · cases h1
    exact ⟨v, w, run_append_owned_none w base k.sl ty k.e i k.size k.hsl hi v ts.length _ h, by rw [List.append_nil]; exact h, Off.refl _ _⟩
  | some a =>
    obtain ⟨v', w', h1, h2, h3, _⟩ := run_append_own (P := Tryd.prog) w base k.sl ty k.e i _ k.size k.bytes k.hsl hi hz hsz hby k.hzs k.hpos v ts.length _ h
      a ys.length c (rowCells k ys) (rowCells_length ys) (fun j u hj => by
        rcases hy with h1 | ⟨b, o, h1, h2⟩
        · subst h1; simp [rowCells] at hj
        · cases h1
          obtain ⟨q, t, i, rfl, ht, hu⟩ := rowCells_inv ys j u hj
          rw [Go.WideShapes.add_plain, ← Nat.add_assoc]
          exact h2 q t i u ht hu) (rowCells_one ys) hn2 hn hb
    refine ⟨v', w', h1, ?_, grown_off h3 fun k hk => by simp [hk]⟩
    unfold OwnsG
    rw [List.length_append, rowCells_append]
    exact h2
theorem wpList_append_manyG {w : World} {ops : Array Oper} {rest : List Oper} {o : Oper} {a : Act} {Q : Exit → Act → World → Prop} (hgd : o.guard = none) (s x : Operand)
    (ho : o.op = .call { callee := .builtin .append, args := #[s, x], argTypes := #[k.sl, k.sl] }) {base : Nat} {v : Value} {ts ys : List α} {A : Option Addr} {c : Nat}
    (hs : a.eval s = v) (hx : a.eval x = .slice A ys.length c) (hown : OwnsG k w base v ts) (hy : LiesG k w A ys) (hA : A = none → c = 0) (hb : base ≤ w.heap.size) (hn : (ts.length + ys.length) * k.bytes ≤ 140737488355328) (hn2 : ts.length + ys.length ≤ 9223372036854775807)
    (h : ∀ v' w', OwnsG k w' base v' (ts ++ ys) → Off v.ownBlock.toList w w' → wpList Tryd.prog ops Q rest (a.put o.dst v') w') : wpList Tryd.prog ops Q (o :: rest) a w := by
  refine wpList_plain hgd fun K hK => ?_
  obtain ⟨v', w', hr, h2, h3⟩ := append_manyG hown hy hA o.type hb hn hn2
  unfold Oper.wp execOp
  simp only [ho, resolve, invoke, builtin, Sem.run_bind, Sem.run_pure, Result.andThen_ok, List.map_toArray, List.map_cons, List.map_nil, hs, hx, hr]
  exact hK _ _ (h v' w' h2 h3)
theorem OwnsG.grown {wa wb : World} {base : Nat} {v : Value} {ts : List α} (h : OwnsG k wa base v ts) (hoff : Off v.ownBlock.toList wa wb) (hb : base ≤ wa.heap.size) : Below base wa wb :=
  hoff.toBelow (fun g hg => (h.block g hg).1) hb
end Go.Proofs.YthlcjlmaaaappaaDoor
