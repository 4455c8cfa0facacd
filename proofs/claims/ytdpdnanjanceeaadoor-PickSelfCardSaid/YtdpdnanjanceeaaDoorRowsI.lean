/- Rows of ints that are the call's own; 'append' of one to them. -/
import Derived.Test.YtdpdnanjanceeaaDoorRowsS
namespace Go.Proofs.YtdpdnanjanceeaaDoor
open Go.RowKit

/-- these ints lie there -/
def IntsIn (w : World) (A : Option Addr) (xs : List Int) : Prop := xs = [] ∨ ∃ b o, A = some ⟨b, o, none⟩ ∧ ∀ (j : Nat) x, xs[j]? = some x → w.cell? ⟨b, o + j, none⟩ = some (.int .i64 x)
theorem IntsIn.below {w w' : World} {A : Option Addr} {xs : List Int} (h : IntsIn w A xs) (hb : Below w.heap.size w w') : IntsIn w' A xs := by
  rcases h with h | ⟨b, o, h1, h2⟩
  · exact .inl h
  · exact .inr ⟨b, o, h1, fun j x hx => carry hb (h2 j x hx)⟩

theorem infoInt : ∃ i, Tryd.prog.info? 3 = some i ∧ i.zero = some (.int .i64 0) ∧ i.size = 1 ∧ i.bytes = 8 := by
  have h : (Tryd.prog.info? 3).map (fun i => (i.zero, i.size, i.bytes)) = some (some (.int .i64 0), 1, 8) := by kernel_rfl
  obtain ⟨i, hi, h2⟩ := Option.map_eq_some_iff.1 h
  simp only [Prod.mk.injEq] at h2
  exact ⟨i, hi, h2.1, h2.2.1, h2.2.2⟩

/-- A row of ints that is the call's own. -/
def OwnsI (w : World) (base : Nat) (v : Value) (xs : List Int) : Prop := w.ownsRow base 3 1 v xs.length (xs.map (.int .i64))

theorem OwnsI.nil (w : World) (base : Nat) : OwnsI w base (.slice none 0 0) [] := World.ownsRow_nil w base _ 1
theorem OwnsI.alloc {w : World} {base : Nat} {v : Value} {xs : List Int} (h : OwnsI w base v xs) (o : Obj) : OwnsI (w.alloc o) base v xs := World.ownsRow.alloc h o
theorem OwnsI.drewN {w : World} {base : Nat} {v : Value} {xs : List Int} (h : OwnsI w base v xs) (k : Nat) : OwnsI (w.drewN k) base v xs := h
theorem OwnsI.off {w w' : World} {base : Nat} {v : Value} {xs : List Int} {l : List Nat} (h : OwnsI w base v xs) (hb : Off l w w') (hl : ∀ k, v.ownBlock = some k → k ∉ l) : OwnsI w' base v xs := by
  refine ⟨h.1, ?_⟩
  rcases h.2 with h2 | ⟨g, cap, cur, rfl, h3, h4, h5⟩
  · exact .inl h2
  · refine .inr ⟨g, cap, cur, rfl, h3, ?_, h5⟩
    rw [hb.block g (by have := (Array.getElem?_eq_some_iff.1 h4).1; omega) (hl g rfl)]
    exact h4
theorem OwnsI.below {w w' : World} {base : Nat} {v : Value} {xs : List Int} (h : OwnsI w base v xs) (hb : Below w.heap.size w w') : OwnsI w' base v xs :=
  h.off ((Off.refl [] w).below hb (Nat.le_refl _)) (fun k _ => by simp)
theorem OwnsI.base {w : World} {base b' : Nat} {v : Value} {xs : List Int} (h : OwnsI w base v xs) (hb : b' ≤ base) : OwnsI w b' v xs := by
  refine ⟨h.1, ?_⟩
  rcases h.2 with h2 | ⟨g, cap, cur, h1, h3, h4⟩
  · exact .inl h2
  · exact .inr ⟨g, cap, cur, h1, by omega, h4⟩
/-- Its form, and its ints to be read. -/
theorem OwnsI.form {w : World} {base : Nat} {v : Value} {xs : List Int} (h : OwnsI w base v xs) : ∃ A c, v = .slice A xs.length c ∧ xs.length ≤ c ∧ (A = none → c = 0) ∧ IntsIn w A xs ∧ (∀ g, v.ownBlock = some g → base ≤ g ∧ g < w.heap.size) := by
  refine h.2.elim (fun ⟨h1, h2⟩ => ?_) (fun ⟨g, cap, cur, h1, h3, h4, h5, h6⟩ => ?_)
  · obtain rfl : xs = [] := List.length_eq_zero_iff.1 h2
    exact ⟨none, 0, h1, Nat.le_refl _, fun _ => rfl, .inl rfl, fun g hg => by rw [h1] at hg; cases hg⟩
  · refine ⟨some ⟨g, 0, none⟩, cap, h1, h5, (fun h => by cases h), .inr ⟨g, 0, rfl, fun j x hx => ?_⟩, fun g' hg => ?_⟩
    · have := World.ownsRow.cells h (g := g) (by rw [h1]; rfl) j (.int .i64 x) (by rw [List.getElem?_map, hx]; rfl)
      rw [Go.WideShapes.add_plain] at this
      exact this
    · rw [h1] at hg
      cases hg
      exact ⟨h3, (Array.getElem?_eq_some_iff.1 h4).1⟩
theorem OwnsI.ints {w : World} {base : Nat} {A : Option Addr} {n c : Nat} {xs : List Int} (h : OwnsI w base (.slice A n c) xs) : IntsIn w A xs := by
  obtain ⟨A', c', h1, _, _, h2, _⟩ := h.form
  cases h1
  exact h2

theorem append_int {w : World} {base : Nat} {v : Value} {xs : List Int} {b c : Nat} (y : Int) (h : OwnsI w base v xs) (hy : w.cell? ⟨b, 0, none⟩ = some (.int .i64 y)) (ty : TypeId) (hb : base ≤ w.heap.size) (hn : xs.length ≤ 8000000000000) :
    ∃ v' w', (Builtin.append_ #[42, 42] ty #[v, .slice (some ⟨b, 0, none⟩) 1 c]).run Tryd.prog w = .ok v' w' ∧
      OwnsI w' base v' (xs ++ [y]) ∧ Off v.ownBlock.toList w w' := by
  obtain ⟨i, hi, hz, hsz, hby⟩ := infoInt
  obtain ⟨v', w', h1, h2, h3, _⟩ := run_append_own (P := Tryd.prog) w base 42 ty 3 i (.int .i64 0) 1 8 Tryd.underlying42 hi hz hsz hby rfl (by omega) v xs.length _ h
    ⟨b, 0, none⟩ 1 c [.int .i64 y] (by simp) (fun j u hj => by
      cases j with
      | zero => simp at hj; subst hj; exact hy
      | succ j => simp at hj) (by simp [Value.oneCell']) (by simp [maxLen]; omega) (by omega) hb
  refine ⟨v', w', h1, ?_, grown_off h3 fun k hk => by simp [hk]⟩
  unfold OwnsI
  rw [List.map_append, List.length_append]
  exact h2
theorem OwnsI.grown {wa wb : World} {base : Nat} {v : Value} {xs : List Int} (h : OwnsI wa base v xs) (hoff : Off v.ownBlock.toList wa wb) (hb : base ≤ wa.heap.size) : Below base wa wb := by
  obtain ⟨A, c, _, _, _, _, hl⟩ := h.form
  exact hoff.toBelow (fun k hk => (hl k (by simpa using hk)).1) hb
theorem wpList_append_int {w : World} {ops : Array Oper} {rest : List Oper} {o : Oper} {a : Act} {Q : Exit → Act → World → Prop} (hgd : o.guard = none) (s x : Operand)
    (ho : o.op = .call { callee := .builtin .append, args := #[s, x], argTypes := #[42, 42] }) {base : Nat} {v : Value} {xs : List Int} {b : Nat} (y : Int)
    (hs : a.eval s = v) (hx : a.eval x = .slice (some ⟨b, 0, none⟩) 1 1) (hown : OwnsI w base v xs) (hy : w.cell? ⟨b, 0, none⟩ = some (.int .i64 y)) (hb : base ≤ w.heap.size) (hn : xs.length ≤ 7000000000000)
    (h : ∀ v' w', OwnsI w' base v' (xs ++ [y]) → Off v.ownBlock.toList w w' → wpList Tryd.prog ops Q rest (a.put o.dst v') w') : wpList Tryd.prog ops Q (o :: rest) a w := by
  refine wpList_plain hgd fun K hK => ?_
  obtain ⟨v', w', hr, h2, h3⟩ := append_int (c := 1) y hown hy o.type hb (by omega)
  unfold Oper.wp execOp
  simp only [ho, resolve, invoke, builtin, Sem.run_bind, Sem.run_pure, Result.andThen_ok, List.map_toArray, List.map_cons, List.map_nil, hs, hx, hr]
  exact hK _ _ (h v' w' h2 h3)
end Go.Proofs.YtdpdnanjanceeaaDoor
