/- Rows of texts that are the call's own; 'append' to them. -/
import Derived.Test.YthlcjlmaaaappaaDoorOff
import Derived.Test.YthlcjlmaaaappaaDoorShelf
import Derived.Test.YthlcjlmaaaappaaDoorStrsPlain
import Derived.Laws.AppendOwn
import Derived.Laws.OwnMore
import Derived.OwnWalk
import Derived.WideShapes
namespace Go.Proofs.YthlcjlmaaaappaaDoor
open Go.RowKit

theorem infoStr : ∃ i, Tryd.prog.info? 9 = some i ∧ i.zero = some (.string ⟨#[]⟩) ∧ i.size = 1 ∧ i.bytes = 16 := by
  have h : (Tryd.prog.info? 9).map (fun i => (i.zero, i.size, i.bytes)) = some (some (.string ⟨#[]⟩), 1, 16) := by kernel_rfl
  obtain ⟨i, hi, h2⟩ := Option.map_eq_some_iff.1 h
  simp only [Prod.mk.injEq] at h2
  exact ⟨i, hi, h2.1, h2.2.1, h2.2.2⟩

/-- A row of texts that is the call's own. -/
def OwnsS (w : World) (base : Nat) (v : Value) (xs : List ByteArray) : Prop := w.ownsRow base 9 1 v xs.length (xs.map .string)

theorem OwnsS.nil (w : World) (base : Nat) : OwnsS w base (.slice none 0 0) [] := World.ownsRow_nil w base _ 1
theorem OwnsS.alloc {w : World} {base : Nat} {v : Value} {xs : List ByteArray} (h : OwnsS w base v xs) (o : Obj) : OwnsS (w.alloc o) base v xs := World.ownsRow.alloc h o
theorem OwnsS.drewN {w : World} {base : Nat} {v : Value} {xs : List ByteArray} (h : OwnsS w base v xs) (k : Nat) : OwnsS (w.drewN k) base v xs := h
theorem OwnsS.off {w w' : World} {base : Nat} {v : Value} {xs : List ByteArray} {l : List Nat} (h : OwnsS w base v xs) (hb : Off l w w') (hl : ∀ k, v.ownBlock = some k → k ∉ l) : OwnsS w' base v xs := by
  refine ⟨h.1, ?_⟩
  rcases h.2 with h2 | ⟨g, cap, cur, rfl, h3, h4, h5⟩
  · exact .inl h2
  · refine .inr ⟨g, cap, cur, rfl, h3, ?_, h5⟩
    rw [hb.block g (by have := (Array.getElem?_eq_some_iff.1 h4).1; omega) (hl g rfl)]
    exact h4
theorem OwnsS.below {w w' : World} {base : Nat} {v : Value} {xs : List ByteArray} (h : OwnsS w base v xs) (hb : Below w.heap.size w w') : OwnsS w' base v xs :=
  h.off ((Off.refl [] w).below hb (Nat.le_refl _)) (fun k _ => by simp)
theorem OwnsS.base {w : World} {base b' : Nat} {v : Value} {xs : List ByteArray} (h : OwnsS w base v xs) (hb : b' ≤ base) : OwnsS w b' v xs := by
  refine ⟨h.1, ?_⟩
  rcases h.2 with h2 | ⟨g, cap, cur, h1, h3, h4⟩
  · exact .inl h2
  · exact .inr ⟨g, cap, cur, h1, by omega, h4⟩
/-- Its form, and its texts to be read. -/
theorem OwnsS.form {w : World} {base : Nat} {v : Value} {xs : List ByteArray} (h : OwnsS w base v xs) : ∃ A c, v = .slice A xs.length c ∧ (A = none → c = 0) ∧ StrsIn w A xs ∧ (∀ g, v.ownBlock = some g → base ≤ g ∧ g < w.heap.size) := by
  refine h.2.elim (fun ⟨h1, h2⟩ => ?_) (fun ⟨g, cap, cur, h1, h3, h4, h5⟩ => ?_)
  · obtain rfl : xs = [] := List.length_eq_zero_iff.1 h2
    exact ⟨none, 0, h1, fun _ => rfl, .inl rfl, fun g hg => by rw [h1] at hg; cases hg⟩
  · refine ⟨some ⟨g, 0, none⟩, cap, h1, (fun h => by cases h), .inr ⟨g, 0, rfl, fun j x hx => ?_⟩, fun g' hg => ?_⟩
    · have := World.ownsRow.cells h (g := g) (by rw [h1]; rfl) j (.string x) (by rw [List.getElem?_map, hx]; rfl)
      rw [Go.WideShapes.add_plain] at this
      exact this
    · rw [h1] at hg
      cases hg
      exact ⟨h3, (Array.getElem?_eq_some_iff.1 h4).1⟩

theorem OwnsS.strs {w : World} {base : Nat} {A : Option Addr} {n c : Nat} {xs : List ByteArray} (h : OwnsS w base (.slice A n c) xs) : StrsIn w A xs := by
  obtain ⟨A', c', h1, _, h2, _⟩ := h.form
  cases h1
  exact h2
theorem OwnsS.lit (w : World) {base : Nat} (hb : base ≤ w.heap.size) : OwnsS (w.alloc (.cells #[] 9)) base (.slice (some ⟨w.heap.size, 0, none⟩) 0 0) [] :=
  World.ownsRow_lit w #[] 0 hb (by simp [maxLen]) rfl

theorem grown_off {w w' : World} {row : Option Nat} {l : List Nat} (h : w.grownBy w' row) (hl : ∀ k, row = some k → k ∈ l) : Off l w w' :=
  ⟨h.os, h.tape, h.output, h.size, fun k hk hn => h.block k hk (fun e => hn (hl k e.symm))⟩

theorem StrsIn.one {w : World} {b : Nat} {x : ByteArray} (h : w.cell? ⟨b, 0, none⟩ = some (.string x)) : StrsIn w (some ⟨b, 0, none⟩) [x] :=
  .inr ⟨b, 0, rfl, fun j y hj => by
    cases j with
    | zero => simp at hj; subst hj; exact h
    | succ j => simp at hj⟩

/-- A row of texts behind them. -/
theorem append_many {w : World} {base : Nat} {v : Value} {xs ys : List ByteArray} {A : Option Addr} {c : Nat} (h : OwnsS w base v xs) (hy : StrsIn w A ys) (hA : A = none → c = 0) (ty : TypeId) (hb : base ≤ w.heap.size) (hn : xs.length + ys.length ≤ 8000000000000) :
    ∃ v' w', (Builtin.append_ #[73, 73] ty #[v, .slice A ys.length c]).run Tryd.prog w = .ok v' w' ∧
      OwnsS w' base v' (xs ++ ys) ∧ Off v.ownBlock.toList w w' := by
  obtain ⟨i, hi, hz, hsz, hby⟩ := infoStr
  cases A with
  | none =>
    obtain rfl := hA rfl
    obtain rfl : ys = [] := by
      rcases hy with h1 | ⟨b, o, h1, _⟩
      · exact h1
      · cases h1
    exact ⟨v, w, run_append_owned_none w base 73 ty 9 i 1 Tryd.underlying73 hi v xs.length _ h, by rw [List.append_nil]; exact h, Off.refl _ _⟩
  | some a =>
    obtain ⟨v', w', h1, h2, h3, _⟩ := run_append_own (P := Tryd.prog) w base 73 ty 9 i (.string ⟨#[]⟩) 1 16 Tryd.underlying73 hi hz hsz hby rfl (by omega) v xs.length _ h
      a ys.length c (ys.map .string) (by simp) (fun j u hj => by
        rcases hy with h1 | ⟨b, o, h1, h2⟩
        · subst h1; simp at hj
        · cases h1
          rw [List.getElem?_map, Option.map_eq_some_iff] at hj
          obtain ⟨x, hx, rfl⟩ := hj
          rw [Go.WideShapes.add_plain]
          exact h2 j x hx) (by simp [Value.oneCell']) (by simp [maxLen]; omega) (by omega) hb
    refine ⟨v', w', h1, ?_, grown_off h3 fun k hk => by simp [hk]⟩
    unfold OwnsS
    rw [List.map_append, List.length_append]
    exact h2

theorem OwnsS.grown {wa wb : World} {base : Nat} {v : Value} {xs : List ByteArray} (h : OwnsS wa base v xs) (hoff : Off v.ownBlock.toList wa wb) (hb : base ≤ wa.heap.size) : Below base wa wb := by
  obtain ⟨A, c, _, _, _, hl⟩ := h.form
  exact hoff.toBelow (fun k hk => (hl k (by simpa using hk)).1) hb

/-- An 'append' of a row of texts, in a walk. -/
theorem wpList_append_many {w : World} {ops : Array Oper} {rest : List Oper} {o : Oper} {a : Act} {Q : Exit → Act → World → Prop} (hgd : o.guard = none) (s x : Operand)
    (ho : o.op = .call { callee := .builtin .append, args := #[s, x], argTypes := #[73, 73] }) {base : Nat} {v : Value} {xs ys : List ByteArray} {A : Option Addr} {c : Nat}
    (hs : a.eval s = v) (hx : a.eval x = .slice A ys.length c) (hown : OwnsS w base v xs) (hy : StrsIn w A ys) (hA : A = none → c = 0) (hb : base ≤ w.heap.size) (hn : xs.length + ys.length ≤ 8000000000000)
    (h : ∀ v' w', OwnsS w' base v' (xs ++ ys) → Off v.ownBlock.toList w w' → wpList Tryd.prog ops Q rest (a.put o.dst v') w') : wpList Tryd.prog ops Q (o :: rest) a w := by
  refine wpList_plain hgd fun K hK => ?_
  obtain ⟨v', w', hr, h2, h3⟩ := append_many hown hy hA o.type hb hn
  unfold Oper.wp execOp
  simp only [ho, resolve, invoke, builtin, Sem.run_bind, Sem.run_pure, Result.andThen_ok, List.map_toArray, List.map_cons, List.map_nil, hs, hx, hr]
  exact hK _ _ (h v' w' h2 h3)
theorem wpList_append_one {w : World} {ops : Array Oper} {rest : List Oper} {o : Oper} {a : Act} {Q : Exit → Act → World → Prop} (hgd : o.guard = none) (s x : Operand)
    (ho : o.op = .call { callee := .builtin .append, args := #[s, x], argTypes := #[73, 73] }) {base : Nat} {v : Value} {xs : List ByteArray} {b : Nat} (y : ByteArray)
    (hs : a.eval s = v) (hx : a.eval x = .slice (some ⟨b, 0, none⟩) 1 1) (hown : OwnsS w base v xs) (hy : w.cell? ⟨b, 0, none⟩ = some (.string y)) (hb : base ≤ w.heap.size) (hn : xs.length ≤ 7000000000000)
    (h : ∀ v' w', OwnsS w' base v' (xs ++ [y]) → Off v.ownBlock.toList w w' → wpList Tryd.prog ops Q rest (a.put o.dst v') w') : wpList Tryd.prog ops Q (o :: rest) a w :=
  wpList_append_many hgd s x ho (ys := [y]) hs hx hown (StrsIn.one hy) (fun h => by cases h) hb (by simp; omega) h

end Go.Proofs.YthlcjlmaaaappaaDoor
