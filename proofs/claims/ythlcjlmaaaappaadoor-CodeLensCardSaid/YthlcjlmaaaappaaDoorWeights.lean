/- What the reach says of data. -/
import Derived.Test.YthlcjlmaaaappaaDoorOpenList
namespace Go.Proofs.YthlcjlmaaaappaaDoor
open Go.RowKit Go.ChangeShapes Go.WideShapes Go.Joins Go.Deep

theorem all_part {l m : List Nat} {q : Nat → Bool} (h : (l ++ m).all q = true) : l.all q = true ∧ m.all q = true := by
  rw [List.all_append, Bool.and_eq_true] at h
  exact h
theorem weightsAll_mem {H : Type} {P : Program} {e : TypeId} {ds : List (DataW H)} {q : Nat → Bool} (h : (DataW.weightsAll P e ds).all q = true) : ∀ d ∈ ds, (d.weights P e).all q = true := by
  induction ds with
  | nil => intro d hd; cases hd
  | cons x r ih =>
    have h2 := all_part (l := x.weights P e) (m := DataW.weightsAll P e r) h
    intro d hd
    rcases List.mem_cons.1 hd with rfl | hd
    · exact h2.1
    · exact ih h2.2 d hd

theorem one_weight {n : Nat} (h : ([n].all fun x => decide (x ≤ reachBytes)) = true) : n ≤ 140737488355328 := by
  simp only [List.all_cons, List.all_nil, Bool.and_true, decide_eq_true_eq] at h
  exact Nat.le_trans h (by decide)

end Go.Proofs.YthlcjlmaaaappaaDoor
