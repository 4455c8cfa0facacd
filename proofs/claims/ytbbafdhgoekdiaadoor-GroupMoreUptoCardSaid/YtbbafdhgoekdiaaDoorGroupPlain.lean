/- Digits by threes: what group.Put tells. No program stands here. -/
import Derived.Lib.Join
import Derived.Test.YtbbafdhgoekdiaaDoorStrsPlain
namespace Go.Proofs.YtbbafdhgoekdiaaDoor
open Go

/-- Groups of three, from the right. -/
def grp (c : UInt8) (l : List UInt8) : List UInt8 :=
  if h : l.length ≤ 3 then l else grp c (l.take (l.length - 3)) ++ c :: l.drop (l.length - 3)
termination_by l.length
decreasing_by simp; omega

theorem grp_small (c : UInt8) (l : List UInt8) (h : l.length ≤ 3) : grp c l = l := by rw [grp, dif_pos h]
theorem grp_big (c : UInt8) (l : List UInt8) (h : ¬ l.length ≤ 3) : grp c l = grp c (l.take (l.length - 3)) ++ c :: l.drop (l.length - 3) := by rw [grp, dif_neg h]
theorem grp_len (c : UInt8) (k : Nat) : ∀ l : List UInt8, l.length ≤ k → 1 ≤ l.length → (grp c l).length = l.length + (l.length - 1) / 3 := by
  induction k with
  | zero => intro l h1 h2; omega
  | succ k ih =>
    intro l h1 h2
    by_cases h : l.length ≤ 3
    · rw [grp_small c l h]; omega
    · have := ih (l.take (l.length - 3)) (by rw [List.length_take]; omega) (by rw [List.length_take]; omega)
      rw [grp_big c l h, List.length_append, this, List.length_take, List.length_cons, List.length_drop]
      omega
theorem grp_suffix (c : UInt8) (k : Nat) : ∀ d by' : List UInt8, d.length ≤ k → 1 ≤ d.length → ∃ p, grp c (by' ++ d) = p ++ grp c d := by
  induction k with
  | zero => intro d by' h1 h2; omega
  | succ k ih =>
    intro d by' h1 h2
    by_cases h : d.length ≤ 3
    · rw [grp_small c d h]
      by_cases hb : (by' ++ d).length ≤ 3
      · exact ⟨by', grp_small c _ hb⟩
      · rw [grp_big c _ hb]
        refine ⟨grp c ((by' ++ d).take ((by' ++ d).length - 3)) ++ c :: by'.drop ((by' ++ d).length - 3), ?_⟩
        rw [List.append_assoc, List.cons_append]
        congr 2
        rw [List.length_append] at hb ⊢
        rw [List.drop_append_of_le_length (by omega)]
    · have hb : ¬ (by' ++ d).length ≤ 3 := by rw [List.length_append]; omega
      obtain ⟨p, hp⟩ := ih (d.take (d.length - 3)) by' (by rw [List.length_take]; omega) (by rw [List.length_take]; omega)
      have e1 : (by' ++ d).take ((by' ++ d).length - 3) = by' ++ d.take (d.length - 3) := by
        rw [List.length_append, List.take_append, show by'.length + d.length - 3 - by'.length = d.length - 3 by omega, List.take_of_length_le (by omega)]
      have e2 : (by' ++ d).drop ((by' ++ d).length - 3) = d.drop (d.length - 3) := by
        rw [List.length_append, List.drop_append, show by'.length + d.length - 3 - by'.length = d.length - 3 by omega, List.drop_of_length_le (by omega)]
        rfl
      rw [grp_big c _ hb, e1, e2, hp, grp_big c d h, List.append_assoc]
      exact ⟨p, rfl⟩

/-- The groups, the last one first. -/
def pcs (l : List UInt8) : List (List UInt8) :=
  if h : l.length ≤ 3 then [l] else l.drop (l.length - 3) :: pcs (l.take (l.length - 3))
termination_by l.length
decreasing_by simp; omega
theorem pcs_small (l : List UInt8) (h : l.length ≤ 3) : pcs l = [l] := by rw [pcs, dif_pos h]
theorem pcs_big (l : List UInt8) (h : ¬ l.length ≤ 3) : pcs l = l.drop (l.length - 3) :: pcs (l.take (l.length - 3)) := by rw [pcs, dif_neg h]
theorem pcs_ne (l : List UInt8) : pcs l ≠ [] := by
  by_cases h : l.length ≤ 3
  · rw [pcs_small l h]; simp
  · rw [pcs_big l h]; simp
theorem join_snoc (xs : List (List UInt8)) (y : List UInt8) (sep : List UInt8) (h : xs ≠ []) : Lib.join (xs ++ [y]) sep = Lib.join xs sep ++ sep ++ y := by
  have h1 := join_take_succ (xs ++ [y]) sep xs.length y (by simp)
  have h0 : xs.length ≠ 0 := fun e => h (List.length_eq_zero_iff.1 e)
  rw [if_neg h0, List.take_of_length_le (by simp), List.take_left'] at h1
  · exact h1
  · rfl
theorem pcs_join (c : UInt8) (k : Nat) : ∀ l : List UInt8, l.length ≤ k → Lib.join (pcs l).reverse [c] = grp c l := by
  induction k with
  | zero => intro l h; rw [pcs_small l (by omega), grp_small c l (by omega)]; simp [Lib.join_one]
  | succ k ih =>
    intro l h
    by_cases h3 : l.length ≤ 3
    · rw [pcs_small l h3, grp_small c l h3]; simp [Lib.join_one]
    · rw [pcs_big l h3, grp_big c l h3, List.reverse_cons, join_snoc _ _ _ (by simp [pcs_ne]), ih _ (by rw [List.length_take]; omega), List.append_assoc]
      rfl

end Go.Proofs.YtbbafdhgoekdiaaDoor
