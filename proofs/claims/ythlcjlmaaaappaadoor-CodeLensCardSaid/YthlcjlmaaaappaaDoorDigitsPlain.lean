/- The digits of a number: which signs they are; what Cut and CutPrefix tell of them. No program stands here. -/
import Derived.Lib.IndexMore
import Derived.Lib.IndexBytes
import Derived.Lib.ItoaNum
import Derived.Lib.ItoaMem
import Derived.Lib.Strings
namespace Go.Proofs.YthlcjlmaaaappaaDoor
open Go

theorem dd_signs : ∀ (k m : Nat), m ≤ k → ∀ x ∈ Lib.decDigits m, 48 ≤ x.toNat ∧ x.toNat ≤ 57 := by
  intro k
  induction k with
  | zero =>
    intro m h x hx
    obtain rfl : m = 0 := by omega
    rw [Lib.decDigits, dif_pos (by omega)] at hx
    simp at hx
    subst hx
    decide
  | succ k ih =>
    intro m h x hx
    rw [Lib.decDigits] at hx
    split at hx
    · simp only [List.mem_singleton] at hx
      subst hx
      simp
      omega
    · rcases List.mem_append.1 hx with h1 | h1
      · exact ih (m / 10) (by omega) x h1
      · simp only [List.mem_singleton] at h1
        subst h1
        simp
        omega
theorem dd_not (m : Nat) (c : UInt8) (h : ¬ (48 ≤ c.toNat ∧ c.toNat ≤ 57)) : c ∉ Lib.decDigits m := fun hc => h (dd_signs m m (Nat.le_refl _) c hc)
theorem dd_one (m : Nat) : 1 ≤ (Lib.decDigits m).length := by
  rw [Lib.decDigits]
  split <;> simp

theorem indexByte_none : ∀ (l : List UInt8) (c : UInt8), c ∉ l → Lib.indexByte l c = -1
  | [], _, _ => rfl
  | b :: l, c, h => by
    have h1 : (b == c) = false := by
      rw [beq_eq_false_iff_ne]
      intro e
      exact h (by simp [e])
    have h2 := indexByte_none l c (fun hc => h (List.mem_cons_of_mem _ hc))
    rw [Lib.indexByte, h1, h2]
    rfl
theorem cut_none (l : List UInt8) (c : UInt8) (h : c ∉ l) : Lib.cut l [c] = (l, [], false) := by
  unfold Lib.cut
  rw [Lib.index_one, indexByte_none l c h]
  rfl

theorem itoa_neg' (n : Int) (h : n < 0) : Lib.itoa n = 45 :: Lib.decDigits n.natAbs := by unfold Lib.itoa; rw [if_pos h]
theorem itoa_pos' (n : Int) (h : ¬ n < 0) : Lib.itoa n = Lib.decDigits n.natAbs := by unfold Lib.itoa; rw [if_neg h, show n.toNat = n.natAbs by omega]
theorem itoa_cut (n : Int) : Lib.cut (Lib.itoa n) [46] = (Lib.itoa n, [], false) := by
  apply cut_none
  by_cases h : n < 0
  · rw [itoa_neg' n h]
    intro hc
    rcases List.mem_cons.1 hc with h1 | h1
    · exact absurd h1 (by decide)
    · exact dd_not _ _ (by decide) h1
  · rw [itoa_pos' n h]
    exact dd_not _ _ (by decide)
theorem itoa_prefix (n : Int) : Lib.hasPrefix (Lib.itoa n) [45] = decide (n < 0) ∧ Lib.trimPrefix (Lib.itoa n) [45] = Lib.decDigits n.natAbs := by
  by_cases h : n < 0
  · rw [itoa_neg' n h, decide_eq_true h]
    have h1 : Lib.hasPrefix (45 :: Lib.decDigits n.natAbs) [45] = true := by simp [Lib.hasPrefix, List.isPrefixOf]
    refine ⟨h1, ?_⟩
    unfold Lib.trimPrefix
    rw [if_pos h1]
    rfl
  · rw [itoa_pos' n h, decide_eq_false h]
    have h1 : Lib.hasPrefix (Lib.decDigits n.natAbs) [45] = false := by
      cases hd : Lib.decDigits n.natAbs with
      | nil => rfl
      | cons x l =>
        have hx : (45 : UInt8) ≠ x := fun e => dd_not n.natAbs 45 (by decide) (by rw [hd, e]; simp)
        simp [Lib.hasPrefix, List.isPrefixOf, hx]
    refine ⟨h1, ?_⟩
    unfold Lib.trimPrefix
    rw [h1]
    rfl
end Go.Proofs.YthlcjlmaaaappaaDoor
