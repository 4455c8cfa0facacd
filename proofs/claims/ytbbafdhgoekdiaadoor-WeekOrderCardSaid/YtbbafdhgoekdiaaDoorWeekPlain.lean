/- Weeks by numbers. No program stands here. -/
import Derived.Test.YtbbafdhgoekdiaaDoorDatePlain
namespace Go.Proofs.YtbbafdhgoekdiaaDoor

/-- first Monday of a year's weeks -/
def firstV (y : Int) : Int := (yearV y + 3) - (yearV y + 3) % 7
def weeksV (y : Int) : Int := (firstV (y + 1) - firstV y) / 7
theorem firstV_bd (y : Int) (h1 : 1 ≤ y) (h2 : y ≤ 10000) : 0 ≤ firstV y ∧ firstV y ≤ 3652428 := by
  have := yearV_bd y h1 h2
  unfold firstV; omega
theorem leap_iff (y : Int) : leapB y = true ↔ (y % 4 = 0 ∧ y % 100 ≠ 0 ∨ y % 400 = 0) := by
  simp [leapB]
theorem yearV_succ (y : Int) (h1 : 1 ≤ y) : yearV (y + 1) = yearV y + 365 + if leapB y = true then 1 else 0 := by
  have h := leap_iff y
  have e4 : y / 4 - (y - 1) / 4 = if y % 4 = 0 then 1 else 0 := by split <;> omega
  have e100 : y / 100 - (y - 1) / 100 = if y % 100 = 0 then 1 else 0 := by split <;> omega
  have e400 : y / 400 - (y - 1) / 400 = if y % 400 = 0 then 1 else 0 := by split <;> omega
  have d1 : y % 400 = 0 → y % 100 = 0 := by omega
  have d2 : y % 100 = 0 → y % 4 = 0 := by omega
  unfold yearV
  rw [show y + 1 - 1 = y by omega]
  by_cases hl : leapB y = true
  · rw [if_pos hl]
    have := h.1 hl
    split at e4 <;> split at e100 <;> split at e400 <;> omega
  · rw [if_neg hl]
    have : ¬ (y % 4 = 0 ∧ y % 100 ≠ 0 ∨ y % 400 = 0) := fun h' => hl (h.2 h')
    split at e4 <;> split at e100 <;> split at e400 <;> omega
theorem weeksV_bd (y : Int) (h1 : 1 ≤ y) : weeksV y = 52 ∨ weeksV y = 53 := by
  have := yearV_succ y h1
  unfold weeksV firstV
  split at this <;> omega
/-- FIFTY-THREE weeks: just if the year begins with a Thursday, or is a leap year and begins with a Wednesday. -/
theorem weeksV_53 (y : Int) (h1 : 1 ≤ y) : weeksV y = 53 ↔ (yearV y % 7 + 1 = 4 ∨ leapB y = true ∧ yearV y % 7 + 1 = 3) := by
  have := yearV_succ y h1
  unfold weeksV firstV
  by_cases hl : leapB y = true
  · rw [if_pos hl] at this
    simp only [hl, true_and]
    omega
  · rw [if_neg hl] at this
    simp only [hl, Bool.false_eq_true, false_and, or_false]
    omega

theorem numV_bd (y m d : Int) (h : dateOk y m d) : yearV y ≤ numV y m d ∧ numV y m d < yearV (y + 1) := by
  obtain ⟨h1, h2, h3, h4, h5, h6⟩ := h
  have hb := befV_bd y m
  have hs := yearV_succ y h1
  have hc : befV y (m + 1) ≤ 365 + if leapB y = true then 1 else 0 := by
    have := aheadN_bd (m + 1 - 1).toNat
    unfold befV
    cases leapB y
    · simp only [Bool.false_eq_true, and_false, if_false]; omega
    · simp only [and_true, if_true]; split <;> omega
  unfold numV
  omega
/-- the year whose week a day is in -/
def wkY (y n : Int) : Int := if firstV (y + 1) ≤ n then y + 1 else if firstV y ≤ n then y else y - 1
def wkW (y n : Int) : Int := (n - firstV (wkY y n)) / 7 + 1
def wkD (n : Int) : Int := n % 7 + 1
theorem wkY_facts (y m d : Int) (h : dateOk y m d) : 1 ≤ wkY y (numV y m d) ∧ wkY y (numV y m d) ≤ y + 1 ∧ y - 1 ≤ wkY y (numV y m d) ∧ firstV (wkY y (numV y m d)) ≤ numV y m d ∧ ∀ z, wkY y (numV y m d) < z → z ≤ y + 1 → numV y m d < firstV z := by
  have hb := numV_bd y m d h
  have h1 := h.1
  generalize numV y m d = n at *
  have f1 : firstV 1 = 0 := by decide
  have hn : 0 ≤ n := by have := yearV_bd y h1 (by have := h.2.1; omega); omega
  unfold wkY
  split
  · rename_i h2
    exact ⟨by omega, by omega, by omega, h2, fun z h3 h4 => by omega⟩
  · rename_i h2
    split
    · rename_i h3
      refine ⟨by omega, by omega, by omega, h3, fun z h4 h5 => ?_⟩
      obtain rfl : z = y + 1 := by omega
      omega
    · rename_i h3
      by_cases e : y = 1
      · subst e; omega
      · have hs := yearV_succ (y - 1) (by omega)
        rw [show y - 1 + 1 = y by omega] at hs
        refine ⟨by omega, by omega, by omega, ?_, fun z h4 h5 => ?_⟩
        · unfold firstV; split at hs <;> omega
        · rcases (show z = y ∨ z = y + 1 by omega) with rfl | rfl <;> omega

theorem numV_first (y : Int) : numV y 1 1 = yearV y := by
  have := befV_one y
  unfold numV; omega
theorem dateOk_first (y : Int) (h1 : 1 ≤ y) (h2 : y ≤ 9999) : dateOk y 1 1 := dateOk_of _ _ _ h1 h2 (by omega) (by omega) (by omega) (by have := dimV_bd y 1 (by omega) (by omega); omega)
theorem dim2 (y : Int) : dimV y 2 = 28 + if leapB y = true then 1 else 0 := by
  have h1 : aheadN (2 + 1 - 1 : Int).toNat = 59 := by decide
  have h2 : aheadN (2 - 1 : Int).toNat = 31 := by decide
  unfold dimV befV
  rw [h1, h2]
  cases leapB y <;> simp
theorem dateOk_29 (y : Int) (h1 : 1 ≤ y) (h2 : y ≤ 9999) : dateOk y 2 29 ↔ leapB y = true := by
  have hd := dim2 y
  constructor
  · intro h
    have := h.2.2.2.2.2
    have e : dimV y 2 = befV y (2 + 1) - befV y 2 := rfl
    cases hl : leapB y
    · rw [hl] at hd
      simp at hd
      omega
    · rfl
  · intro h
    rw [if_pos h] at hd
    exact dateOk_of _ _ _ h1 h2 (by omega) (by omega) (by omega) (by omega)

end Go.Proofs.YtbbafdhgoekdiaaDoor
