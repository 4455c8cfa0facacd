/- The plain calendar: leap years, days ahead of a month, days ahead of a year. No program stands here. -/
namespace Go.Proofs.YtbbafdhgoekdiaaDoor

def leapB (y : Int) : Bool := (y % 4 == 0 && y % 100 != 0) || y % 400 == 0
def aheadL : List Int := [0, 31, 59, 90, 120, 151, 181, 212, 243, 273, 304, 334, 365]
def aheadN (k : Nat) : Int := aheadL.getD k 0
/-- days ahead of month m of year y -/
def befV (y m : Int) : Int := aheadN (m - 1).toNat + if 2 < m ∧ leapB y = true then 1 else 0
/-- days ahead of year y -/
def yearV (y : Int) : Int := 365 * (y - 1) + (y - 1) / 4 - (y - 1) / 100 + (y - 1) / 400
def dateOk (y m d : Int) : Prop := 1 ≤ y ∧ y ≤ 9999 ∧ 1 ≤ m ∧ m ≤ 12 ∧ 1 ≤ d ∧ d ≤ befV y (m + 1) - befV y m
def numV (y m d : Int) : Int := yearV y + befV y m + d - 1

theorem aheadN_bd (k : Nat) : 0 ≤ aheadN k ∧ aheadN k ≤ 365 := by
  by_cases h : k < 13
  · have : ∀ k, k < 13 → 0 ≤ aheadN k ∧ aheadN k ≤ 365 := by decide
    exact this k h
  · unfold aheadN aheadL
    rw [List.getD_eq_getElem?_getD, List.getElem?_eq_none (by simp; omega)]
    simp
theorem befV_bd (y m : Int) : 0 ≤ befV y m ∧ befV y m ≤ 366 := by
  have := aheadN_bd (m - 1).toNat
  unfold befV
  split <;> omega
theorem yearV_bd (y : Int) (h1 : 1 ≤ y) (h2 : y ≤ 10000) : 0 ≤ yearV y ∧ yearV y ≤ 3652425 := by
  unfold yearV; omega

def dimV (y m : Int) : Int := befV y (m + 1) - befV y m
theorem dimV_bd (y m : Int) (h1 : 1 ≤ m) (h2 : m ≤ 12) : 28 ≤ dimV y m ∧ dimV y m ≤ 31 := by
  obtain ⟨k, rfl⟩ : ∃ k : Nat, m = k + 1 := ⟨(m - 1).toNat, by omega⟩
  have hk : k < 12 := by omega
  have e : ∀ k, k < 12 → 28 ≤ aheadN (k + 1) - aheadN k ∧ aheadN (k + 1) - aheadN k ≤ 31 ∧ (k = 1 → aheadN (k + 1) - aheadN k = 28) := by decide
  have := e k hk
  unfold dimV befV
  rw [show ((k : Int) + 1 + 1 - 1).toNat = k + 1 by omega, show ((k : Int) + 1 - 1).toNat = k by omega]
  cases leapB y
  · simp only [Bool.false_eq_true, and_false, if_false]; omega
  · simp only [and_true]; split <;> split <;> omega
theorem befV_one (y : Int) : befV y 1 = 0 := by
  unfold befV
  rw [if_neg (by omega)]
  decide
theorem befV_succ (y m : Int) : befV y (m + 1) = befV y m + dimV y m := by unfold dimV; omega
theorem befV_13 (y : Int) : befV y 13 = befV y 12 + 31 := by
  have h1 : aheadN (13 - 1 : Int).toNat = 365 := by decide
  have h2 : aheadN (12 - 1 : Int).toNat = 334 := by decide
  unfold befV
  rw [h1, h2]
  cases leapB y
  · simp
  · simp
theorem dim12 (y : Int) : dimV y 12 = 31 := by have := befV_13 y; unfold dimV; rw [show (12 : Int) + 1 = 13 by omega]; omega
theorem dateOk_of (y m d : Int) (h1 : 1 ≤ y) (h2 : y ≤ 9999) (h3 : 1 ≤ m) (h4 : m ≤ 12) (h5 : 1 ≤ d) (h6 : d ≤ dimV y m) : dateOk y m d := ⟨h1, h2, h3, h4, h5, h6⟩

end Go.Proofs.YtbbafdhgoekdiaaDoor
