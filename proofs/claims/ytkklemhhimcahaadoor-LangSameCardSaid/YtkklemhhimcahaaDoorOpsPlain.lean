/- What rules ask of a number, as plain data. No program stands here. -/
import Derived.Test.YtkklemhhimcahaaDoorRulePlain
import Derived.Test.YtkklemhhimcahaaDoorDecPlain
namespace Go.Proofs.YtkklemhhimcahaaDoor
open Go

/-- without the noughts at the end, of so many digits -/
def strip : Nat → Int → Nat × Int
  | 0, t => (0, t)
  | n + 1, t => if t % 10 = 0 then strip n (t / 10) else (n + 1, t)
theorem strip_zero {t : Int} : strip 0 t = (0, t) := rfl
theorem strip_go {n : Nat} {t : Int} (h : t % 10 = 0) : strip (n + 1) t = strip n (t / 10) := by rw [strip, if_pos h]
theorem strip_end {n : Nat} {t : Int} (h : ¬ t % 10 = 0) : strip (n + 1) t = (n + 1, t) := by rw [strip, if_neg h]
theorem strip_ten (n : Nat) (t : Int) : strip (n + 1) (t * 10) = strip n t := by
  rw [strip_go (by omega)]
  congr 1
  omega
theorem strip_nz (n : Nat) : ∀ t : Int, t ≠ 0 → (strip n t).2 ≠ 0 := by
  induction n with
  | zero => intro t h; exact h
  | succ n ih =>
    intro t h
    by_cases h0 : t % 10 = 0
    · rw [strip_go h0]; exact ih _ (by omega)
    · rw [strip_end h0]; exact h
theorem strip_le (n : Nat) : ∀ t : Int, 0 ≤ t → (strip n t).1 ≤ n ∧ 0 ≤ (strip n t).2 ∧ (strip n t).2 ≤ t := by
  induction n with
  | zero => intro t h; exact ⟨Nat.le_refl _, h, Int.le_refl _⟩
  | succ n ih =>
    intro t h
    by_cases h0 : t % 10 = 0
    · rw [strip_go h0]; have := ih (t / 10) (by omega); omega
    · rw [strip_end h0]; exact ⟨Nat.le_refl _, h, Int.le_refl _⟩

def absI (c : Int) : Int := if c < 0 then -c else c
def opsC (c : Int) (s : Nat) : OpsC := ⟨absI c / ten s, s, (strip s (absI c % ten s)).1, absI c % ten s, (strip s (absI c % ten s)).2⟩
end Go.Proofs.YtkklemhhimcahaaDoor
