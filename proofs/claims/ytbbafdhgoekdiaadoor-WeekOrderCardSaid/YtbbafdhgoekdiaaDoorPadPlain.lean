/- So many digits: noughts ahead of a number; how texts of so many digits stand to one another. No program stands here. -/
import Derived.Lib.ItoaNum
import Derived.Lib.Repeat
import GoSem.Op.String
namespace Go.Proofs.YtbbafdhgoekdiaaDoor
open Go

def padD : Nat → Nat → List UInt8
  | 0, _ => []
  | k + 1, n => padD k (n / 10) ++ [UInt8.ofNat (48 + n % 10)]
theorem padD_len (k n : Nat) : (padD k n).length = k := by
  induction k generalizing n with
  | zero => rfl
  | succ k ih => simp [padD, ih]
theorem padD_zero (k : Nat) : padD k 0 = Lib.repeatL [48] k := by
  induction k with
  | zero => rfl
  | succ k ih =>
    rw [padD, Nat.zero_div, ih, Lib.repeatL_add]
    rfl
theorem pad_itoa (k n : Nat) (hk : 1 ≤ k) (hn : n < 10 ^ k) : (Lib.decDigits n).length ≤ k ∧ Lib.repeatL [48] (k - (Lib.decDigits n).length) ++ Lib.decDigits n = padD k n := by
  induction k generalizing n with
  | zero => omega
  | succ k ih =>
    by_cases h : n < 10
    · have e : Lib.decDigits n = [UInt8.ofNat (48 + n)] := by rw [Lib.decDigits, dif_pos h]
      rw [e]
      refine ⟨by simp, ?_⟩
      rw [padD, Nat.div_eq_of_lt h, padD_zero, Nat.mod_eq_of_lt h]
      simp
    · have hk1 : 1 ≤ k := by
        rcases Nat.eq_zero_or_pos k with h0 | h0
        · subst h0; simp at hn; omega
        · exact h0
      have e : Lib.decDigits n = Lib.decDigits (n / 10) ++ [UInt8.ofNat (48 + n % 10)] := by rw [Lib.decDigits, dif_neg h]
      obtain ⟨h1, h2⟩ := ih (n / 10) hk1 (by rw [Nat.pow_succ] at hn; omega)
      rw [e, padD, ← h2]
      simp only [List.length_append, List.length_cons, List.length_nil]
      refine ⟨by omega, ?_⟩
      rw [show k + 1 - ((Lib.decDigits (n / 10)).length + (0 + 1)) = k - (Lib.decDigits (n / 10)).length by omega, List.append_assoc]

/-- The order of bytes, letter by letter. -/
theorem digit_lt (a b : Nat) (ha : a < 10) (hb : b < 10) : (UInt8.ofNat (48 + a) < UInt8.ofNat (48 + b)) ↔ a < b := by
  have : ∀ x y : Fin 10, (UInt8.ofNat (48 + x.val) < UInt8.ofNat (48 + y.val)) ↔ x.val < y.val := by decide
  exact this ⟨a, ha⟩ ⟨b, hb⟩
theorem digit_eq (a b : Nat) (ha : a < 10) (hb : b < 10) : (UInt8.ofNat (48 + a) = UInt8.ofNat (48 + b)) ↔ a = b := by
  have : ∀ x y : Fin 10, (UInt8.ofNat (48 + x.val) = UInt8.ofNat (48 + y.val)) ↔ x.val = y.val := by decide
  exact this ⟨a, ha⟩ ⟨b, hb⟩
theorem padD_less (k a b : Nat) (r s : List UInt8) (ha : a < 10 ^ k) (hb : b < 10 ^ k) : Op.bytesLess (padD k a ++ r) (padD k b ++ s) = true ↔ (a < b ∨ (a = b ∧ Op.bytesLess r s = true)) := by
  induction k generalizing a b r s with
  | zero => simp at ha hb; subst ha hb; simp [padD]
  | succ k ih =>
    rw [Nat.pow_succ] at ha hb
    rw [padD, padD, List.append_assoc, List.append_assoc, ih (a / 10) (b / 10) _ _ (by omega) (by omega), List.singleton_append, List.singleton_append, Op.bytesLess, Bool.or_eq_true, Bool.and_eq_true, decide_eq_true_eq, beq_iff_eq, digit_lt _ _ (by omega) (by omega), digit_eq _ _ (by omega) (by omega)]
    by_cases hr : Op.bytesLess r s = true
    · simp only [hr, and_true]; omega
    · simp only [hr, Bool.false_eq_true, and_false, or_false]; omega
theorem less_same (r s t : List UInt8) : Op.bytesLess (t ++ r) (t ++ s) = Op.bytesLess r s := by
  induction t with
  | nil => rfl
  | cons x t ih => simp [Op.bytesLess, ih]

end Go.Proofs.YtbbafdhgoekdiaaDoor
