/- A case's number, in plain terms. -/
import Derived.Test.YthlcjlmaaaappaaDoorDigitsPlain
import Derived.Test.YthlcjlmaaaappaaDoorDigitsB
import Derived.Lib.AtoiTie
import Derived.Lib.Strings
namespace Go.Proofs.YthlcjlmaaaappaaDoor

def exC (l : List UInt8) : Int := match l with
  | 61 :: r => match Lib.decFrom 0 r with
    | some m => if m ≤ 999 ∧ Lib.decDigits m = r then (m : Int) else -1
    | none => -1
  | _ => -1

theorem decFrom_app : ∀ (a b : List UInt8) (acc : Nat), Lib.decFrom acc (a ++ b) = (Lib.decFrom acc a).bind fun n => Lib.decFrom n b
  | [], _, _ => rfl
  | c :: r, b, acc => by
    simp only [List.cons_append, Lib.decFrom]
    cases Lib.digitVal c with
    | none => rfl
    | some d => exact decFrom_app r b _
theorem digit_is (d : Nat) (h : d < 10) : Lib.digitVal (UInt8.ofNat (48 + d)) = some d := by
  have : ∀ e : Fin 10, Lib.digitVal (UInt8.ofNat (48 + e.val)) = some e.val := by decide
  exact this ⟨d, h⟩
theorem decFrom_dd : ∀ (k m : Nat), m ≤ k → Lib.decFrom 0 (Lib.decDigits m) = some m := by
  intro k
  induction k with
  | zero =>
    intro m hm
    obtain rfl : m = 0 := by omega
    decide +kernel
  | succ k ih =>
    intro m hm
    by_cases h : m < 10
    · rw [Lib.decDigits, dif_pos h]
      simp only [Lib.decFrom, digit_is m h, Nat.zero_mul, Nat.zero_add]
    · rw [Lib.decDigits, dif_neg h, decFrom_app, ih (m / 10) (by omega)]
      simp only [Option.bind_some, Lib.decFrom, digit_is (m % 10) (by omega)]
      congr 1
      omega
theorem ex_of (m : Nat) (h : m ≤ 999) : exC (61 :: Lib.decDigits m) = m := by
  show ((match Lib.decFrom 0 (Lib.decDigits m) with
    | some m' => if m' ≤ 999 ∧ Lib.decDigits m' = Lib.decDigits m then (m' : Int) else -1
    | none => -1) : Int) = (m : Int)
  rw [decFrom_dd m m (Nat.le_refl _)]
  exact if_pos ⟨h, rfl⟩
theorem ex_no {r : List UInt8} (h : ∀ m, m ≤ 999 → Lib.decDigits m ≠ r) : exC (61 :: r) = -1 := by
  show ((match Lib.decFrom 0 r with
    | some m' => if m' ≤ 999 ∧ Lib.decDigits m' = r then (m' : Int) else -1
    | none => -1) : Int) = -1
  cases Lib.decFrom 0 r with
  | none => rfl
  | some m => exact if_neg fun ⟨a, b⟩ => h m a b
theorem ex_head {l : List UInt8} (h : Lib.hasPrefix l [61] = false) : exC l = -1 := by
  unfold exC
  split
  · rename_i r
    simp [Lib.hasPrefix, List.isPrefixOf] at h
  · rfl
theorem ex_cut {l : List UInt8} (h : Lib.hasPrefix l [61] = true) : l = 61 :: Lib.trimPrefix l [61] := by
  unfold Lib.trimPrefix
  rw [if_pos h]
  cases l with
  | nil => simp [Lib.hasPrefix, List.isPrefixOf] at h
  | cons c r =>
    have : c = 61 := by
      simp [Lib.hasPrefix, List.isPrefixOf] at h
      exact h.symm
    rw [this]; rfl
theorem dd_three (m : Nat) (h : m ≤ 999) : (Lib.decDigits m).length ≤ 3 := decDigits_size 3 m (by omega) (by omega)
theorem atoi_dd (m : Nat) (h : m ≤ 999) : Lib.atoiAll (Lib.decDigits m) = .ok (m : Int) := by
  rw [Lib.atoiAll_short _ (Nat.le_trans (dd_three m h) (by omega))]
  have h1 := dd_one m
  have hs := dd_signs m m (Nat.le_refl _)
  have hd := decFrom_dd m m (Nat.le_refl _)
  cases hq : Lib.decDigits m with
  | nil => rw [hq] at h1; simp at h1
  | cons c r =>
    rw [hq] at hs hd
    have hc := hs c (List.mem_cons_self ..)
    have n1 : (c == 45) = false := by
      rw [beq_eq_false_iff_ne]; rintro rfl; exact absurd hc.1 (by decide)
    have n2 : (c == 43) = false := by
      rw [beq_eq_false_iff_ne]; rintro rfl; exact absurd hc.1 (by decide)
    unfold Lib.atoi Lib.decNat
    simp only [n1, n2, List.isEmpty_cons, Bool.false_eq_true, if_false, hd, Option.map_some]
    rfl
end Go.Proofs.YthlcjlmaaaappaaDoor
