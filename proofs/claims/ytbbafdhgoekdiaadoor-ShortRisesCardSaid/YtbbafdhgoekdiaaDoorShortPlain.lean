/- Numbers in few digits: what short.Text tells. No program stands here. -/
import Derived.Lib.ItoaNum
namespace Go.Proofs.YtbbafdhgoekdiaaDoor
open Go

/-- how many thousands are cut off -/
def shortK (n : Int) : Nat := if n < 1000 then 0 else if n < 1000000 then 1 else if n < 1000000000 then 2 else if n < 1000000000000 then 3 else 4
def shortQ (n : Int) (k : Nat) : Int := n / (1000 : Int) ^ k
/-- the digit behind the point -/
def shortX (n : Int) (k : Nat) : Int := if k = 0 then 0 else shortQ n (k - 1) % 1000 / 100
def letter (k : Nat) : UInt8 := [75, 77, 66, 84].getD k 0
def signL (k : Nat) : List UInt8 := if k = 0 then [] else [letter (k - 1)]
def shortL (n : Int) : List UInt8 :=
  Lib.itoa (shortQ n (shortK n)) ++ (if shortQ n (shortK n) < 10 ∧ 0 < shortX n (shortK n) then 46 :: Lib.itoa (shortX n (shortK n)) else []) ++ signL (shortK n)

theorem shortK_le (n : Int) : shortK n ≤ 4 := by unfold shortK; repeat (split <;> try omega)
theorem shortK_mono (n m : Int) (h : n ≤ m) : shortK n ≤ shortK m := by unfold shortK; repeat (split <;> try omega)
theorem shortQ_succ (n : Int) (k : Nat) : shortQ n (k + 1) = shortQ n k / 1000 := by
  unfold shortQ
  rw [Int.pow_succ, Int.ediv_ediv_of_nonneg (Int.pow_nonneg (by omega))]
theorem shortQ_bd (n : Int) (h0 : 0 ≤ n) (h1 : n ≤ 1000000000000000) (k : Nat) : 0 ≤ shortQ n k ∧ shortQ n k ≤ 1000000000000000 := by
  unfold shortQ
  have hp : (0 : Int) ≤ 1000 ^ k := Int.pow_nonneg (by omega)
  exact ⟨Int.ediv_nonneg h0 hp, by have := Int.ediv_le_self ((1000 : Int) ^ k) h0; omega⟩
/-- where the loop stops: below shortK the number is 1000 or more, at shortK it is less, if that is no 4 -/
theorem shortQ_ge (n : Int) (h0 : 0 ≤ n) (k : Nat) (hk : k < shortK n) : 1000 ≤ shortQ n k := by
  have h4 := shortK_le n
  unfold shortK at hk
  have e0 : shortQ n 0 = n := by unfold shortQ; simp
  have e1 := shortQ_succ n 0
  have e2 := shortQ_succ n 1
  have e3 := shortQ_succ n 2
  simp only [Nat.zero_add, Nat.reduceAdd] at e1 e2 e3
  rcases (show k = 0 ∨ k = 1 ∨ k = 2 ∨ k = 3 by repeat (split at hk <;> try omega)) with rfl | rfl | rfl | rfl <;> repeat (split at hk <;> try omega)
theorem shortQ_lt (n : Int) (h0 : 0 ≤ n) (hk : shortK n < 4) : shortQ n (shortK n) < 1000 := by
  have e0 : shortQ n 0 = n := by unfold shortQ; simp
  have e1 := shortQ_succ n 0
  have e2 := shortQ_succ n 1
  have e3 := shortQ_succ n 2
  simp only [Nat.zero_add, Nat.reduceAdd] at e1 e2 e3
  have hn : n < 1000000000000 := by
    unfold shortK at hk
    repeat (split at hk <;> try omega)
  clear hk
  unfold shortK
  repeat (split <;> try omega)
theorem decDigits_ne (u : Nat) : Lib.decDigits u ≠ [] := by
  rw [Lib.decDigits]
  split <;> simp
theorem decDigits_last (u : Nat) : ∃ l, Lib.decDigits u = l ++ [UInt8.ofNat (48 + u % 10)] := by
  rw [Lib.decDigits]
  split
  · rename_i h
    exact ⟨[], by rw [Nat.mod_eq_of_lt h]; rfl⟩
  · exact ⟨_, rfl⟩
theorem itoa_last (n : Int) (h : 0 ≤ n) : ∃ l u, Lib.itoa n = l ++ [UInt8.ofNat (48 + u % 10)] := by
  obtain ⟨l, hl⟩ := decDigits_last n.toNat
  unfold Lib.itoa
  rw [if_neg (by omega)]
  exact ⟨l, n.toNat, hl⟩

theorem decDigits_len : ∀ (k u : Nat), u < 10 ^ (k + 1) → (Lib.decDigits u).length ≤ k + 1
  | 0, u, h => by
    rw [Lib.decDigits, dif_pos (by simpa using h)]
    simp
  | k + 1, u, h => by
    rw [Lib.decDigits]
    split
    · simp
    · have := decDigits_len k (u / 10) (by rw [Nat.pow_succ] at h; omega)
      simp
      omega
theorem itoa_len (n : Int) (h0 : 0 ≤ n) (h1 : n ≤ 9223372036854775807) : (Lib.itoa n).length ≤ 19 := by
  unfold Lib.itoa
  rw [if_neg (by omega)]
  exact decDigits_len 18 n.toNat (by have : (10 : Nat) ^ 19 = 10000000000000000000 := by decide
                                     omega)

end Go.Proofs.YtbbafdhgoekdiaaDoor
