/- What package pseudo computes, on lists of bytes. No program stands here. -/
import Derived.Lib.Strings
import Derived.Lib.Bytealg
import Derived.Lib.UnsafeStr
namespace Go.Proofs.Ytbbafdhgoekdiaa
open Go

def vowels : List UInt8 := [97, 101, 105, 111, 117, 65, 69, 73, 79, 85]
def vowB (c : UInt8) : Bool := vowels.contains c
def dblL : List UInt8 → List UInt8
  | [] => []
  | c :: l => if vowB c then c :: c :: dblL l else c :: dblL l
def pseudoL (l : List UInt8) : List UInt8 := 91 :: (dblL l ++ [93])
def vowN (l : List UInt8) : Nat := (l.filter vowB).length

theorem dblL_append (a b : List UInt8) : dblL (a ++ b) = dblL a ++ dblL b := by
  induction a with
  | nil => rfl
  | cons c a ih => simp only [List.cons_append, dblL, ih]; split <;> rfl
theorem dblL_length (l : List UInt8) : (dblL l).length = l.length + vowN l := by
  induction l with
  | nil => rfl
  | cons c l ih =>
    simp only [dblL, vowN, List.filter_cons] at *
    cases vowB c <;> simp [ih] <;> omega
theorem pseudoL_length (l : List UInt8) : (pseudoL l).length = l.length + vowN l + 2 := by
  simp [pseudoL, dblL_length]
theorem vowN_le (l : List UInt8) : vowN l ≤ l.length := List.length_filter_le _ _
theorem vowN_snoc (l : List UInt8) (c : UInt8) : vowN (l ++ [c]) = vowN l + if vowB c then 1 else 0 := by
  unfold vowN
  rw [List.filter_append]
  cases h : vowB c <;> simp [List.filter_cons, h]
theorem dblL_snoc (l : List UInt8) (c : UInt8) : dblL (l ++ [c]) = dblL l ++ if vowB c then [c, c] else [c] := by
  rw [dblL_append]
  cases h : vowB c <;> simp [dblL, h]
theorem take_snoc (s : ByteArray) (k : Nat) (h : k < s.size) : s.data.toList.take (k + 1) = s.data.toList.take k ++ [s[k]] := by
  rw [List.take_succ_eq_append_getElem (by simpa using h)]; rfl
theorem vow_index (c : UInt8) : (0 ≤ Lib.indexByte vowels c) ↔ vowB c = true := by
  have : ∀ c : Fin 256, (0 ≤ Lib.indexByte vowels (UInt8.ofNat c.val)) ↔ vowB (UInt8.ofNat c.val) = true := by decide +kernel
  have h := this ⟨c.toNat, c.toNat_lt⟩
  simpa using h

end Go.Proofs.Ytbbafdhgoekdiaa
