/- Lists of texts in memory, and what joining makes of them. -/
import Derived.Test.YthlcjlmaaaappaaDoorBase
import Derived.Lib.Join
namespace Go.Proofs.YthlcjlmaaaappaaDoor
open Go.RowKit

/-- The slice at A reads as these texts. -/
def StrsIn (w : World) (A : Option Addr) (xs : List ByteArray) : Prop :=
  xs = [] ∨ ∃ bk o, A = some ⟨bk, o, none⟩ ∧ ∀ (j : Nat) x, xs[j]? = some x → w.cell? ⟨bk, o + j, none⟩ = some (.string x)
theorem StrsIn.below {w w' : World} {A : Option Addr} {xs : List ByteArray} (h : StrsIn w A xs) (hb : Below w.heap.size w w') : StrsIn w' A xs := by
  rcases h with h | ⟨bk, o, hA, hc⟩
  · exact .inl h
  · exact .inr ⟨bk, o, hA, fun j x hx => carry hb (hc j x hx)⟩
theorem StrsIn.drewN {w : World} {A : Option Addr} {xs : List ByteArray} (h : StrsIn w A xs) (n : Nat) : StrsIn (w.drewN n) A xs := h

/-- what list.Join tells -/
def listJoin (xs : List (List UInt8)) (two sep last : List UInt8) : List UInt8 :=
  if xs.length < 2 then Lib.join xs []
  else if xs.length = 2 then xs.getD 0 [] ++ two ++ xs.getD 1 []
  else Lib.join (xs.take (xs.length - 1)) sep ++ last ++ xs.getD (xs.length - 1) []
def lensB (xs : List ByteArray) : Nat := (xs.map (·.size)).sum
theorem lens_map (xs : List ByteArray) : Lib.lens (xs.map (·.data.toList)) = lensB xs := by
  induction xs with
  | nil => rfl
  | cons x r ih =>
    simp only [List.map_cons, lensB, Lib.lens, List.sum_cons] at *
    rw [ih]
    simp
theorem join_len (xs : List (List UInt8)) (sep : List UInt8) : (Lib.join xs sep).length = sep.length * (xs.length - 1) + Lib.lens xs := by
  cases xs with
  | nil => rfl
  | cons x r => rw [Lib.join_length]; simp

theorem join_take_succ (xs : List (List UInt8)) (sep : List UInt8) (k : Nat) (y : List UInt8) (h : xs[k]? = some y) : Lib.join (xs.take (k + 1)) sep = if k = 0 then y else Lib.join (xs.take k) sep ++ sep ++ y := by
  cases xs with
  | nil => simp at h
  | cons x r =>
    cases k with
    | zero => simp at h; subst h; simp [Lib.join_one]
    | succ k =>
      simp only [List.getElem?_cons_succ] at h
      rw [if_neg (by omega), List.take_succ_cons, List.take_succ_cons, Lib.join_cons, Lib.join_cons, Lib.joinTail_take_succ _ _ _ _ h]
      simp [List.append_assoc]
theorem lensB_take_le (xs : List ByteArray) (k : Nat) : lensB (xs.take k) ≤ lensB xs := by
  rw [← lens_map, ← lens_map, List.map_take]
  exact Lib.lens_take_le _ _
theorem lensB_take_succ (xs : List ByteArray) (k : Nat) (y : ByteArray) (h : xs[k]? = some y) : lensB (xs.take (k + 1)) = lensB (xs.take k) + y.size := by
  rw [List.take_add_one, h]
  simp [lensB]
theorem size_le_lensB (xs : List ByteArray) (k : Nat) (y : ByteArray) (h : xs[k]? = some y) : y.size ≤ lensB xs := by
  have h1 := lensB_take_succ xs k y h
  have h2 := lensB_take_le xs (k + 1)
  omega
theorem listJoin_plain (xs : List (List UInt8)) : listJoin xs [] [] [] = Lib.join xs [] := by
  have flat : ∀ l : List (List UInt8), Lib.join l [] = l.flatten := by
    intro l
    cases l with
    | nil => rfl
    | cons x r => rw [Lib.join_cons]; simp [Lib.joinTail]
  unfold listJoin
  split
  · rfl
  · rename_i h
    split
    · rename_i h2
      match xs, h2 with
      | [a, b], _ => simp [flat]
    · rw [flat, flat, List.append_nil]
      have h3 : xs.length - 1 < xs.length := by omega
      have e : xs.getD (xs.length - 1) [] = xs[xs.length - 1] := by simp [List.getD_eq_getElem?_getD, List.getElem?_eq_getElem h3]
      rw [e]
      have := List.take_append_getElem h3
      rw [show xs.length - 1 + 1 = xs.length by omega, List.take_length] at this
      have t2 := congrArg List.flatten this
      rw [List.flatten_append] at t2
      rw [← t2]
      simp only [List.flatten_cons, List.flatten_nil, List.append_nil]
/-- as many bytes -/
def joinN (n : Nat) (sum two sep last : Nat) : Nat := sum + (if n = 2 then two else 0) + (if 2 < n then (n - 2) * sep + last else 0)
theorem listJoin_length (xs : List (List UInt8)) (two sep last : List UInt8) : (listJoin xs two sep last).length = joinN xs.length (Lib.lens xs) two.length sep.length last.length := by
  unfold listJoin joinN
  split
  · rename_i h
    rw [join_len, if_neg (by omega), if_neg (by omega)]
    simp
  · rename_i h
    split
    · rename_i h2
      match xs, h2 with
      | [a, b], _ => simp [Lib.lens]; omega
    · rename_i h2
      have h3 : xs.length - 1 < xs.length := by omega
      have hs := Lib.lens_take_succ xs (xs.length - 1) xs[xs.length - 1] (List.getElem?_eq_getElem h3)
      rw [show xs.length - 1 + 1 = xs.length by omega, List.take_length] at hs
      have e : xs.getD (xs.length - 1) [] = xs[xs.length - 1] := by simp [List.getD_eq_getElem?_getD, List.getElem?_eq_getElem h3]
      rw [e, if_pos (by omega), List.length_append, List.length_append, join_len, List.length_take, hs, Nat.min_eq_left (by omega), show xs.length - 1 - 1 = xs.length - 2 by omega, Nat.mul_comm]
      omega

end Go.Proofs.YthlcjlmaaaappaaDoor
