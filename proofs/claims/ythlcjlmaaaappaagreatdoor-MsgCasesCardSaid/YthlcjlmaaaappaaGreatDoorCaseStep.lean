/- One key more, as the law's function tells the fault. -/
import Derived.Test.YthlcjlmaaaappaaGreatDoorCaseErr
namespace Go.Proofs.YthlcjlmaaaappaaGreatDoor

/-- what is told behind j keys, where e is the fault so far -/
def faultAt (kd : Int) (ks : List ByteArray) (j : Nat) (e : Int) : Int := if e = 0 then caseErr kd (ks.take j) (ks.drop j) else e
theorem fault_first (kd : Int) (ks : List ByteArray) : faultAt kd ks 0 0 = caseErr kd [] ks := rfl
theorem fault_kept {kd : Int} {ks : List ByteArray} {j : Nat} {e : Int} (h : ¬ e = 0) : faultAt kd ks (j + 1) e = faultAt kd ks j e := by
  unfold faultAt; rw [if_neg h, if_neg h]
theorem fault_key {kd : Int} {ks : List ByteArray} {j : Nat} {x : ByteArray} (hx : ks[j]? = some x) (h : keyB kd x = false) : faultAt kd ks (j + 1) 3 = faultAt kd ks j 0 := by
  unfold faultAt
  rw [if_neg (by decide), if_pos rfl, caseErr_step kd ks j x hx, h]
  rfl
theorem fault_twice {kd : Int} {ks : List ByteArray} {j : Nat} {x : ByteArray} (hx : ks[j]? = some x) (h : keyB kd x = true) (h2 : Lib.containsS (ks.take j) x = true) : faultAt kd ks (j + 1) 5 = faultAt kd ks j 0 := by
  unfold faultAt
  rw [if_neg (by decide), if_pos rfl, caseErr_step kd ks j x hx, h, h2]
  rfl
theorem fault_none {kd : Int} {ks : List ByteArray} {j : Nat} {x : ByteArray} (hx : ks[j]? = some x) (h : keyB kd x = true) (h2 : Lib.containsS (ks.take j) x = false) : faultAt kd ks (j + 1) 0 = faultAt kd ks j 0 := by
  unfold faultAt
  rw [if_pos rfl, if_pos rfl, caseErr_step kd ks j x hx, h, h2]
  rfl
theorem fault_last (kd : Int) (ks : List ByteArray) (e : Int) : faultAt kd ks ks.length e = if e = 0 then (if Lib.containsS ks otherS then 0 else 2) else e := by
  unfold faultAt
  rw [List.take_of_length_le (Nat.le_refl _), List.drop_of_length_le (Nat.le_refl _), caseErr]
end Go.Proofs.YthlcjlmaaaappaaGreatDoor
