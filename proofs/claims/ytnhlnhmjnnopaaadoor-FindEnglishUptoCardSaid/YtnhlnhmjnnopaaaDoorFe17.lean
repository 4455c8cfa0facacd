/- Only: texts put together. -/
import Derived.Test.YtnhlnhmjnnopaaaDoorRows
import Derived.Test.YtnhlnhmjnnopaaaDoorFe2
import Derived.Test.YtnhlnhmjnnopaaaDoorFe1
import Derived.WalkLawsBesides
set_option linter.unusedVariables false
set_option linter.unusedSimpArgs false
/- The contract of linguisterref1.Only. -/
namespace Go.Proofs.YtnhlnhmjnnopaaaDoor
open Go.RowKit

theorem byte_beq (a b : UInt8) : ((a.toNat : Int) == (b.toNat : Int)) = (a == b) := by
  rw [Bool.eq_iff_iff]
  simp only [beq_iff_eq]
  constructor
  · intro h
    exact UInt8.toNat_inj.1 (by omega)
  · intro h
    rw [h]

set_option maxHeartbeats 1000000 in
theorem ref_only (s of : ByteArray) (a b : Int) (w : World) (hs : s.size ≤ 140737488355328) (hof : of.size ≤ 140737488355328) :
    Calls Tryd.prog 42 #[.string s, .string of, .int .i64 a, .int .i64 b] w fun e w' => e = .returned (.bool (onlyB s.data.toList of.data.toList a b)) ∧ ∃ n, w' = w.drewN n := by
  have hsl : s.data.toList.length = s.size := by simp
  have hol : of.data.toList.length = of.size := by simp
  have HSL := Lib.hid hsl
  have HOL := Lib.hid hol
  clear hsl hol
  go_enter Tryd.func42, Tryd.ntmps42
  go_wp2_with fail
  go_loopw [9] (fun i wr => ∃ k n : Nat, k ≤ s.size ∧ i = .int .i64 k ∧ Hid ((s.data.toList.take k).all (of.data.toList.contains ·) = true) ∧ w.drewN n = wr) (fun i _ => s.size - (intOf i).toNat)
  case atStart => exact ⟨0, 0, Nat.zero_le _, rfl, by exact rfl, rfl⟩
  case round =>
    obtain ⟨k, n, hk, rfl, hall, rfl⟩ := hrel
    by_cases hlt : k < s.size
    · go_wp2_with fail
      go_loopw [10, 11] (fun t i wq => ∃ (j m : Nat) (bb : Bool), j ≤ of.size ∧ i = .int .i64 j ∧ t = .bool bb ∧ Hid ((of.data.toList.take j).contains s[k] = bb) ∧ w.drewN m = wq) (fun _ i _ => of.size - (intOf i).toNat)
      case atStart => exact ⟨0, n, false, Nat.zero_le _, rfl, rfl, by exact rfl, rfl⟩
      case round =>
        obtain ⟨j, m, bb, hj, rfl, rfl, hc, rfl⟩ := hrel
        by_cases hjt : j < of.size
        · have hcs := contains_take_succ of.data.toList s[k] j (by rw [HOL.out]; exact hjt)
          rw [hc.out] at hcs
          have HCS := Lib.hid hcs
          clear hcs
          cases bb
          · have hi1 : (0 : Int) ≤ (k : Int) := by omega
            have hi2 : (k : Int) < (s.size : Int) := by omega
            have hi3 : (0 : Int) ≤ (j : Int) := by omega
            have hi4 : (j : Int) < (of.size : Int) := by omega
            go_wp2_with fail
            go_quiet (fail)
            go_wp2_with fail
            go_roundw
            case rel => exact ⟨j + 1, m + nq, (s[k] == of[j]), by omega, by go_num, by rw [byte_beq], Lib.hid (HCS.out.trans (by simp only [Bool.false_or]; rfl)), rfl⟩
            case measure => simp [intOf]; omega
          · go_wp2_with fail
            go_quiet (fail)
            go_wp2_with fail
            go_roundw
            case rel => exact ⟨j + 1, m + nq, true, by omega, by go_num, rfl, Lib.hid (HCS.out.trans (by simp only [Bool.true_or])), rfl⟩
            case measure => simp [intOf]; omega
        · have hcj : of.data.toList.take j = of.data.toList := List.take_of_length_le (by rw [HOL.out]; omega)
          rw [hcj] at hc
          clear hcj
          cases bb
          · go_wp2_with fail
            go_ret
            exact ⟨by
              have := allp_false_of s.data.toList (of.data.toList.contains ·) k (by rw [HSL.out]; exact hlt) hc.out
              exact ret_bool (by unfold onlyB; rw [this]; rfl), m, rfl⟩
          · go_wp2_with fail
            go_roundw
            case rel => exact ⟨k + 1, m, by omega, by go_num, by
              have := allp_take_succ s.data.toList (of.data.toList.contains ·) k (by rw [HSL.out]; exact hlt)
              have h2 := hall.out
              rw [h2] at this
              rw [Bool.true_and] at this
              exact this.trans hc.out, rfl⟩
            case measure => simp [intOf]; omega
    · have hcj : s.data.toList.take k = s.data.toList := List.take_of_length_le (by rw [HSL.out]; omega)
      rw [hcj] at hall
      clear hcj
      have hall' : onlyB s.data.toList of.data.toList a b = (decide (a ≤ s.size) && decide ((s.size : Int) ≤ b)) := by
        unfold onlyB
        have h2 := hall.out
        rw [h2, HSL.out]
        rfl
      have HF := Lib.hid hall'
      clear hall' hall
      go_wp2_with fail
      all_goals go_ret
      all_goals exact ⟨by rw [HF.out]; first | rfl | (exact ret_bool (by simp; omega)), n, rfl⟩

end Go.Proofs.YtnhlnhmjnnopaaaDoor
