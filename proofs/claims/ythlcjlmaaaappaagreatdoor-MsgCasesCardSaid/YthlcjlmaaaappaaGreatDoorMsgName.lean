/- The reference's Name. -/
import Derived.Test.YthlcjlmaaaappaaGreatDoorNameCode
import Derived.Test.YthlcjlmaaaappaaGreatDoorOnly
namespace Go.Proofs.YthlcjlmaaaappaaGreatDoor
open Go.RowKit

theorem ref_name (s : ByteArray) (w : World) (hs : s.size ≤ 140737488355328) :
    Calls Tryz.prog 22 #[.string s] w fun e w' => e = .returned (.bool (nameB s.data.toList)) ∧ ∃ n, w' = w.drewN n := by
  have hlen : s.data.toList.length = s.size := by simp
  cases hO : onlyB s.data.toList namS.data.toList 1 20
  · have HD : Hid (nameB s.data.toList = false) := by
      refine Lib.hid ?_
      by_cases h : 1 ≤ s.data.toList.length
      · rw [← name_only _ h, hO]; rfl
      · have : s.data.toList = [] := List.eq_nil_of_length_eq_zero (by omega)
        rw [this]; rfl
    have HO := Lib.hid hO
    clear hlen hO
    go_enter Tryz.func22, Tryz.ntmps22
    go_wp2_with fail
    refine (ref_only s namS 1 20 _ hs (by decide)).mono ?_
    rintro e w1 ⟨rfl, n, rfl⟩
    rw [HO.out]
    go_wp2_with fail
    go_ret
    exact ⟨ret_bool HD.out.symm, _, rfl⟩
  · have h1 : 1 ≤ s.data.toList.length := by
      unfold onlyB at hO
      simp only [Bool.and_eq_true, decide_eq_true_eq] at hO
      omega
    have hn := name_only _ h1
    rw [hO, Bool.true_and] at hn
    have hx : (s.extract 0 1).data.toList = s.data.toList.take 1 := by rw [Lib.extract_data, List.drop_zero, Nat.sub_zero]
    rw [← hx] at hn
    have HD := Lib.hid hn
    have HO := Lib.hid hO
    have h1i : (1 : Int) ≤ (s.size : Int) := by omega
    have hxs : (s.extract 0 1).size ≤ 140737488355328 := by
      rw [ByteArray.size_extract]; omega
    clear hn hx hO hlen h1
    go_enter Tryz.func22, Tryz.ntmps22
    go_wp2_with fail
    refine (ref_only s namS 1 20 _ hs (by decide)).mono ?_
    rintro e w1 ⟨rfl, n, rfl⟩
    rw [HO.out]
    go_wp2_with fail
    refine (ref_only (s.extract 0 1) lowS 1 1 _ hxs (by decide)).mono ?_
    rintro e w2 ⟨rfl, m, rfl⟩
    rw [HD.out]
    go_wp2_with fail
    go_ret
    exact ⟨rfl, _, rfl⟩
end Go.Proofs.YthlcjlmaaaappaaGreatDoor
