/- linguisterref1.In. -/
import Derived.Test.YthlcjlmaaaappaaGreatDoorBase
import Derived.Test.YthlcjlmaaaappaaGreatDoorShelf
import Derived.Test.YthlcjlmaaaappaaGreatDoorStrsPlain
import Derived.Test.YthlcjlmaaaappaaGreatDoorListsOf
import Derived.WalkLawsBesides
namespace Go.Proofs.YthlcjlmaaaappaaGreatDoor
open Go.RowKit

set_option maxHeartbeats 1000000 in
theorem ref_in (A : Option Addr) (c k : Nat) (vs : List ByteArray) (x : ByteArray) (w : World) (h : StrsIn w A vs) (hk : k ≤ vs.length) (hkc : k ≤ c) (hn : vs.length ≤ 9223372036854775807) :
    Calls Tryz.prog 9 #[.slice A k c, .string x] w fun e w' => e = .returned (.bool ((listsOf (vs.take k)).contains x.data.toList)) ∧ w = w' := by
  have HX := Lib.hid h
  clear h
  generalize hR : (listsOf (vs.take k)).contains x.data.toList = R
  have HR := Lib.hid hR
  clear hR
  go_enter Tryz.func9, Tryz.ntmps9
  go_wp2_with fail
  go_loop [5] (fun i => ∃ j : Nat, j ≤ k ∧ i = .int .i64 j ∧ Hid ((listsOf (vs.take j)).contains x.data.toList = false)) (fun i => k - (intOf i).toNat)
  case atStart => exact ⟨0, Nat.zero_le _, rfl, Lib.hid rfl⟩
  case round =>
    obtain ⟨j, hj, rfl, HJ⟩ := hrel
    by_cases hlt : j < k
    · obtain ⟨bk, o, rfl, hc⟩ : ∃ bk o, A = some ⟨bk, o, none⟩ ∧ ∀ (j : Nat) y, vs[j]? = some y → w.cell? ⟨bk, o + j, none⟩ = some (.string y) := by
        rcases HX.out with h | h
        · rw [h] at hk; simp at hk; omega
        · exact h
      obtain ⟨v, hv⟩ : ∃ v, vs[j]? = some v := ⟨vs[j]'(by omega), List.getElem?_eq_getElem (by omega)⟩
      have hcv := hc j v hv
      have i0 : (0 : Int) ≤ (j : Int) := by omega
      have i1 : (j : Int) < (k : Int) := by omega
      have i2 : (j : Int) ≤ (c : Int) := by omega
      have e1 : IntKind.i64.wrap ((j : Int) + 1) = (j : Int) + 1 := IntWalk.i64_in _ (by omega)
      have hst : (listsOf (vs.take (j + 1))).contains x.data.toList = ((listsOf (vs.take j)).contains x.data.toList || x.data.toList == v.data.toList) := by
        unfold listsOf
        rw [List.take_add_one, hv, List.map_append, Bool.eq_iff_iff]
        simp [List.contains_iff_mem]
      rw [HJ.out, Bool.false_or] at hst
      by_cases he : v = x
      · subst he
        have hin : R = true := by
          rw [← HR.out]
          have hm : v ∈ vs.take k := by
            have h1 : (vs.take k)[j]? = some v := by rw [List.getElem?_take, if_pos hlt, hv]
            exact List.mem_of_getElem? h1
          rw [List.contains_iff_mem]
          exact List.mem_map_of_mem hm
        subst hin
        clear hst hc
        go_wp2_with fail
        go_ret
        exact ⟨rfl, rfl⟩
      · have hf : (x.data.toList == v.data.toList) = false := by
          rw [beq_eq_false_iff_ne]
          intro hq
          exact he (ByteArray.ext (Array.ext' hq.symm))
        rw [hf] at hst
        have HS := Lib.hid hst
        have n1 : ¬ v.toList = x.toList := fun hq => he (by
          rw [Lib.toList_data, Lib.toList_data] at hq
          exact ByteArray.ext (Array.ext' hq))
        have n2 : (v.toList == x.toList) = false := by rw [beq_eq_false_iff_ne]; exact n1
        clear hst hc hf
        go_wp2_with fail
        go_round
        case rel => exact ⟨j + 1, by omega, by go_num, HS⟩
        case measure => simp [intOf]; omega
    · obtain rfl : j = k := by omega
      have hin : R = false := by rw [← HR.out]; exact HJ.out
      subst hin
      go_wp2_with fail
      go_ret
      exact ⟨rfl, rfl⟩
end Go.Proofs.YthlcjlmaaaappaaGreatDoor
