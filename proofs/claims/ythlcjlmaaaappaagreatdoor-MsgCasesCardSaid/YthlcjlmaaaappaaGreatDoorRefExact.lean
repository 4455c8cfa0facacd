/- linguisterref1.Starts with '='; linguisterref2.Exact. -/
import Derived.Test.YthlcjlmaaaappaaGreatDoorRefNum
namespace Go.Proofs.YthlcjlmaaaappaaGreatDoor
open Go.RowKit

theorem starts_eq (s : ByteArray) (w : World) (hs : s.size ≤ 9223372036854775807) :
    Calls Tryz.prog 48 #[.string s, .string ⟨#[61]⟩] w fun e w' => e = .returned (.bool (Lib.hasPrefix s.data.toList [61])) ∧ w' = w := by
  have hlen : s.data.toList.length = s.size := by simp
  by_cases h0 : s.size = 0
  · have he : s = ⟨#[]⟩ := ByteArray.ext (Array.eq_empty_of_size_eq_zero h0)
    subst he
    have HD : Hid (Lib.hasPrefix (⟨#[]⟩ : ByteArray).data.toList [61] = false) := Lib.hid rfl
    go_enter Tryz.func48, Tryz.ntmps48
    go_wp2_with fail
    go_ret
    exact ⟨ret_bool HD.out.symm, rfl⟩
  · have i1 : (1 : Int) ≤ (s.size : Int) := by omega
    have hx : (s.extract 0 1).toList = s.data.toList.take 1 := by rw [Lib.toList_data, Lib.extract_data, List.drop_zero, Nat.sub_zero]
    have h61 : (⟨#[61]⟩ : ByteArray).toList = [61] := by decide +kernel
    cases hq : Lib.hasPrefix s.data.toList [61]
    · have n1 : ¬ (s.extract 0 1).toList = (⟨#[61]⟩ : ByteArray).toList := by
        rw [hx, h61]
        intro h
        have : Lib.hasPrefix s.data.toList [61] = true := by
          unfold Lib.hasPrefix
          rw [List.isPrefixOf_iff_prefix, ← h]
          exact List.take_prefix ..
        rw [hq] at this; cases this
      have n2 : ((s.extract 0 1).toList == (⟨#[61]⟩ : ByteArray).toList) = false := by rw [beq_eq_false_iff_ne]; exact n1
      clear hx hlen hq
      go_enter Tryz.func48, Tryz.ntmps48
      go_wp2_with fail
      go_ret
      exact ⟨ret_bool (by rw [← h61]; exact n2), rfl⟩
    · have n1 : s.extract 0 1 = ⟨#[61]⟩ := by
        apply ByteArray.ext
        apply Array.ext'
        rw [← Lib.toList_data, hx]
        have hc := ex_cut hq
        rw [hc]
        rfl
      clear hx hlen hq
      go_enter Tryz.func48, Tryz.ntmps48
      go_wp2_with fail
      go_ret
      exact ⟨rfl, rfl⟩

theorem ref_exact (s : ByteArray) (w : World) (hs : s.size ≤ 9223372036854775807) :
    Calls Tryz.prog 23 #[.string s] w fun e w' => e = .returned (.int .i64 (exC s.data.toList)) ∧ Below w.heap.size w w' := by
  have hlen : s.data.toList.length = s.size := by simp
  have HS := Lib.hid (starts_eq s w hs)
  cases hq : Lib.hasPrefix s.data.toList [61]
  · rw [ex_head hq]
    rw [hq] at HS
    clear hq hlen
    go_enter Tryz.func23, Tryz.ntmps23
    go_wp2_with fail
    refine HS.out.mono ?_
    rintro e w1 ⟨rfl, rfl⟩
    go_wp2_with fail
    go_ret
    exact ⟨rfl, Below.refl _ _⟩
  · rw [hq] at HS
    have hc := ex_cut hq
    have hl := congrArg List.length hc
    rw [hlen, List.length_cons] at hl
    by_cases h4 : s.size ≤ 4
    · have i4 : (s.size : Int) ≤ 4 := by omega
      have i1 : (1 : Int) ≤ (s.size : Int) := by omega
      have hr : (s.extract 1 s.size).data.toList = Lib.trimPrefix s.data.toList [61] := by
        rw [Lib.extract_data]
        conv => lhs; rw [hc]
        rw [List.drop_succ_cons, List.drop_zero, List.take_of_length_le (by omega)]
      have hx : exC s.data.toList = numC (s.extract 1 s.size).data.toList := by
        rw [hr]
        conv => lhs; rw [hc]
        exact ex_num (by omega)
      have KN := Lib.hid (ref_number (s.extract 1 s.size) w (by rw [ByteArray.size_extract]; omega))
      rw [hx]
      clear hq hlen hc hl hr hx
      generalize numC (s.extract 1 s.size).data.toList = R at *
      go_enter Tryz.func23, Tryz.ntmps23
      go_wp2_with fail
      refine HS.out.mono ?_
      rintro e w1 ⟨rfl, rfl⟩
      go_wp2_with fail
      refine KN.out.mono ?_
      rintro e w2 ⟨rfl, hb⟩
      go_wp2_with fail
      go_ret
      exact ⟨rfl, hb⟩
    · have i4 : ¬ (s.size : Int) ≤ 4 := by omega
      have hx : exC s.data.toList = -1 := by
        rw [hc]
        exact ex_long (by omega)
      rw [hx]
      clear hq hlen hc hl hx
      go_enter Tryz.func23, Tryz.ntmps23
      go_wp2_with fail
      refine HS.out.mono ?_
      rintro e w1 ⟨rfl, rfl⟩
      go_wp2_with fail
      go_ret
      exact ⟨rfl, Below.refl _ _⟩
end Go.Proofs.YthlcjlmaaaappaaGreatDoor
