/- msg.Name. -/
import Derived.Test.YthlcjlmaaaappaaDoorTrimCut
import Derived.Test.YthlcjlmaaaappaaDoorMsgPlain
namespace Go.Proofs.YthlcjlmaaaappaaDoor
open Go.RowKit

theorem name_code (s : ByteArray) (w : World) (hs : s.size ≤ 9223372036854775807) :
    Calls Tryd.prog 24 #[.string s] w fun e w' => e = .returned (.bool (nameB s.data.toList)) ∧ Below w.heap.size w w' := by
  have hlen : s.data.toList.length = s.size := by simp
  by_cases h0 : s.size = 0
  · have he : s = ⟨#[]⟩ := ByteArray.ext (Array.eq_empty_of_size_eq_zero h0)
    subst he
    have HD : Hid (nameB (⟨#[]⟩ : ByteArray).data.toList = false) := Lib.hid rfl
    go_enter Tryd.func24, Tryd.ntmps24
    go_wp2_with fail
    go_ret
    exact ⟨ret_bool HD.out.symm, (by (repeat (first | with_reducible exact Below.refl _ _ | with_reducible refine bel_set ?_ ?_ | with_reducible refine bel_alloc ?_ ?_ | with_reducible refine Below.drew ?_ | with_reducible refine bel_drewN _ ?_ | with_reducible refine bel_call ?_ (by assumption) ?_)); all_goals (first | (simp; done) | omega | (simp; omega)))⟩
  · have n1 : ¬ s.toList = [] := by
      rw [Lib.toList_data]
      intro h
      rw [h] at hlen
      simp at hlen
      omega
    have n2 : s.toList.isEmpty = false := by cases h : s.toList with | nil => exact absurd h n1 | cons x l => rfl
    by_cases h20 : s.size ≤ 20
    · have i20 : (s.size : Int) ≤ 20 := by omega
      cases hA : s.data.toList.all (namS.data.toList.contains ·)
      · have HD := Lib.hid (nameB_bad hA)
        clear hlen
        go_enter Tryd.func24, Tryd.ntmps24
        go_wp2_with fail
        refine (trim_set namS namS_ascii (by decide) (by decide) s _ (by omega) (by omega)).mono ?_
        rintro e w1 ⟨t, u, rfl, hR, hL, hb1⟩
        have hiff := trim_none _ hR hL
        have m1 : ¬ u.toList = [] := by
          rw [Lib.toList_data]
          intro h
          rw [hiff.1 h] at hA
          cases hA
        have m2 : u.toList.isEmpty = false := by cases h : u.toList with | nil => exact absurd h m1 | cons x l => rfl
        clear hR hL hiff hA
        go_wp2_with fail
        go_ret
        exact ⟨ret_bool HD.out.symm, (by (repeat (first | with_reducible exact Below.refl _ _ | with_reducible refine bel_set ?_ ?_ | with_reducible refine bel_alloc ?_ ?_ | with_reducible refine Below.drew ?_ | with_reducible refine bel_drewN _ ?_ | with_reducible refine bel_call ?_ (by assumption) ?_)); all_goals (first | (simp; done) | omega | (simp; omega)))⟩
      · have hh := nameB_head (l := s.data.toList) (by omega) (by omega) hA
        have h1 : 0 < s.size := by omega
        have hg : s.data.toList.getD 0 0 = s[0] := by
          rw [List.getD_eq_getElem?_getD, List.getElem?_eq_getElem (by omega)]
          rfl
        rw [hg] at hh
        have hc : (s[0].toNat : Int).toNat.toUInt8 = s[0] := by simp
        have HC := Lib.hid hc
        have HD := Lib.hid hh
        have hI : Hid ((lowS.data.toList.contains s[0] = true ∧ 0 ≤ Lib.indexByte lowS.data.toList s[0]) ∨ (lowS.data.toList.contains s[0] = false ∧ ¬ 0 ≤ Lib.indexByte lowS.data.toList s[0])) := by
          refine Lib.hid ?_
          cases h : lowS.data.toList.contains s[0]
          · exact .inr ⟨rfl, low_no _ h⟩
          · exact .inl ⟨rfl, low_idx _ h⟩
        clear hlen hg hh hc
        go_enter Tryd.func24, Tryd.ntmps24
        go_wp2_with fail
        refine (trim_set namS namS_ascii (by decide) (by decide) s _ (by omega) (by omega)).mono ?_
        rintro e w1 ⟨t, u, rfl, hR, hL, hb1⟩
        have hiff := trim_none _ hR hL
        have m1 : u.toList = [] := by rw [Lib.toList_data]; exact hiff.2 hA
        clear hR hL hiff hA
        go_wp2_with fail
        refine (Tryd.strings_IndexByte lowS _ _).mono ?_
        rintro e w2 ⟨rfl, rfl⟩
        rw [HC.out]
        rcases hI.out with ⟨a1, a2⟩ | ⟨a1, a2⟩
        · rw [a1] at HD
          go_wp2_with fail
          go_ret
          exact ⟨ret_bool ((decide_eq_true a2).trans HD.out.symm), (by (repeat (first | with_reducible exact Below.refl _ _ | with_reducible refine bel_set ?_ ?_ | with_reducible refine bel_alloc ?_ ?_ | with_reducible refine Below.drew ?_ | with_reducible refine bel_drewN _ ?_ | with_reducible refine bel_call ?_ (by assumption) ?_)); all_goals (first | (simp; done) | omega | (simp; omega)))⟩
        · rw [a1] at HD
          go_wp2_with fail
          go_ret
          exact ⟨ret_bool ((decide_eq_false (by omega)).trans HD.out.symm), (by (repeat (first | with_reducible exact Below.refl _ _ | with_reducible refine bel_set ?_ ?_ | with_reducible refine bel_alloc ?_ ?_ | with_reducible refine Below.drew ?_ | with_reducible refine bel_drewN _ ?_ | with_reducible refine bel_call ?_ (by assumption) ?_)); all_goals (first | (simp; done) | omega | (simp; omega)))⟩
    · have i20 : ¬ (s.size : Int) ≤ 20 := by omega
      have HD := Lib.hid (nameB_long (l := s.data.toList) (by omega))
      clear hlen
      go_enter Tryd.func24, Tryd.ntmps24
      go_wp2_with fail
      go_ret
      exact ⟨ret_bool HD.out.symm, (by (repeat (first | with_reducible exact Below.refl _ _ | with_reducible refine bel_set ?_ ?_ | with_reducible refine bel_alloc ?_ ?_ | with_reducible refine Below.drew ?_ | with_reducible refine bel_drewN _ ?_ | with_reducible refine bel_call ?_ (by assumption) ?_)); all_goals (first | (simp; done) | omega | (simp; omega)))⟩
end Go.Proofs.YthlcjlmaaaappaaDoor
