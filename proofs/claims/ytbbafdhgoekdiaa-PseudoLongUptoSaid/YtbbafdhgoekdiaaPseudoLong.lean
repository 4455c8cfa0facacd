/- PseudoLong: the law's walk. -/
import Derived.Test.YtbbafdhgoekdiaaPseudo
import Derived.Test.YtbbafdhgoekdiaaOnly
namespace Go.Proofs.Ytbbafdhgoekdiaa
open Go.RowKit

theorem only_one (c : UInt8) : onlyB [c] [97, 101, 105, 111, 117, 65, 69, 73, 79, 85] 1 1 = vowB c := by
  simp [onlyB, vowB, vowels]

theorem pseudo_join (a b : List UInt8) : (pseudoL (a ++ b)) = (pseudoL a).take ((pseudoL a).length - 1) ++ (pseudoL b).drop 1 := by
  unfold pseudoL
  rw [dblL_append]
  simp

set_option maxHeartbeats 2000000 in
theorem pseudoLong_walk (s t : ByteArray) (w : World) (hs : s.size ≤ 1073741824) (ht : t.size ≤ 1073741824) :
    Calls Try.prog 3 #[.string s, .string t] w fun e w' => e = .returned (.bool true) ∧ Below w.heap.size w w' := by
  go_enter Try.func3, Try.ntmps3
  go_wp2_with fail
  refine (pseudo_text s _ (by omega)).mono ?_
  rintro e w1 ⟨rfl, hb1⟩
  go_wp2_with fail
  refine (pseudo_text t _ (by omega)).mono ?_
  rintro e w2 ⟨rfl, hb2⟩
  have s1 := hb1.size
  have hb02 : Below w.heap.size w w2 := (by (repeat (first | with_reducible exact Below.refl _ _ | with_reducible refine bel_set ?_ ?_ | with_reducible refine bel_alloc ?_ ?_ | with_reducible refine Below.drew ?_ | with_reducible refine bel_drewN _ ?_ | with_reducible refine bel_call ?_ (by assumption) ?_)); all_goals (first | (simp; done) | omega | (simp; omega)))
  clear hb1 hb2 s1
  go_wp2_with fail
  refine (pseudo_text (s ++ t) _ (by simp; omega)).mono ?_
  rintro e w3 ⟨rfl, hb3⟩
  have s2 := hb02.size
  have hb03 : Below w.heap.size w w3 := (by (repeat (first | with_reducible exact Below.refl _ _ | with_reducible refine bel_set ?_ ?_ | with_reducible refine bel_alloc ?_ ?_ | with_reducible refine Below.drew ?_ | with_reducible refine bel_drewN _ ?_ | with_reducible refine bel_call ?_ (by assumption) ?_)); all_goals (first | (simp; done) | omega | (simp; omega)))
  clear hb02 hb3 s2
  go_wp2_with fail
  go_loopw [8, 9] (fun n i wr => ∃ k m : Nat, k ≤ s.size ∧ i = .int .i64 k ∧ n = .int .i64 (vowN (s.data.toList.take k)) ∧ w3.drewN m = wr) (fun _ i _ => s.size - (intOf i).toNat)
  case atStart => exact ⟨0, 0, Nat.zero_le _, rfl, rfl, rfl⟩
  case round =>
    obtain ⟨k, m, hk, rfl, rfl, rfl⟩ := hrel
    have hv1 := vowN_le (s.data.toList.take k)
    have hv2 : (s.data.toList.take k).length ≤ k := List.length_take_le _ _
    by_cases hlt : k < s.size
    · have hsn := vowN_snoc (s.data.toList.take k) s[k]
      rw [← take_snoc s k hlt] at hsn
      have HS := Lib.hid hsn
      clear hsn
      go_wp2_with fail
      have ex : s.extract k (k + 1) = ⟨#[s[k]]⟩ := by
        apply ByteArray.ext
        apply Array.ext'
        rw [Lib.extract_data]
        have : s.data.toList.drop k = s[k] :: s.data.toList.drop (k + 1) := List.drop_eq_getElem_cons (by simpa using hlt)
        rw [this, show k + 1 - k = 1 by omega]
        rfl
      rw [ex]
      have HE := Lib.hid ex
      clear ex
      refine (ref_only _ _ _ _ _ (by show (1 : Nat) ≤ _; omega) (by show (10 : Nat) ≤ _; omega)).mono ?_
      rintro e w4 ⟨rfl, q, rfl⟩
      have hon : onlyB (⟨#[s[k]]⟩ : ByteArray).data.toList (⟨#[97, 101, 105, 111, 117, 65, 69, 73, 79, 85]⟩ : ByteArray).data.toList 1 1 = vowB s[k] := only_one s[k]
      rw [hon]
      clear hon
      rcases Bool.eq_false_or_eq_true (vowB s[k]) with hv | hv
      · rw [hv]
        have HV := Lib.hid hv
        clear hv
        go_wp2_with fail
        go_roundw
        case rel => exact ⟨k + 1, m + q, by omega, by go_num, by rw [HS.out, HV.out]; go_num, by simp⟩
        case measure => simp [intOf]; omega
      · rw [hv]
        have HV := Lib.hid hv
        clear hv
        go_wp2_with fail
        go_roundw
        case rel => exact ⟨k + 1, m + q, by omega, by go_num, by rw [HS.out, HV.out]; rfl, by simp⟩
        case measure => simp [intOf]; omega
    · obtain rfl : k = s.size := by omega
      have hta : s.data.toList.take s.size = s.data.toList := List.take_of_length_le (by simp)
      rw [hta] at hv1 ⊢
      have hj := pseudo_join s.data.toList t.data.toList
      have hp := pseudoL_length s.data.toList
      have hq := pseudoL_length t.data.toList
      have hsl : s.data.toList.length = s.size := by simp
      have htl : t.data.toList.length = t.size := by simp
      have hq1 := vowN_le t.data.toList
      rw [hsl] at hp hv1
      rw [htl] at hq hq1
      rw [hj]
      have HJ := Lib.hid hj
      generalize pseudoL s.data.toList = P at hp ⊢
      generalize pseudoL t.data.toList = T at hq ⊢
      generalize vowN s.data.toList = v at *
      generalize vowN t.data.toList = v2 at *
      have f1 : ((P.length : Int) != (s.size : Int) + (v : Int) + 2) = false := by rw [bne_eq_false_iff_eq]; omega
      have f2 : (2 : Int) ≤ (T.length : Int) := by omega
      have f3 : decide ((T.length : Int) < 2) = false := by simp; omega
      have f4 : (2 : Int) ≤ (P.length : Int) := by omega
      have f5 : (P.length : Int) ≤ 1099511627776 := by omega
      have f6 : (T.length : Int) ≤ 1099511627776 := by omega
      clear hp hq hq1 hsl htl hta hv2 hj hlt hk
      go_wp2_with fail
      go_quiet (fail)
      go_wp2_with fail
      go_ret
      refine ⟨ret_bool ?_, (by (repeat (first | with_reducible exact Below.refl _ _ | with_reducible refine bel_set ?_ ?_ | with_reducible refine bel_alloc ?_ ?_ | with_reducible refine Below.drew ?_ | with_reducible refine bel_drewN _ ?_ | with_reducible refine bel_call ?_ (by assumption) ?_)); all_goals (first | (simp; done) | omega | (simp; omega)))⟩
      rw [beq_iff_eq, Lib.toList_data, ByteArray.data_append, Array.toList_append, Lib.extract_data, Lib.extract_data]
      simp only [List.drop_zero, Nat.sub_zero, List.drop_one]
      rw [List.take_of_length_le (show T.tail.length ≤ T.length - 1 by simp)]

end Go.Proofs.Ytbbafdhgoekdiaa
