/- short.Text. -/
import Derived.Test.YtbbafdhgoekdiaaDoorItoa
import Derived.Test.YtbbafdhgoekdiaaDoorShortPlain
import Derived.WalkLawsBesides
namespace Go.Proofs.YtbbafdhgoekdiaaDoor
open Go.RowKit

abbrev errV (k : Int) : Value := .iface 57 (.int .i64 k)

theorem short_no (n : Int) (w : World) (h : ¬ (0 ≤ n ∧ n ≤ 1000000000000000)) :
    Calls Tryd.prog 16 #[.int .i64 n] w fun e w' => e = .returned (.tuple #[.string ⟨#[]⟩, errV 1]) ∧ w = w' := by
  go_enter Tryd.func16, Tryd.ntmps16
  go_wp2_with fail
  all_goals go_ret2
  all_goals exact ⟨rfl, rfl⟩

abbrev lettersObj : Obj := .cells #[.string ⟨#[75]⟩, .string ⟨#[77]⟩, .string ⟨#[66]⟩, .string ⟨#[84]⟩] 9
theorem letter_cell (w : World) (k : Nat) (hk : k < 4) : (w.alloc lettersObj).cell? ⟨w.heap.size, k, none⟩ = some (.string ⟨#[letter k]⟩) := by
  rcases (show k = 0 ∨ k = 1 ∨ k = 2 ∨ k = 3 by omega) with rfl | rfl | rfl | rfl <;> go_simp <;> rfl

theorem mk_dot (D E S : List UInt8) : (⟨(D ++ 46 :: E ++ S).toArray⟩ : ByteArray) = ⟨D.toArray⟩ ++ (⟨#[46]⟩ ++ ⟨E.toArray⟩) ++ ⟨S.toArray⟩ := by
  apply ByteArray.ext
  apply Array.ext'
  simp

set_option maxHeartbeats 1000000 in
theorem short_ok (n : Int) (w : World) (hP : Pow w) (h0 : 0 ≤ n) (h1 : n ≤ 1000000000000000) :
    Calls Tryd.prog 16 #[.int .i64 n] w fun e w' => e = .returned (.tuple #[.string ⟨(shortL n).toArray⟩, .nilIface]) ∧ Below w.heap.size w w' := by
  have HP := Lib.hid hP
  clear hP
  go_enter Tryd.func16, Tryd.ntmps16
  go_wp2_with fail
  have e0 : shortQ n 0 = n := by unfold shortQ; simp
  go_loop [0, 4, 5, 18] (fun a s x i => ∃ k : Nat, k ≤ shortK n ∧ i = .int .i64 k ∧ a = .int .i64 (shortQ n k) ∧ s = .string ⟨(signL k).toArray⟩ ∧ x = .int .i64 (shortX n k)) (fun _ _ _ i => 4 - (intOf i).toNat)
  case atStart => exact ⟨0, Nat.zero_le _, rfl, by rw [e0], rfl, rfl⟩
  case round =>
    obtain ⟨k, hk, rfl, rfl, rfl, rfl⟩ := hrel
    have hq := shortQ_bd n h0 h1 k
    have h4 := shortK_le n
    have i1 : (0 : Int) ≤ (k : Int) := by omega
    by_cases hlt : k < shortK n
    · have hge := shortQ_ge n h0 k hlt
      have hc := letter_cell w k (by omega)
      have i2 : (k : Int) < 4 := by omega
      have hs := shortQ_succ n k
      have HS := Lib.hid hs
      have HX := Lib.hid (show shortX n (k + 1) = shortQ n k % 1000 / 100 by unfold shortX; rw [if_neg (by omega)]; rfl)
      clear hs e0
      generalize hqq : shortQ n k = q at *
      clear hqq
      go_wp2_with fail
      go_round
      case rel => exact ⟨k + 1, by omega, by go_num, by rw [HS.out], by unfold signL; rw [if_neg (by omega)]; rfl, by rw [HX.out]⟩
      case measure => simp [intOf]; omega
    · obtain rfl : k = shortK n := by omega
      have hlt4 := shortQ_lt n h0
      have hxb : 0 ≤ shortX n (shortK n) ∧ shortX n (shortK n) ≤ 9 := by unfold shortX; split <;> omega
      have hsl : (signL (shortK n)).length ≤ 1 := by unfold signL; split <;> simp
      have HF0 := Lib.hid (show shortL n = Lib.itoa (shortQ n (shortK n)) ++ (if shortQ n (shortK n) < 10 ∧ 0 < shortX n (shortK n) then 46 :: Lib.itoa (shortX n (shortK n)) else []) ++ signL (shortK n) from rfl)
      generalize shortQ n (shortK n) = q at *
      generalize shortX n (shortK n) = x at *
      generalize signL (shortK n) = S at *
      have hl1 := itoa_len q (by omega) (by omega)
      clear e0
      by_cases k4 : shortK n < 4
      · have hq4 := hlt4 k4
        have hc := letter_cell w (shortK n) k4
        clear hlt4
        generalize shortK n = k at *
        have i2 : (k : Int) < 4 := by omega
        go_wp2_with fail
        refine (itoa_any q _ (by omega) (by omega) (HP.out.alloc _)).mono ?_
        rintro e w1 ⟨rfl, hb1⟩
        have HP1 := Lib.hid ((HP.out.alloc lettersObj).below hb1)
        generalize Lib.itoa q = D at *
        by_cases hcut : q < 10 ∧ 0 < x
        · obtain ⟨hc1, hc2⟩ := hcut
          have HF := Lib.hid (HF0.out.trans (by rw [if_pos ⟨hc1, hc2⟩]))
          clear HF0
          go_wp2_with fail
          refine (itoa_any x _ (by omega) (by omega) HP1.out).mono ?_
          rintro e w2 ⟨rfl, hb2⟩
          have hl2 := itoa_len x (by omega) (by omega)
          generalize Lib.itoa x = E at *
          have s1 := hb1.size
          simp at s1
          go_wp2_with fail
          go_ret2
          exact ⟨by rw [HF.out, mk_dot]; rfl, (by (repeat (first | with_reducible exact Below.refl _ _ | with_reducible refine bel_set ?_ ?_ | with_reducible refine bel_alloc ?_ ?_ | with_reducible refine Below.drew ?_ | with_reducible refine bel_drewN _ ?_ | with_reducible refine bel_call ?_ (by assumption) ?_)); all_goals (first | (simp; done) | omega | (simp; omega)))⟩
        · have HF := Lib.hid (HF0.out.trans (by rw [if_neg hcut, List.append_nil]))
          clear HF0
          by_cases hc1 : q < 10
          · have hc2 : x ≤ 0 := by omega
            go_wp2_with fail
            go_ret2
            exact ⟨by rw [HF.out, ← ByteArray.mk_append_mk]; rfl, (by (repeat (first | with_reducible exact Below.refl _ _ | with_reducible refine bel_set ?_ ?_ | with_reducible refine bel_alloc ?_ ?_ | with_reducible refine Below.drew ?_ | with_reducible refine bel_drewN _ ?_ | with_reducible refine bel_call ?_ (by assumption) ?_)); all_goals (first | (simp; done) | omega | (simp; omega)))⟩
          · go_wp2_with fail
            go_ret2
            exact ⟨by rw [HF.out, ← ByteArray.mk_append_mk]; rfl, (by (repeat (first | with_reducible exact Below.refl _ _ | with_reducible refine bel_set ?_ ?_ | with_reducible refine bel_alloc ?_ ?_ | with_reducible refine Below.drew ?_ | with_reducible refine bel_drewN _ ?_ | with_reducible refine bel_call ?_ (by assumption) ?_)); all_goals (first | (simp; done) | omega | (simp; omega)))⟩
      · clear hlt4
        obtain hk4 : shortK n = 4 := by omega
        rw [hk4]
        clear hk4
        go_wp2_with fail
        refine (itoa_any q _ (by omega) (by omega) (HP.out.alloc _)).mono ?_
        rintro e w1 ⟨rfl, hb1⟩
        have HP1 := Lib.hid ((HP.out.alloc lettersObj).below hb1)
        generalize Lib.itoa q = D at *
        by_cases hcut : q < 10 ∧ 0 < x
        · obtain ⟨hc1, hc2⟩ := hcut
          have HF := Lib.hid (HF0.out.trans (by rw [if_pos ⟨hc1, hc2⟩]))
          clear HF0
          go_wp2_with fail
          refine (itoa_any x _ (by omega) (by omega) HP1.out).mono ?_
          rintro e w2 ⟨rfl, hb2⟩
          have hl2 := itoa_len x (by omega) (by omega)
          generalize Lib.itoa x = E at *
          have s1 := hb1.size
          simp at s1
          go_wp2_with fail
          go_ret2
          exact ⟨by rw [HF.out, mk_dot]; rfl, (by (repeat (first | with_reducible exact Below.refl _ _ | with_reducible refine bel_set ?_ ?_ | with_reducible refine bel_alloc ?_ ?_ | with_reducible refine Below.drew ?_ | with_reducible refine bel_drewN _ ?_ | with_reducible refine bel_call ?_ (by assumption) ?_)); all_goals (first | (simp; done) | omega | (simp; omega)))⟩
        · have HF := Lib.hid (HF0.out.trans (by rw [if_neg hcut, List.append_nil]))
          clear HF0
          by_cases hc1 : q < 10
          · have hc2 : x ≤ 0 := by omega
            go_wp2_with fail
            go_ret2
            exact ⟨by rw [HF.out, ← ByteArray.mk_append_mk]; rfl, (by (repeat (first | with_reducible exact Below.refl _ _ | with_reducible refine bel_set ?_ ?_ | with_reducible refine bel_alloc ?_ ?_ | with_reducible refine Below.drew ?_ | with_reducible refine bel_drewN _ ?_ | with_reducible refine bel_call ?_ (by assumption) ?_)); all_goals (first | (simp; done) | omega | (simp; omega)))⟩
          · go_wp2_with fail
            go_ret2
            exact ⟨by rw [HF.out, ← ByteArray.mk_append_mk]; rfl, (by (repeat (first | with_reducible exact Below.refl _ _ | with_reducible refine bel_set ?_ ?_ | with_reducible refine bel_alloc ?_ ?_ | with_reducible refine Below.drew ?_ | with_reducible refine bel_drewN _ ?_ | with_reducible refine bel_call ?_ (by assumption) ?_)); all_goals (first | (simp; done) | omega | (simp; omega)))⟩

end Go.Proofs.YtbbafdhgoekdiaaDoor
