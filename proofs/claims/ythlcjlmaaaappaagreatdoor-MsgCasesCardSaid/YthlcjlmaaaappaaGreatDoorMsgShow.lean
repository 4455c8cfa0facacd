/- msg.Check at the node of "{a}". -/
import Derived.Test.YthlcjlmaaaappaaGreatDoorMsgCheck
namespace Go.Proofs.YthlcjlmaaaappaaGreatDoor
open Go.RowKit

theorem cases_show (t : ByteArray) (w : World) :
    Calls Tryz.prog 51 #[nodeV 2 t 0 none 0 0] w fun e w' => e = .returned (.slice none 0 0) ∧ Below w.heap.size w w' := by
  unfold nodeV
  go_enter Tryz.func51, Tryz.ntmps51
  go_wp2_with fail
  go_ret
  exact ⟨rfl, (by (repeat (first | with_reducible exact Below.refl _ _ | with_reducible refine bel_set ?_ ?_ | with_reducible refine bel_alloc ?_ ?_ | with_reducible refine Below.drew ?_ | with_reducible refine bel_drewN _ ?_ | with_reducible refine bel_call ?_ (by assumption) ?_)); all_goals (first | (simp; done) | omega | (simp; omega)))⟩

theorem size_show (g c : Nat) (t : ByteArray) (w : World) (hN : NodeAt w g 2 t 0 none 0 0) (hc : 1 ≤ c) :
    Calls Tryz.prog 25 #[.slice (some ⟨g, 0, none⟩) 1 c, .int .i64 0] w fun e w' => e = .returned (.tuple #[.int .i64 1, .bool false]) ∧ Below w.heap.size w w' := by
  have HN := Lib.hid hN
  have ci : (1 : Int) ≤ (c : Int) := by omega
  clear hN
  go_enter Tryz.func25, Tryz.ntmps25
  go_wp2_with fail
  go_loopw [6, 24] (fun nv i wr => ∃ k : Nat, k ≤ 1 ∧ i = .int .i64 k ∧ nv = .int .i64 1 ∧ Hid (Below w.heap.size w wr)) (fun _ i _ => 1 - (intOf i).toNat)
  case atStart => exact ⟨0, by omega, rfl, rfl, Lib.hid (Below.refl _ _)⟩
  case round =>
    obtain ⟨k, hk1, rfl, rfl, HB⟩ := hrel
    by_cases hlt : k < 1
    · obtain rfl : k = 0 := by omega
      obtain ⟨n0, n1, n2, n3⟩ := HN.out.below HB.out
      have sB := HB.out.size
      go_wp2_with fail
      refine (cases_show t _).mono ?_
      rintro e w1 ⟨rfl, hb1⟩
      have HB1 : Hid (Below w.heap.size w w1) := Lib.hid (HB.out.trans (by
        refine Below.trans ?_ (hb1.mono ?_)
        · (repeat (first | with_reducible exact Below.refl _ _ | with_reducible refine bel_set ?_ ?_ | with_reducible refine bel_alloc ?_ ?_ | with_reducible refine Below.drew ?_ | with_reducible refine bel_drewN _ ?_ | with_reducible refine bel_call ?_ (by assumption) ?_)); all_goals (first | (simp; done) | omega | (simp; omega))
        · simp; omega))
      clear hb1
      go_wp2_with fail
      go_loopw [6, 31] (fun nv i wr => i = .int .i64 0 ∧ nv = .int .i64 1 ∧ Hid (Below w.heap.size w wr)) (fun _ _ _ => 0)
      case atStart => exact ⟨rfl, rfl, HB1⟩
      case round =>
        obtain ⟨rfl, rfl, HB2⟩ := hrel
        go_wp2_with fail
        go_roundw
        case rel => exact ⟨1, by omega, by go_num, rfl, HB2⟩
        case measure => simp [intOf]
    · obtain rfl : k = 1 := by omega
      go_wp2_with fail
      go_ret2
      exact ⟨rfl, HB.out⟩

theorem fine_show (t : ByteArray) (B : Option Addr) (n2 c2 : Nat) (m : Bool) (w : World) (ht : t.size ≤ 9223372036854775807) :
    Calls Tryz.prog 52 #[nodeV 2 t 0 none 0 0, .slice B n2 c2, .bool m] w fun e w' => e = .returned (.bool (nameB t.data.toList)) ∧ Below w.heap.size w w' := by
  unfold nodeV
  go_enter Tryz.func52, Tryz.ntmps52
  go_wp2_with fail
  refine (name_code t _ ht).mono ?_
  rintro e w1 ⟨rfl, hb1⟩
  go_wp2_with fail
  go_ret
  exact ⟨rfl, (by (repeat (first | with_reducible exact Below.refl _ _ | with_reducible refine bel_set ?_ ?_ | with_reducible refine bel_alloc ?_ ?_ | with_reducible refine Below.drew ?_ | with_reducible refine bel_drewN _ ?_ | with_reducible refine bel_call ?_ (by assumption) ?_)); all_goals (first | (simp; done) | omega | (simp; omega)))⟩

set_option maxHeartbeats 2000000 in
theorem check_show (g c : Nat) (t : ByteArray) (w : World) (hN : NodeAt w g 2 t 0 none 0 0) (hc : 1 ≤ c) (ht : nameB t.data.toList = true) (ht2 : t.size ≤ 9223372036854775807) :
    Calls Tryz.prog 26 #[.slice (some ⟨g, 0, none⟩) 1 c, .bool false] w fun e w' => e = .returned .nilIface ∧ Below w.heap.size w w' := by
  have HN := Lib.hid hN
  have HF := Lib.hid (fun (n2 c2 : Nat) (B : Option Addr) (m : Bool) W => fine_show t B n2 c2 m W ht2)
  rw [ht] at HF
  have ci : (1 : Int) ≤ (c : Int) := by omega
  have ci0 : (0 : Int) ≤ (c : Int) := by omega
  clear hN ht
  go_enter Tryz.func26, Tryz.ntmps26
  go_wp2_with fail
  go_loopw [10] (fun i wr => ∃ k : Nat, k ≤ 1 ∧ i = .int .i64 k ∧ Hid (Below w.heap.size w wr)) (fun i _ => 1 - (intOf i).toNat)
  case atStart => exact ⟨0, by omega, rfl, Lib.hid (Below.refl _ _)⟩
  case round =>
    obtain ⟨k, hk1, rfl, HB⟩ := hrel
    have sB := HB.out.size
    by_cases hlt : k < 1
    · obtain rfl : k = 0 := by omega
      obtain ⟨n0, n1, n2, n3⟩ := HN.out.below HB.out
      go_wp2_with fail
      have HS : Hid (Below w.heap.size w (wr.alloc (.cells #[.int .i64 2, .string t, .int .i64 0, .slice none 0 0] 30))) := Lib.hid (HB.out.alloc sB _)
      clear n0 n1 n2 n3
      go_region_held3 (fun w' => w'.cell? ⟨wr.heap.size, 0, none⟩ = some (.int .i64 2) ∧ w'.cell? ⟨wr.heap.size, 1, none⟩ = some (.string t) ∧ w'.cell? ⟨wr.heap.size, 2, none⟩ = some (.int .i64 0) ∧ w'.cell? ⟨wr.heap.size, 3, none⟩ = some (.slice none 0 0))
        (first | go_keep | (go_split_ands; refine ⟨?_, ?_, ?_, ?_⟩ <;> first | assumption | exact carry (by assumption) (by go_simp) | exact carry (by assumption) (by assumption) | exact carry (by assumption) (carry (by assumption) (by go_simp))))
        (first | (go_at_call 52; with_reducible refine (HF.out _ _ _ _ _).mono ?_; rintro e wx ⟨rfl, hbx⟩; have HBX : Hid (Below w.heap.size w wx) := Lib.hid (by first | exact bel_call HS.out hbx (by simp; omega) | exact bel_call HS.out.drew hbx (by simp; omega) | exact bel_call (bel_drewN _ HS.out) hbx (by simp; omega)); have hbz := hbx; clear hbx))
      rename_i hh
      obtain ⟨h0, h1, h2, h3⟩ := hh
      clear hbz
      go_wp2_with fail
      go_roundw
      case rel => exact ⟨1, by omega, by go_num, HBX⟩
      case measure => simp [intOf]
    · obtain rfl : k = 1 := by omega
      go_wp2_with fail
      go_ret
      exact ⟨rfl, HB.out⟩

theorem msg_check_show (g c : Nat) (t : ByteArray) (w : World) (hN : NodeAt w g 2 t 0 none 0 0) (hc : 1 ≤ c) (ht : nameB t.data.toList = true) (ht2 : t.size ≤ 9223372036854775807) :
    Calls Tryz.prog 11 #[.slice (some ⟨g, 0, none⟩) 1 c] w fun e w' => e = .returned .nilIface ∧ Below w.heap.size w w' := by
  have HS := Lib.hid (size_show g c t w hN hc)
  have HC := Lib.hid (fun W (hb : Below w.heap.size w W) => check_show g c t W (hN.below hb) hc ht ht2)
  clear hN ht
  go_enter Tryz.func11, Tryz.ntmps11
  go_wp2_with fail
  refine HS.out.mono ?_
  rintro e w1 ⟨rfl, hb1⟩
  go_wp2_with fail
  refine (HC.out _ hb1).mono ?_
  rintro e w2 ⟨rfl, hb2⟩
  go_wp2_with fail
  go_ret
  exact ⟨rfl, hb1.trans (hb2.mono hb1.size)⟩
end Go.Proofs.YthlcjlmaaaappaaGreatDoor
