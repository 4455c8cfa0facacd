/- msg.check, msg.Check at one node whose cases have no nodes. -/
import Derived.Test.YthlcjlmaaaappaaGreatDoorMsgCasesF
import Derived.Deep.RegionHeld3
namespace Go.Proofs.YthlcjlmaaaappaaGreatDoor
open Go.RowKit

set_option maxHeartbeats 2000000 in
theorem check_one (g : Nat) (kd off : Int) (t : ByteArray) (A : Option Addr) (ks : List ByteArray) (c : Nat) (w : World) (hk : kd = 4 ∨ kd = 5) (hE : RuleEnv w) (hK : MKinds w) (hN : NodeAt w g kd t off A ks.length c) (hC : CasesIn w A ks) (hc : ks.length ≤ c) (hc2 : c ≤ 9223372036854775807) (hn : ks.length ≤ 7000000000000) (hz : ∀ k ∈ ks, k.size ≤ 281474976710656) (ht : nameB t.data.toList = true) (ht2 : t.size ≤ 9223372036854775807) (ho : 0 ≤ off ∧ off ≤ 9) :
    Calls Tryz.prog 26 #[.slice (some ⟨g, 0, none⟩) 1 1, .bool false] w fun e w' => e = .returned (errOf (caseErr kd [] ks)) ∧ Below w.heap.size w w' := by
  obtain ⟨o0, o1⟩ := ho
  have HN := Lib.hid hN
  have HF := Lib.hid (fun (n2 c2 : Nat) (B : Option Addr) (m : Bool) W => fine_name kd off t A B ks.length c n2 c2 m W hk ht2)
  rw [ht] at HF
  have HCC := Lib.hid (fun (W : World) (hb : Below w.heap.size w W) => cases_code kd off t A ks c false W hk (hE.below hb) (hK.below hb) (hC.below hb) hc hc2 hn hz)
  clear hN hE hK hC ht
  generalize caseErr kd [] ks = R at *
  go_enter Tryz.func26, Tryz.ntmps26
  go_wp2_with fail
  go_loopw [10] (fun i wr => ∃ k : Nat, k ≤ 1 ∧ i = .int .i64 k ∧ (1 ≤ k → R = 0) ∧ Hid (Below w.heap.size w wr)) (fun i _ => 1 - (intOf i).toNat)
  case atStart => exact ⟨0, by omega, rfl, fun h => by omega, Lib.hid (Below.refl _ _)⟩
  case round =>
    obtain ⟨k, hk1, rfl, hR, HB⟩ := hrel
    have sB := HB.out.size
    by_cases hlt : k < 1
    · obtain rfl : k = 0 := by omega
      obtain ⟨n0, n1, n2, n3⟩ := HN.out.below HB.out
      go_wp2_with fail
      have HS : Hid (Below w.heap.size w (wr.alloc (.cells #[.int .i64 kd, .string t, .int .i64 off, .slice A ks.length c] 30))) := Lib.hid (HB.out.alloc sB _)
      clear n0 n1 n2 n3
      go_region_held3 (fun w' => w'.cell? ⟨wr.heap.size, 0, none⟩ = some (.int .i64 kd) ∧ w'.cell? ⟨wr.heap.size, 1, none⟩ = some (.string t) ∧ w'.cell? ⟨wr.heap.size, 2, none⟩ = some (.int .i64 off) ∧ w'.cell? ⟨wr.heap.size, 3, none⟩ = some (.slice A ks.length c))
        (first | go_keep | (go_split_ands; refine ⟨?_, ?_, ?_, ?_⟩ <;> first | assumption | exact carry (by assumption) (by go_simp) | exact carry (by assumption) (by assumption) | exact carry (by assumption) (carry (by assumption) (by go_simp))))
        (first | (go_at_call 52; with_reducible refine (HF.out _ _ _ _ _).mono ?_; rintro e wx ⟨rfl, hbx⟩; have HBX : Hid (Below w.heap.size w wx) := Lib.hid (by first | exact bel_call HS.out hbx (by simp; omega) | exact bel_call HS.out.drew hbx (by simp; omega) | exact bel_call (bel_drewN _ HS.out) hbx (by simp; omega)); have hbz := hbx; clear hbx))
      rename_i hh
      obtain ⟨h0, h1, h2, h3⟩ := hh
      have sX := HBX.out.size
      clear hbz
      by_cases hR0 : R = 0
      · have e0 : errOf R = .nilIface := if_pos hR0
        rw [e0] at HCC
        rcases hk with rfl | rfl
        all_goals
          go_wp2_with fail
          refine (HCC.out _ HBX.out).mono ?_
          rintro e w3 ⟨rfl, hb3⟩
          go_wp2_with fail
          go_roundw
          case rel => exact ⟨1, by omega, by go_num, fun _ => hR0, Lib.hid (HBX.out.trans (hb3.mono sX))⟩
          case measure => simp [intOf]
      · have e0 : errOf R = errT R := if_neg hR0
        rw [e0] at HCC
        have E0 := Lib.hid e0
        clear e0
        rcases hk with rfl | rfl
        all_goals
          go_wp2_with fail
          refine (HCC.out _ HBX.out).mono ?_
          rintro e w3 ⟨rfl, hb3⟩
          go_wp2_with fail
          go_ret
          rw [E0.out]
          exact ⟨rfl, HBX.out.trans (hb3.mono sX)⟩
    · obtain rfl : k = 1 := by omega
      have h0 := hR (Nat.le_refl _)
      subst h0
      go_wp2_with fail
      go_ret
      exact ⟨rfl, HB.out⟩

theorem msg_check (g : Nat) (kd off : Int) (t : ByteArray) (A : Option Addr) (ks : List ByteArray) (c : Nat) (w : World) (hk : kd = 4 ∨ kd = 5) (hE : RuleEnv w) (hK : MKinds w) (hN : NodeAt w g kd t off A ks.length c) (hC : CasesIn w A ks) (hc : ks.length ≤ c) (hc2 : c ≤ 9223372036854775807) (hn : ks.length ≤ 7000000000000) (hz : ∀ k ∈ ks, k.size ≤ 281474976710656) (ht : nameB t.data.toList = true) (ht2 : t.size ≤ 9223372036854775807) (ho : 0 ≤ off ∧ off ≤ 9) :
    Calls Tryz.prog 11 #[.slice (some ⟨g, 0, none⟩) 1 1] w fun e w' => e = .returned (errOf (caseErr kd [] ks)) ∧ Below w.heap.size w w' := by
  have HS := Lib.hid (size_one g kd off t A ks c w hk hN hC hc hc2)
  have HC := Lib.hid (fun W (hb : Below w.heap.size w W) => check_one g kd off t A ks c W hk (hE.below hb) (hK.below hb) (hN.below hb) (hC.below hb) hc hc2 hn hz ht ht2 ho)
  clear hE hK hN hC ht
  go_enter Tryz.func11, Tryz.ntmps11
  go_wp2_with fail
  refine HS.out.mono ?_
  rintro e w1 ⟨rfl, hb1⟩
  go_wp2_with fail
  refine (HC.out _ hb1).mono ?_
  rintro e w2 ⟨rfl, hb2⟩
  go_wp2_with fail
  go_ret
  exact ⟨rfl, hb1.trans (hb2.mono hb1.size)⟩
end Go.Proofs.YthlcjlmaaaappaaGreatDoor
