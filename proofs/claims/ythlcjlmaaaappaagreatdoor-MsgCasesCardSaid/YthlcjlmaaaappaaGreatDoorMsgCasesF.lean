/- msg.cases at a node whose cases have no nodes. -/
import Derived.Test.YthlcjlmaaaappaaGreatDoorMsgFine
import Derived.Test.YthlcjlmaaaappaaGreatDoorCaseErr
namespace Go.Proofs.YthlcjlmaaaappaaGreatDoor
open Go.RowKit

set_option maxHeartbeats 2000000 in
theorem cases_code (kd off : Int) (t : ByteArray) (A : Option Addr) (ks : List ByteArray) (c : Nat) (m : Bool) (w : World) (hk : kd = 4 ∨ kd = 5) (hE : RuleEnv w) (hK : MKinds w) (hC : CasesIn w A ks) (hc : ks.length ≤ c) (hc2 : c ≤ 9223372036854775807) (hn : ks.length ≤ 7000000000000) (hz : ∀ k ∈ ks, k.size ≤ 281474976710656) :
    Calls Tryz.prog 53 #[nodeV kd t off A ks.length c, .bool m] w fun e w' => e = .returned (errOf (caseErr kd [] ks)) ∧ Below w.heap.size w w' := by
  have hb0 : Below w.heap.size w (w.alloc (.cells #[.int .i64 kd, .string t, .int .i64 off, .slice A ks.length c] 30)) := (by (repeat (first | with_reducible exact Below.refl _ _ | with_reducible refine bel_set ?_ ?_ | with_reducible refine bel_alloc ?_ ?_ | with_reducible refine Below.drew ?_ | with_reducible refine bel_drewN _ ?_ | with_reducible refine bel_call ?_ (by assumption) ?_)); all_goals (first | (simp; done) | omega | (simp; omega)))
  have hN : NodeAt (w.alloc (.cells #[.int .i64 kd, .string t, .int .i64 off, .slice A ks.length c] 30)) w.heap.size kd t off A ks.length c := ⟨by go_simp, by go_simp, by go_simp, by go_simp⟩
  have hsz : (w.alloc (.cells #[.int .i64 kd, .string t, .int .i64 off, .slice A ks.length c] 30)).heap.size = w.heap.size + 1 := by simp
  obtain ⟨W0, hW⟩ : ∃ W0, W0 = w.alloc (.cells #[.int .i64 kd, .string t, .int .i64 off, .slice A ks.length c] 30) := ⟨_, rfl⟩
  rw [← hW] at hb0 hN hsz
  have HW := Lib.hid hW
  have HN := Lib.hid hN
  have HC := Lib.hid (hC.below hb0)
  have HE := Lib.hid (hE.below hb0)
  have HK := Lib.hid (hK.below hb0)
  have HB0 := Lib.hid hb0
  have HSZ := Lib.hid hsz
  have HZ := Lib.hid hz
  have HX : Hid (caseErr kd (ks.take 0) (ks.drop 0) = caseErr kd [] ks) := Lib.hid rfl
  generalize caseErr kd [] ks = R at *
  clear hW hC hN hE hK hb0 hsz hz
  unfold nodeV
  go_enter Tryz.func53, Tryz.ntmps53
  go_wp2_with fail
  rw [← HW.out]
  go_loopw [5, 12] (fun p i wr => ∃ (j : Nat) (B : Option Addr) (d : Nat) (xs : List ByteArray), j ≤ ks.length ∧ i = .int .i64 j ∧ p = .slice B xs.length d ∧ xs.length ≤ j ∧ Hid (xs = ks.take j) ∧ Hid (OwnsS wr W0.heap.size (.slice B xs.length d) xs) ∧ Hid (caseErr kd (ks.take j) (ks.drop j) = R) ∧ Hid (Below W0.heap.size W0 wr)) (fun _ i _ => ks.length - (intOf i).toNat)
  case atStart => exact ⟨0, none, 0, [], Nat.zero_le _, rfl, rfl, Nat.le_refl _, Lib.hid rfl, Lib.hid (OwnsS.nil _ _), HX, Lib.hid (Below.refl _ _)⟩
  case round =>
    obtain ⟨j, B, d, xs, hj, rfl, rfl, hxs, HXS, HO, HV, HB⟩ := hrel
    have sB := HB.out.size
    have sB0 := HSZ.out
    by_cases hlt : j < ks.length
    · obtain ⟨b, o, rfl, hcell⟩ := (HC.out.below HB.out).at (by omega)
      obtain ⟨x, hx⟩ : ∃ x, ks[j]? = some x := ⟨ks[j], List.getElem?_eq_getElem hlt⟩
      obtain ⟨c0, c1⟩ := hcell j x hx
      obtain ⟨n0, n1, n2, n3⟩ := HN.out.below HB.out
      have i0 : (0 : Int) ≤ (j : Int) := by omega
      have i1 : (j : Int) < (ks.length : Int) := by omega
      have i2 : (j : Int) ≤ (c : Int) := by omega
      have hxz := HZ.out x (List.mem_of_getElem? hx)
      have KK := Lib.hid (fun W (hb : Below wr.heap.size wr W) => msg_key kd off t x (some ⟨b, o, none⟩) ks.length c W ((HE.out.below HB.out).below hb) ((HK.out.below HB.out).below hb) hxz)
      have KN := Lib.hid (fun W (hb : Below wr.heap.size wr W) => contains_in B xs d x W (by
        obtain ⟨A', c', h1, _, h2, _⟩ := HO.out.form
        injection h1 with h1 _ _
        rw [h1]
        exact h2.below hb) (by omega))
      have hst := caseErr_step kd ks j x hx
      rw [HV.out, ← HXS.out] at hst
      have hB1 : Below wr.heap.size wr (wr.alloc (.cells #[.string x, .slice none 0 0] 33)) := (Below.refl _ _).alloc (Nat.le_refl _) _
      have HB1 := Lib.hid hB1
      obtain ⟨p0, p1, p2, p3⟩ := (HN.out.below HB.out).below hB1
      clear hB1
      cases hq : keyB kd x
      · rw [hq] at hst KK
        simp only [Bool.false_eq_true, if_false] at hst
        have HR := Lib.hid hst
        clear hst hcell hx hq
        go_wp2_with fail
        refine (KK.out _ HB1.out).mono ?_
        rintro e w1 ⟨rfl, hb⟩
        have s1 := HB1.out.size
        go_wp2_with fail
        go_ret
        rw [HR.out]
        exact ⟨rfl, HB0.out.trans ((HB.out.trans ((HB1.out.trans (hb.mono s1)).mono sB)).mono (by omega))⟩
      · rw [hq] at hst KK
        simp only [if_true] at hst
        have s1 := HB1.out.size
        cases hq2 : Lib.containsS xs x
        · rw [hq2] at hst KN
          simp only [Bool.false_eq_true, if_false] at hst
          have HR := Lib.hid hst.symm
          have hx1 : xs ++ [x] = ks.take (j + 1) := by rw [HXS.out, List.take_add_one, hx]; rfl
          have HX1 := Lib.hid hx1
          have e1 : IntKind.i64.wrap ((j : Int) + 1) = (j : Int) + 1 := IntWalk.i64_in _ (by omega)
          clear hst hcell hx hq hq2 hx1
          go_wp2_with fail
          refine (KK.out _ HB1.out).mono ?_
          rintro e w1 ⟨rfl, hb⟩
          have hB2 : Below wr.heap.size wr w1 := HB1.out.trans (hb.mono s1)
          have b0 : w1.cell? ⟨wr.heap.size, 0, none⟩ = some (.string x) := carry hb (by go_simp)
          have b1 : w1.cell? ⟨wr.heap.size, 1, none⟩ = some (.slice none 0 0) := carry hb (by go_simp)
          have s2 := hb.size
          simp at s2
          have HO2 := Lib.hid (HO.out.below hB2)
          have HB2 := Lib.hid hB2
          obtain ⟨q0, q1, q2, q3⟩ := (HN.out.below HB.out).below hB2
          clear hb hB2 n0 n1 n2 n3 p0 p1 p2 p3 c0 c1
          go_wp2_with fail
          refine (KN.out _ HB2.out).mono ?_
          rintro e w2 ⟨rfl, rfl⟩
          have HCN := Lib.hid (fun (mm : Bool) W => check_nil mm W)
          have hni : wr.heap.size ∉ (Value.slice B xs.length d).ownBlock.toList := fun hm => by
            obtain ⟨_, _, _, _, _, hl⟩ := HO.out.form
            have := (hl _ (by simpa using hm)).2
            omega
          have HNI := Lib.hid hni
          clear hni
          have hb1x := carry ((Below.refl w2.heap.size w2).alloc (Nat.le_refl _) (.cells #[.string x] 9)) b1
          have HQ := Lib.hid hb1x
          clear hb1x
          have HA := Lib.hid ((HB.out.trans (HB2.out.mono sB)).alloc (by omega) (.cells #[.string x] 9))
          clear q0 q1 q2 q3 b1
          have hk2 : (kd = 4 ∨ kd = 5) := hk
          cases m
          all_goals
            rcases hk with rfl | rfl
            all_goals
              go_wp2_with (at_builtin; refine wpList_append_one rfl _ _ rfl x rfl rfl (HO2.out.alloc _) (by go_simp) (by simp; omega) (by omega) ?_; intro v' w' ho hoff; have hbl := OwnsS.grown (HO2.out.alloc (.cells #[.string x] 9)) hoff (by simp; omega); have r1 := hoff.cell HQ.out HNI.out; have hB3 := HA.out.trans hbl; have HB3 := Lib.hid hB3; obtain ⟨t0, t1, t2, t3⟩ := HN.out.below hB3; have s3 := hB3.size; obtain ⟨A', d', rfl, _⟩ := ho.form; have HO3 := Lib.hid ho; clear ho hoff hbl hB3)
              refine (HCN.out _ _).mono ?_
              rintro e w3 ⟨rfl, hb3⟩
              have HO4 := Lib.hid (HO3.out.below hb3)
              have HB4 := Lib.hid (HB3.out.trans (hb3.mono s3))
              have hl3 : (xs ++ [x]).length ≤ j + 1 := by simp; omega
              clear hb3
              go_wp2_with fail
              go_roundw
              case rel => exact ⟨j + 1, A', d', _, by omega, by go_num, by simp, hl3, HX1, HO4, HR, HB4⟩
              case measure => simp [intOf]; omega
        · rw [hq2] at hst KN
          simp only [if_true] at hst
          have HR := Lib.hid hst
          clear hst hcell hx hq hq2
          go_wp2_with fail
          refine (KK.out _ HB1.out).mono ?_
          rintro e w1 ⟨rfl, hb⟩
          have hB2 : Below wr.heap.size wr w1 := HB1.out.trans (hb.mono s1)
          have b0 : w1.cell? ⟨wr.heap.size, 0, none⟩ = some (.string x) := carry hb (by go_simp)
          have HB2 := Lib.hid hB2
          clear hb hB2
          go_wp2_with fail
          refine (KN.out _ HB2.out).mono ?_
          rintro e w2 ⟨rfl, rfl⟩
          go_wp2_with fail
          go_ret
          rw [HR.out]
          exact ⟨rfl, HB0.out.trans ((HB.out.trans (HB2.out.mono sB)).mono (by omega))⟩
    · obtain rfl : j = ks.length := by omega
      have hv := HV.out
      rw [List.drop_of_length_le (Nat.le_refl _), ← HXS.out] at hv
      have KN := Lib.hid (fun W (hb : Below wr.heap.size wr W) => contains_in B xs d otherS W (by
        obtain ⟨A', c', h1, _, h2, _⟩ := HO.out.form
        injection h1 with h1 _ _
        rw [h1]
        exact h2.below hb) (by omega))
      cases hq : Lib.containsS xs otherS
      · rw [hq] at KN
        have HR : Hid (R = 2) := Lib.hid (by rw [← hv]; unfold caseErr; rw [hq]; rfl)
        clear hv hq
        go_wp2_with fail
        refine (KN.out _ (Below.refl _ _)).mono ?_
        rintro e w2 ⟨rfl, rfl⟩
        go_wp2_with fail
        go_ret
        rw [HR.out]
        exact ⟨rfl, HB0.out.trans (HB.out.mono (by omega))⟩
      · rw [hq] at KN
        have HR : Hid (R = 0) := Lib.hid (by rw [← hv]; unfold caseErr; rw [hq]; rfl)
        clear hv hq
        go_wp2_with fail
        refine (KN.out _ (Below.refl _ _)).mono ?_
        rintro e w2 ⟨rfl, rfl⟩
        go_wp2_with fail
        go_ret
        rw [HR.out]
        exact ⟨rfl, HB0.out.trans (HB.out.mono (by omega))⟩
end Go.Proofs.YthlcjlmaaaappaaGreatDoor
