/- msg.cases at every row of cases. -/
import Derived.Test.YthlcjlmaaaappaaDoorFineT
import Derived.Test.YthlcjlmaaaappaaDoorRowsS
import Derived.Test.YthlcjlmaaaappaaDoorErr
namespace Go.Proofs.YthlcjlmaaaappaaDoor
open Go.RowKit

theorem casesP_step {g : List Nd → Bool → Int} {kd : Int} {m : Bool} {seen : List ByteArray} {cs : List (ByteArray × List Nd)} {j : Nat} {x : ByteArray × List Nd} (h : cs[j]? = some x) :
    casesP g kd m seen (cs.drop j) = if keyB kd x.1 then (if Lib.containsS seen x.1 then 5 else if g x.2 (m || decide (kd = 4)) = 0 then casesP g kd m (seen ++ [x.1]) (cs.drop (j + 1)) else g x.2 (m || decide (kd = 4))) else 3 := by
  rw [drop_at h, casesP]

set_option maxHeartbeats 4000000 in
theorem cases_gen (f : Nat) (ih : ∀ (v : Value) (ms : List Nd) (m : Bool) (w : World), RuleEnv w → MKinds w → NodesIn f w v ms →
      Calls Tryd.prog 15 #[v, .bool m] w fun e w' => e = .returned (errOf (checkP f ms m)) ∧ Below w.heap.size w w')
    (kd off : Int) (t : ByteArray) (A : Option Addr) (cs : List (ByteArray × List Nd)) (c : Nat) (m : Bool) (w : World) (hk : kd = 4 ∨ kd = 5) (hE : RuleEnv w) (hK : MKinds w) (hC : CasesN (NodesIn f w) w (.slice A cs.length c) cs) :
    Calls Tryd.prog 21 #[nodeV kd t off A cs.length c, .bool m] w fun e w' => e = .returned (errOf (casesP (checkP f) kd m [] cs)) ∧ Below w.heap.size w w' := by
  obtain ⟨A', c', he, hc, hc2, hn⟩ := hC.form
  cases he
  have hb0 : Below w.heap.size w (w.alloc (.cells #[.int .i64 kd, .string t, .int .i64 off, .slice A cs.length c] 32)) := (by (repeat (first | with_reducible exact Below.refl _ _ | with_reducible refine bel_set ?_ ?_ | with_reducible refine bel_alloc ?_ ?_ | with_reducible refine Below.drew ?_ | with_reducible refine bel_drewN _ ?_ | with_reducible refine bel_call ?_ (by assumption) ?_)); all_goals (first | (simp; done) | omega | (simp; omega)))
  have hN : NodeAt (w.alloc (.cells #[.int .i64 kd, .string t, .int .i64 off, .slice A cs.length c] 32)) w.heap.size kd t off A cs.length c := ⟨by go_simp, by go_simp, by go_simp, by go_simp⟩
  have hsz : (w.alloc (.cells #[.int .i64 kd, .string t, .int .i64 off, .slice A cs.length c] 32)).heap.size = w.heap.size + 1 := by simp
  obtain ⟨W0, hW⟩ : ∃ W0, W0 = w.alloc (.cells #[.int .i64 kd, .string t, .int .i64 off, .slice A cs.length c] 32) := ⟨_, rfl⟩
  rw [← hW] at hb0 hN hsz
  have HW := Lib.hid hW
  have HN := Lib.hid hN
  have HC := Lib.hid (hC.mono hb0 fun v ms => NodesIn.below hb0 f)
  have HE := Lib.hid (hE.below hb0)
  have HK := Lib.hid (hK.below hb0)
  have HB0 := Lib.hid hb0
  have HSZ := Lib.hid hsz
  have IH := Lib.hid ih
  have HX : Hid (casesP (checkP f) kd m [] (cs.drop 0) = casesP (checkP f) kd m [] cs) := Lib.hid rfl
  generalize casesP (checkP f) kd m [] cs = R at *
  clear hW hC hN hE hK hb0 hsz ih
  unfold nodeV
  go_enter Tryd.func21, Tryd.ntmps21
  go_wp2_with fail
  rw [← HW.out]
  go_loopw [5, 12] (fun p i wr => ∃ (j : Nat) (B : Option Addr) (d : Nat) (xs : List ByteArray), j ≤ cs.length ∧ i = .int .i64 j ∧ p = .slice B xs.length d ∧ xs.length ≤ j ∧ Hid (OwnsS wr W0.heap.size (.slice B xs.length d) xs) ∧ Hid (casesP (checkP f) kd m xs (cs.drop j) = R) ∧ Hid (Below W0.heap.size W0 wr)) (fun _ i _ => cs.length - (intOf i).toNat)
  case atStart => exact ⟨0, none, 0, [], Nat.zero_le _, rfl, rfl, Nat.le_refl _, Lib.hid (OwnsS.nil _ _), HX, Lib.hid (Below.refl _ _)⟩
  case round =>
    obtain ⟨j, B, d, xs, hj, rfl, rfl, hxs, HO, HV, HB⟩ := hrel
    have sB := HB.out.size
    have sB0 := HSZ.out
    by_cases hlt : j < cs.length
    · obtain ⟨b, o, rfl, hcell⟩ := HC.out.at (by omega)
      obtain ⟨xb, hx⟩ : ∃ x, cs[j]? = some x := ⟨cs[j], List.getElem?_eq_getElem hlt⟩
      have hst := casesP_step (g := checkP f) (kd := kd) (m := m) (seen := xs) hx
      rw [HV.out] at hst
      obtain ⟨hxz, c0, vb, c1, hvb⟩ := hcell j xb hx
      obtain ⟨x, body⟩ := xb
      simp only at hst c0 c1 hxz hvb
      obtain ⟨A2, c2, rfl, b1, b2, b3⟩ := hvb.form
      have HVB := Lib.hid (fun (mm : Bool) (W : World) (hb : Below W0.heap.size W0 W) => IH.out _ _ mm W (HE.out.below hb) (HK.out.below hb) (NodesIn.below hb f hvb))
      replace c0 := carry HB.out c0
      replace c1 := carry HB.out c1
      obtain ⟨n0, n1, n2, n3⟩ := HN.out.below HB.out
      have i0 : (0 : Int) ≤ (j : Int) := by omega
      have i1 : (j : Int) < (cs.length : Int) := by omega
      have i2 : (j : Int) ≤ (c : Int) := by omega
      have KK := Lib.hid (fun W (hb : Below wr.heap.size wr W) => msg_key kd off t x (some ⟨b, o, none⟩) cs.length c W ((HE.out.below HB.out).below hb) ((HK.out.below HB.out).below hb) (by omega))
      have KN := Lib.hid (fun W (hb : Below wr.heap.size wr W) => contains_in B xs d x W (by
        obtain ⟨A', c', h1, _, h2, _⟩ := HO.out.form
        injection h1 with h1 _ _
        rw [h1]
        exact h2.below hb) (by omega))
      have hB1 : Below wr.heap.size wr (wr.alloc (.cells #[.string x, .slice A2 body.length c2] 35)) := (Below.refl _ _).alloc (Nat.le_refl _) _
      have HB1 := Lib.hid hB1
      obtain ⟨p0, p1, p2, p3⟩ := (HN.out.below HB.out).below hB1
      clear hB1 hvb
      cases hq : keyB kd x
      · rw [hq] at hst KK
        simp only [Bool.false_eq_true, if_false] at hst
        have HR := Lib.hid hst
        clear hst hcell hx hq
        go_wp2_with fail
        refine (KK.out _ HB1.out).mono ?_
        rintro e w1 ⟨rfl, hb⟩
        have s1 := HB1.out.size
        go_wp2_with fail
        go_ret
        rw [HR.out]
        exact ⟨rfl, HB0.out.trans ((HB.out.trans ((HB1.out.trans (hb.mono s1)).mono sB)).mono (by omega))⟩
      · rw [hq] at hst KK
        simp only [if_true] at hst
        have s1 := HB1.out.size
        cases hq2 : Lib.containsS xs x
        · rw [hq2] at hst KN
          simp only [Bool.false_eq_true, if_false] at hst
          have HR := Lib.hid hst
          have e1 : IntKind.i64.wrap ((j : Int) + 1) = (j : Int) + 1 := IntWalk.i64_in _ (by omega)
          clear hst hcell hx hq hq2
          go_wp2_with fail
          refine (KK.out _ HB1.out).mono ?_
          rintro e w1 ⟨rfl, hb⟩
          have hB2 : Below wr.heap.size wr w1 := HB1.out.trans (hb.mono s1)
          have b0 : w1.cell? ⟨wr.heap.size, 0, none⟩ = some (.string x) := carry hb (by go_simp)
          have b1x : w1.cell? ⟨wr.heap.size, 1, none⟩ = some (.slice A2 body.length c2) := carry hb (by go_simp)
          have s2 := hb.size
          simp at s2
          have HO2 := Lib.hid (HO.out.below hB2)
          have HB2 := Lib.hid hB2
          obtain ⟨q0, q1, q2, q3⟩ := (HN.out.below HB.out).below hB2
          clear hb hB2 n0 n1 n2 n3 p0 p1 p2 p3 c0 c1
          go_wp2_with fail
          refine (KN.out _ HB2.out).mono ?_
          rintro e w2 ⟨rfl, rfl⟩
          have hni : wr.heap.size ∉ (Value.slice B xs.length d).ownBlock.toList := fun hm => by
            obtain ⟨_, _, _, _, _, hl⟩ := HO.out.form
            have := (hl _ (by simpa using hm)).2
            omega
          have HNI := Lib.hid hni
          clear hni
          have hb1x := carry ((Below.refl w2.heap.size w2).alloc (Nat.le_refl _) (.cells #[.string x] 9)) b1x
          have HQ := Lib.hid hb1x
          clear hb1x
          have HA := Lib.hid ((HB.out.trans (HB2.out.mono sB)).alloc (by omega) (.cells #[.string x] 9))
          clear q0 q1 q2 q3 b1x
          obtain ⟨mm, hmm⟩ : ∃ mm, mm = (m || decide (kd = 4)) := ⟨_, rfl⟩
          rw [← hmm] at HR
          have HVM := Lib.hid (HVB.out mm)
          generalize checkP f body mm = E at *
          cases m
          all_goals
            rcases hk with rfl | rfl
            all_goals
              simp only [Bool.true_or, Bool.false_or, Int.reduceEq, decide_true, decide_false, Bool.or_false] at hmm
              subst hmm
              go_wp2_with (at_builtin; refine wpList_append_one rfl _ _ rfl x rfl rfl (HO2.out.alloc _) (by go_simp) (by simp; omega) (by omega) ?_; intro v' w' ho hoff; have hbl := OwnsS.grown (HO2.out.alloc (.cells #[.string x] 9)) hoff (by simp; omega); have r1 := hoff.cell HQ.out HNI.out; have hB3 := HA.out.trans hbl; have HB3 := Lib.hid hB3; obtain ⟨t0, t1, t2, t3⟩ := HN.out.below hB3; have s3 := hB3.size; obtain ⟨A', d', rfl, _⟩ := ho.form; have HO3 := Lib.hid ho; clear ho hoff hbl hB3)
              refine (HVM.out _ HB3.out).mono ?_
              rintro e w3 ⟨rfl, hb3⟩
              have HO4 := Lib.hid (HO3.out.below hb3)
              have HB4 := Lib.hid (HB3.out.trans (hb3.mono s3))
              have hl3 : (xs ++ [x]).length ≤ j + 1 := by simp; omega
              clear hb3
              by_cases hE0 : E = 0
              · have e0 : errOf E = .nilIface := if_pos hE0
                have hr := HR.out
                rw [if_pos hE0] at hr
                have HR2 := Lib.hid hr.symm
                rw [e0]
                clear hr HR e0 hE0
                go_wp2_with fail
                go_roundw
                case rel => exact ⟨j + 1, A', d', _, by omega, by go_num, by simp, hl3, HO4, HR2, HB4⟩
                case measure => simp [intOf]; omega
              · have e0 : errOf E = errT E := if_neg hE0
                have hr := HR.out
                rw [if_neg hE0] at hr
                have HR2 := Lib.hid hr
                have E0 := Lib.hid e0
                rw [e0]
                clear hr HR e0 hE0
                go_wp2_with fail
                go_ret
                rw [HR2.out, E0.out]
                exact ⟨rfl, HB0.out.trans (HB4.out.mono (by omega))⟩
        · rw [hq2] at hst KN
          simp only [if_true] at hst
          have HR := Lib.hid hst
          clear hst hcell hx hq hq2
          go_wp2_with fail
          refine (KK.out _ HB1.out).mono ?_
          rintro e w1 ⟨rfl, hb⟩
          have hB2 : Below wr.heap.size wr w1 := HB1.out.trans (hb.mono s1)
          have b0 : w1.cell? ⟨wr.heap.size, 0, none⟩ = some (.string x) := carry hb (by go_simp)
          have HB2 := Lib.hid hB2
          clear hb hB2
          go_wp2_with fail
          refine (KN.out _ HB2.out).mono ?_
          rintro e w2 ⟨rfl, rfl⟩
          go_wp2_with fail
          go_ret
          rw [HR.out]
          exact ⟨rfl, HB0.out.trans ((HB.out.trans (HB2.out.mono sB)).mono (by omega))⟩
    · obtain rfl : j = cs.length := by omega
      have hv := HV.out
      rw [List.drop_of_length_le (Nat.le_refl _)] at hv
      have KN := Lib.hid (fun W (hb : Below wr.heap.size wr W) => contains_in B xs d otherS W (by
        obtain ⟨A', c', h1, _, h2, _⟩ := HO.out.form
        injection h1 with h1 _ _
        rw [h1]
        exact h2.below hb) (by omega))
      cases hq : Lib.containsS xs otherS
      · rw [hq] at KN
        have HR : Hid (R = 2) := Lib.hid (by rw [← hv]; unfold casesP; rw [hq]; rfl)
        clear hv hq
        go_wp2_with fail
        refine (KN.out _ (Below.refl _ _)).mono ?_
        rintro e w2 ⟨rfl, rfl⟩
        go_wp2_with fail
        go_ret
        rw [HR.out]
        exact ⟨rfl, HB0.out.trans (HB.out.mono (by omega))⟩
      · rw [hq] at KN
        have HR : Hid (R = 0) := Lib.hid (by rw [← hv]; unfold casesP; rw [hq]; rfl)
        clear hv hq
        go_wp2_with fail
        refine (KN.out _ (Below.refl _ _)).mono ?_
        rintro e w2 ⟨rfl, rfl⟩
        go_wp2_with fail
        go_ret
        rw [HR.out]
        exact ⟨rfl, HB0.out.trans (HB.out.mono (by omega))⟩
end Go.Proofs.YthlcjlmaaaappaaDoor
