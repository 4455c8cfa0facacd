/- rule.holds of a fine rel. -/
import Derived.Test.YtkklemhhimcahaaGreatDoorRuleCheck
import Derived.Test.YtkklemhhimcahaaGreatDoorRowsS
import Derived.Maps.Own
import Derived.Maps.OwnOps
namespace Go.Proofs.YtkklemhhimcahaaGreatDoor
open Go.RowKit Go.Maps

abbrev opsV (i v w f t : Int) : Value := .agg #[.int .i64 i, .int .i64 v, .int .i64 w, .int .i64 f, .int .i64 t]
def OpsC.fits (o : OpsC) : Prop := (-9223372036854775808 ≤ o.i ∧ o.i ≤ 9223372036854775807) ∧ (-9223372036854775808 ≤ o.v ∧ o.v ≤ 9223372036854775807) ∧ (-9223372036854775808 ≤ o.w ∧ o.w ≤ 9223372036854775807) ∧ (-9223372036854775808 ≤ o.f ∧ o.f ≤ 9223372036854775807) ∧ (-9223372036854775808 ≤ o.t ∧ o.t ≤ 9223372036854775807)

/-- An entry of a map's literal. -/
theorem wpList_insert_own {H : Type} {P : Program} (w : World) {ops : Array Oper} {rest : List Oper} {o : Oper} {a : Act} {Q : Exit → Act → World → Prop}
    (hg : o.guard = none) (m x v : Operand) (t : TypeId) (hop : o.op = Op.insert t m x v)
    (k e : TypeId) (K : Keyed P k) (ht : P.underlying t = some (.map k e)) (R : Value → Option (DataW H × List MemPlace)) (b n : Nat) (D : DataW H)
    (hm : a.eval m = .map (some b)) (hown : w.ownsMap P k R b n D) (hn : n < maxLen) (key val : Value) (kl : Lit) (hx : a.eval x = key) (hv : a.eval v = val) (hkey : keyOf P k key = some kl)
    (d : DataW H) (ps : List MemPlace) (hval : R val = some (d, ps))
    (hK : ∀ w', w'.ownsMap P k R b (n + 1) (D.put kl d) → w.grownBy w' (some b) → wpList P ops Q rest (a.put o.dst undef) w') :
    wpList P ops Q (o :: rest) a w := by
  refine wpList_plain hg fun K' hK' => ?_
  obtain ⟨w', hrun, r1, r2⟩ := hown.update K ht hn hkey hval
  unfold Oper.wp
  simp [execOp, hop, hm, hx, hv, hrun, Result.andThen]
  exact hK' _ _ (hK w' r1 r2)

set_option maxHeartbeats 1000000 in
theorem in_rng (x : Int) (b : Nat) (p : Int × Int) (w : World) (hx : w.cell? ⟨b, 0, none⟩ = some (.int .i64 x)) :
    Calls Tryz.prog 57 #[.agg #[.int .i64 p.1, .int .i64 p.2], .pointer (some ⟨b, 0, none⟩)] w fun e w' => e = .returned (.bool (inRng x p)) ∧ Below w.heap.size w w' := by
  have hlt := lt_of_cell hx
  obtain ⟨a, c⟩ := p
  unfold inRng
  simp only
  by_cases h1 : a ≤ x
  · rw [decide_eq_true h1]
    by_cases h2 : x ≤ c
    · rw [decide_eq_true h2]
      go_enter Tryz.func57, Tryz.ntmps57
      go_wp2_with fail
      go_ret
      exact ⟨rfl, (by (repeat (first | with_reducible exact Below.refl _ _ | with_reducible refine bel_set ?_ ?_ | with_reducible refine bel_alloc ?_ ?_ | with_reducible refine Below.drew ?_ | with_reducible refine bel_drewN _ ?_ | with_reducible refine bel_call ?_ (by assumption) ?_)); all_goals (first | (simp; done) | omega | (simp; omega)))⟩
    · rw [decide_eq_false h2]
      go_enter Tryz.func57, Tryz.ntmps57
      go_wp2_with fail
      go_ret
      exact ⟨rfl, (by (repeat (first | with_reducible exact Below.refl _ _ | with_reducible refine bel_set ?_ ?_ | with_reducible refine bel_alloc ?_ ?_ | with_reducible refine Below.drew ?_ | with_reducible refine bel_drewN _ ?_ | with_reducible refine bel_call ?_ (by assumption) ?_)); all_goals (first | (simp; done) | omega | (simp; omega)))⟩
  · rw [decide_eq_false h1]
    go_enter Tryz.func57, Tryz.ntmps57
    go_wp2_with fail
    go_ret
    exact ⟨rfl, (by (repeat (first | with_reducible exact Below.refl _ _ | with_reducible refine bel_set ?_ ?_ | with_reducible refine bel_alloc ?_ ?_ | with_reducible refine Below.drew ?_ | with_reducible refine bel_drewN _ ?_ | with_reducible refine bel_call ?_ (by assumption) ?_)); all_goals (first | (simp; done) | omega | (simp; omega)))⟩

theorem wf_u8 : ∀ c : UInt8, (Lit.int .u8 (c.toNat : Int)).wf = true := all_u8 (by decide +kernel)
abbrev MD := DataW Unit
def opsD (o : OpsC) : MD := (((((((.map [] : MD).put (.int .u8 110) (.lit (.int .i64 o.i))).put (.int .u8 105) (.lit (.int .i64 o.i))).put (.int .u8 118) (.lit (.int .i64 o.v))).put (.int .u8 119) (.lit (.int .i64 o.w))).put (.int .u8 102) (.lit (.int .i64 o.f))).put (.int .u8 116) (.lit (.int .i64 o.t)))
theorem opsD_at (o : OpsC) (c : UInt8) (h : opsL.contains c = true) : (opsD o).atKey (.int .u8 c.toNat) (.lit (.int .i64 0)) = .lit (.int .i64 (o.at c)) := by
  simp [opsL] at h
  rcases h with rfl | rfl | rfl | rfl | rfl | rfl <;> rfl

set_option maxHeartbeats 4000000 in
set_option maxRecDepth 100000 in
theorem rule_holds (r : RelD) (o : OpsC) (w : World) (h : r.fits w) (hf : r.c.fine = true) (ho : o.fits) :
    Calls Tryz.prog 28 #[relV r.c.op r.c.md r.c.neg r.A r.c.rs.length r.n, opsV o.i o.v o.w o.f o.t] w fun e w' => e = .returned (.bool (r.c.holds o)) ∧ Below w.heap.size w w' := by
  obtain ⟨⟨op, md, neg, rs⟩, A, n⟩ := r
  obtain ⟨h1, h2, h3, h4, _⟩ := h
  have hmd := fine_md hf
  have hop : opsL.contains op = true := by
    have := fine_head hf
    unfold RelC.headB at this
    simp only [Bool.and_eq_true] at this
    exact this.1.1.1
  have hat := opsD_at o op hop
  unfold opsD at hat
  have hwf := wf_u8 op
  generalize hRR : RelC.holds (RelC.mk op md neg rs) o = RR
  have HRR := Lib.hid hRR
  clear hRR
  obtain ⟨oi, ov, ow, of', ot⟩ := o
  obtain ⟨o1, o2, o3, o4, o5⟩ := ho
  simp only at h1 h2 h3 hmd o1 o2 o3 o4 o5 ⊢
  have hb : op.toNat < 256 := op.toNat_lt
  obtain ⟨w0, hw0⟩ : ∃ w0, w0 = ((w.alloc (.cells #[.int .u8 op.toNat, .int .i64 md, .bool neg, .slice A rs.length n] 24)).alloc (.cells #[.int .i64 oi, .int .i64 ov, .int .i64 ow, .int .i64 of', .int .i64 ot] 34)).alloc (.map #[] 0) := ⟨_, rfl⟩
  have hown0 : w0.ownsMap Tryz.prog 5 (plainElem Tryz.prog 3) (w.heap.size + 1 + 1) 0 (.map [] : MD) := by rw [hw0]; have := World.ownsMap_made ((w.alloc (.cells #[.int .u8 op.toNat, .int .i64 md, .bool neg, .slice A rs.length n] 24)).alloc (.cells #[.int .i64 oi, .int .i64 ov, .int .i64 ow, .int .i64 of', .int .i64 ot] 34)) Tryz.prog 5 (plainElem (H := Unit) Tryz.prog 3); simpa using this
  have c0_0 : w0.cell? ⟨w.heap.size, 0, none⟩ = some (.int .u8 op.toNat) := by rw [hw0]; go_simp
  have c1_0 : w0.cell? ⟨w.heap.size, 1, none⟩ = some (.int .i64 md) := by rw [hw0]; go_simp
  have c2_0 : w0.cell? ⟨w.heap.size, 2, none⟩ = some (.bool neg) := by rw [hw0]; go_simp
  have c3_0 : w0.cell? ⟨w.heap.size, 3, none⟩ = some (.slice A rs.length n) := by rw [hw0]; go_simp
  have c4_0 : w0.cell? ⟨w.heap.size + 1, 0, none⟩ = some (.int .i64 oi) := by rw [hw0]; go_simp
  have c5_0 : w0.cell? ⟨w.heap.size + 1, 1, none⟩ = some (.int .i64 ov) := by rw [hw0]; go_simp
  have c6_0 : w0.cell? ⟨w.heap.size + 1, 2, none⟩ = some (.int .i64 ow) := by rw [hw0]; go_simp
  have c7_0 : w0.cell? ⟨w.heap.size + 1, 3, none⟩ = some (.int .i64 of') := by rw [hw0]; go_simp
  have c8_0 : w0.cell? ⟨w.heap.size + 1, 4, none⟩ = some (.int .i64 ot) := by rw [hw0]; go_simp
  obtain ⟨w1, hr1, hown1, hg1⟩ := World.ownsMap.update hown0 (int_keyed Tryz.underlying5) Tryz.underlying110 (by decide) (keyOf_int_mk Tryz.underlying5 (a := 110) (by decide)) (plainElem_int Tryz.underlying3 (a := oi) (by go_wf))
  have hf1 := grown_off (l := [w.heap.size + 1 + 1]) hg1 (fun k hk => by cases hk; simp)
  have c0_1 := hf1.cell c0_0 (by first | (simp; done) | (simp; omega))
  have c1_1 := hf1.cell c1_0 (by first | (simp; done) | (simp; omega))
  have c2_1 := hf1.cell c2_0 (by first | (simp; done) | (simp; omega))
  have c3_1 := hf1.cell c3_0 (by first | (simp; done) | (simp; omega))
  have c4_1 := hf1.cell c4_0 (by first | (simp; done) | (simp; omega))
  have c5_1 := hf1.cell c5_0 (by first | (simp; done) | (simp; omega))
  have c6_1 := hf1.cell c6_0 (by first | (simp; done) | (simp; omega))
  have c7_1 := hf1.cell c7_0 (by first | (simp; done) | (simp; omega))
  have c8_1 := hf1.cell c8_0 (by first | (simp; done) | (simp; omega))
  obtain ⟨w2, hr2, hown2, hg2⟩ := World.ownsMap.update hown1 (int_keyed Tryz.underlying5) Tryz.underlying110 (by decide) (keyOf_int_mk Tryz.underlying5 (a := 105) (by decide)) (plainElem_int Tryz.underlying3 (a := oi) (by go_wf))
  have hf2 := grown_off (l := [w.heap.size + 1 + 1]) hg2 (fun k hk => by cases hk; simp)
  have c0_2 := hf2.cell c0_1 (by first | (simp; done) | (simp; omega))
  have c1_2 := hf2.cell c1_1 (by first | (simp; done) | (simp; omega))
  have c2_2 := hf2.cell c2_1 (by first | (simp; done) | (simp; omega))
  have c3_2 := hf2.cell c3_1 (by first | (simp; done) | (simp; omega))
  have c4_2 := hf2.cell c4_1 (by first | (simp; done) | (simp; omega))
  have c5_2 := hf2.cell c5_1 (by first | (simp; done) | (simp; omega))
  have c6_2 := hf2.cell c6_1 (by first | (simp; done) | (simp; omega))
  have c7_2 := hf2.cell c7_1 (by first | (simp; done) | (simp; omega))
  have c8_2 := hf2.cell c8_1 (by first | (simp; done) | (simp; omega))
  obtain ⟨w3, hr3, hown3, hg3⟩ := World.ownsMap.update hown2 (int_keyed Tryz.underlying5) Tryz.underlying110 (by decide) (keyOf_int_mk Tryz.underlying5 (a := 118) (by decide)) (plainElem_int Tryz.underlying3 (a := ov) (by go_wf))
  have hf3 := grown_off (l := [w.heap.size + 1 + 1]) hg3 (fun k hk => by cases hk; simp)
  have c0_3 := hf3.cell c0_2 (by first | (simp; done) | (simp; omega))
  have c1_3 := hf3.cell c1_2 (by first | (simp; done) | (simp; omega))
  have c2_3 := hf3.cell c2_2 (by first | (simp; done) | (simp; omega))
  have c3_3 := hf3.cell c3_2 (by first | (simp; done) | (simp; omega))
  have c4_3 := hf3.cell c4_2 (by first | (simp; done) | (simp; omega))
  have c5_3 := hf3.cell c5_2 (by first | (simp; done) | (simp; omega))
  have c6_3 := hf3.cell c6_2 (by first | (simp; done) | (simp; omega))
  have c7_3 := hf3.cell c7_2 (by first | (simp; done) | (simp; omega))
  have c8_3 := hf3.cell c8_2 (by first | (simp; done) | (simp; omega))
  obtain ⟨w4, hr4, hown4, hg4⟩ := World.ownsMap.update hown3 (int_keyed Tryz.underlying5) Tryz.underlying110 (by decide) (keyOf_int_mk Tryz.underlying5 (a := 119) (by decide)) (plainElem_int Tryz.underlying3 (a := ow) (by go_wf))
  have hf4 := grown_off (l := [w.heap.size + 1 + 1]) hg4 (fun k hk => by cases hk; simp)
  have c0_4 := hf4.cell c0_3 (by first | (simp; done) | (simp; omega))
  have c1_4 := hf4.cell c1_3 (by first | (simp; done) | (simp; omega))
  have c2_4 := hf4.cell c2_3 (by first | (simp; done) | (simp; omega))
  have c3_4 := hf4.cell c3_3 (by first | (simp; done) | (simp; omega))
  have c4_4 := hf4.cell c4_3 (by first | (simp; done) | (simp; omega))
  have c5_4 := hf4.cell c5_3 (by first | (simp; done) | (simp; omega))
  have c6_4 := hf4.cell c6_3 (by first | (simp; done) | (simp; omega))
  have c7_4 := hf4.cell c7_3 (by first | (simp; done) | (simp; omega))
  have c8_4 := hf4.cell c8_3 (by first | (simp; done) | (simp; omega))
  obtain ⟨w5, hr5, hown5, hg5⟩ := World.ownsMap.update hown4 (int_keyed Tryz.underlying5) Tryz.underlying110 (by decide) (keyOf_int_mk Tryz.underlying5 (a := 102) (by decide)) (plainElem_int Tryz.underlying3 (a := of') (by go_wf))
  have hf5 := grown_off (l := [w.heap.size + 1 + 1]) hg5 (fun k hk => by cases hk; simp)
  have c0_5 := hf5.cell c0_4 (by first | (simp; done) | (simp; omega))
  have c1_5 := hf5.cell c1_4 (by first | (simp; done) | (simp; omega))
  have c2_5 := hf5.cell c2_4 (by first | (simp; done) | (simp; omega))
  have c3_5 := hf5.cell c3_4 (by first | (simp; done) | (simp; omega))
  have c4_5 := hf5.cell c4_4 (by first | (simp; done) | (simp; omega))
  have c5_5 := hf5.cell c5_4 (by first | (simp; done) | (simp; omega))
  have c6_5 := hf5.cell c6_4 (by first | (simp; done) | (simp; omega))
  have c7_5 := hf5.cell c7_4 (by first | (simp; done) | (simp; omega))
  have c8_5 := hf5.cell c8_4 (by first | (simp; done) | (simp; omega))
  obtain ⟨w6, hr6, hown6, hg6⟩ := World.ownsMap.update hown5 (int_keyed Tryz.underlying5) Tryz.underlying110 (by decide) (keyOf_int_mk Tryz.underlying5 (a := 116) (by decide)) (plainElem_int Tryz.underlying3 (a := ot) (by go_wf))
  have hf6 := grown_off (l := [w.heap.size + 1 + 1]) hg6 (fun k hk => by cases hk; simp)
  have c0_6 := hf6.cell c0_5 (by first | (simp; done) | (simp; omega))
  have c1_6 := hf6.cell c1_5 (by first | (simp; done) | (simp; omega))
  have c2_6 := hf6.cell c2_5 (by first | (simp; done) | (simp; omega))
  have c3_6 := hf6.cell c3_5 (by first | (simp; done) | (simp; omega))
  have c4_6 := hf6.cell c4_5 (by first | (simp; done) | (simp; omega))
  have c5_6 := hf6.cell c5_5 (by first | (simp; done) | (simp; omega))
  have c6_6 := hf6.cell c6_5 (by first | (simp; done) | (simp; omega))
  have c7_6 := hf6.cell c7_5 (by first | (simp; done) | (simp; omega))
  have c8_6 := hf6.cell c8_5 (by first | (simp; done) | (simp; omega))
  obtain ⟨x, hrl, hax, hwx⟩ := World.ownsMap.lookup_int hown6 (int_keyed Tryz.underlying5) Tryz.underlying110 Tryz.underlying3 (Tryz.zeroValue3 _) (keyOf_int_mk Tryz.underlying5 (a := (op.toNat : Int)) hwf)
  have hxv : x = (OpsC.mk oi ov ow of' ot).at op := by
    simp only at hat
    have h5 := hax.symm.trans hat
    simp only [DataW.lit.injEq, Lit.int.injEq, true_and] at h5
    exact h5
  have hf06 : Off [w.heap.size + 1 + 1] w0 w6 := ((((hf1.trans hf2).trans hf3).trans hf4).trans hf5).trans hf6
  have hb06 : Below w.heap.size w w6 := by
    have h0 : Below w.heap.size w w0 := by rw [hw0]; exact (by (repeat (first | with_reducible exact Below.refl _ _ | with_reducible refine bel_set ?_ ?_ | with_reducible refine bel_alloc ?_ ?_ | with_reducible refine Below.drew ?_ | with_reducible refine bel_drewN _ ?_ | with_reducible refine bel_call ?_ (by assumption) ?_)); all_goals (first | (simp; done) | omega | (simp; omega)))
    exact h0.trans (hf06.toBelow (by simp; omega) h0.size)
  have HB6 := Lib.hid hb06
  rw [hw0] at hr1
  have z6 := lt_of_cell c8_6
  have z6b := lt_of_cell c0_6
  clear hax hat hwx hf06 hb06 hw0 hown0 hown1 hown2 hown3 hown4 hown5 hown6 hg1 hf1 hg2 hf2 hg3 hf3 hg4 hf4 hg5 hf5 hg6 hf6 c0_0 c0_1 c0_2 c0_3 c0_4 c0_5 c1_0 c1_1 c1_2 c1_3 c1_4 c1_5 c2_0 c2_1 c2_2 c2_3 c2_4 c2_5 c3_0 c3_1 c3_2 c3_3 c3_4 c3_5
  have HR := Lib.hid h1
  have HX := Lib.hid hxv
  clear hxv h1
  have n110 : op = 110 → ((op.toNat : Int) != 110) = false := fun h => by rw [h]; rfl
  have m110 : ¬ op = 110 → ((op.toNat : Int) != 110) = true := fun h => by
    rw [bne_iff_ne]
    intro he
    apply h
    have : op.toNat = 110 := by omega
    exact UInt8.toNat_inj.1 this
  have H110 := Lib.hid (And.intro n110 m110)
  clear n110 m110
  have hmm := @run_makeMap Tryz.prog
  have K : ∀ (X : Int) (b : Nat) (W : World), Below w.heap.size w W → W.cell? ⟨b, 0, none⟩ = some (.int .i64 X) → Calls Tryz.prog 56 #[.slice A rs.length n, .func (.func 57) #[] #[.pointer (some ⟨b, 0, none⟩)]] W fun e w' => e = .returned (.bool (rs.any (inRng X))) ∧ Below W.heap.size W w' := fun X b W hb hx =>
    any_rng 57 #[.pointer (some ⟨b, 0, none⟩)] (inRng X) (enters_of Tryz.func57 (by kernel_rfl) rfl) A rs n W (fun p W' hb' => in_rng X b p W' (carry hb' hx)) (HR.out.below hb) h2 h3
  have HK := Lib.hid K
  clear K
  by_cases m0 : md = 0
  · have hR : RR = ((rs.any (inRng x) && (!decide (op = 110) || decide (ot = 0))) != neg) := by
      rw [← HRR.out, HX.out]
      unfold RelC.holds
      simp only [m0, if_true]
    have HRX := Lib.hid hR
    have KX := Lib.hid (HK.out x)
    clear hR HRR HX HK HR
    generalize rs.any (inRng x) = R at *
    subst m0
    go_enter Tryz.func28, Tryz.ntmps28
    go_wp2_with fail
    refine (KX.out _ _ (HB6.out.alloc (by omega) _) (by go_simp)).mono ?_
    rintro e w7 ⟨rfl, hb7⟩
    have d0 : w7.cell? ⟨w.heap.size, 0, none⟩ = some (.int .u8 op.toNat) := carry hb7 (by go_simp)
    have d2 : w7.cell? ⟨w.heap.size, 2, none⟩ = some (.bool neg) := carry hb7 (by go_simp)
    have d8 : w7.cell? ⟨w.heap.size + 1, 4, none⟩ = some (.int .i64 ot) := carry hb7 (by go_simp)
    have HB7 : Hid (Below w.heap.size w w7) := Lib.hid ((HB6.out.alloc (by omega) _).trans (hb7.mono (by simp; omega)))
    clear hb7
    cases R
    · have hv : RR = neg := by rw [HRX.out, Bool.false_and]; simp
      have HV := Lib.hid hv
      clear HRX hv
      go_wp2_with fail
      go_ret
      exact ⟨ret_bool HV.out.symm, HB7.out⟩
    · by_cases p0 : op = 110
      · have e0 := H110.out.1 p0
        by_cases t0 : ot = 0
        · have hv : RR = !neg := by rw [HRX.out, decide_eq_true p0, decide_eq_true t0]; simp
          have HV := Lib.hid hv
          have t1 : ((ot : Int) == 0) = true := by rw [t0]; rfl
          clear HRX hv t0 p0
          go_wp2_with fail
          go_ret
          exact ⟨ret_bool HV.out.symm, HB7.out⟩
        · have hv : RR = neg := by rw [HRX.out, decide_eq_true p0, decide_eq_false t0]; simp
          have HV := Lib.hid hv
          have t1 : ((ot : Int) == 0) = false := by rw [beq_eq_false_iff_ne]; exact t0
          clear HRX hv p0
          go_wp2_with fail
          go_ret
          exact ⟨ret_bool HV.out.symm, HB7.out⟩
      · have e0 := H110.out.2 p0
        have hv : RR = !neg := by rw [HRX.out, decide_eq_false p0]; simp
        have HV := Lib.hid hv
        clear HRX hv p0
        go_wp2_with fail
        go_ret
        exact ⟨ret_bool HV.out.symm, HB7.out⟩
  · have m1 : ((md : Int) == 0) = false := by rw [beq_eq_false_iff_ne]; exact m0
    have m2 : ((md : Int) != 0) = true := by rw [bne_iff_ne]; exact m0
    have hR : RR = ((rs.any (inRng (x.tmod md)) && (!decide (op = 110) || decide (ot = 0))) != neg) := by
      rw [← HRR.out, HX.out]
      unfold RelC.holds
      simp only [m0, if_false]
    have HRX := Lib.hid hR
    have KX := Lib.hid (HK.out (x.tmod md))
    clear hR HRR HX HK HR
    generalize rs.any (inRng (x.tmod md)) = R at *
    go_enter Tryz.func28, Tryz.ntmps28
    go_wp2_with fail
    refine (KX.out _ _ (HB6.out.alloc (by omega) _) (by go_simp)).mono ?_
    rintro e w7 ⟨rfl, hb7⟩
    have d0 : w7.cell? ⟨w.heap.size, 0, none⟩ = some (.int .u8 op.toNat) := carry hb7 (by go_simp)
    have d2 : w7.cell? ⟨w.heap.size, 2, none⟩ = some (.bool neg) := carry hb7 (by go_simp)
    have d8 : w7.cell? ⟨w.heap.size + 1, 4, none⟩ = some (.int .i64 ot) := carry hb7 (by go_simp)
    have HB7 : Hid (Below w.heap.size w w7) := Lib.hid ((HB6.out.alloc (by omega) _).trans (hb7.mono (by simp; omega)))
    clear hb7
    cases R
    · have hv : RR = neg := by rw [HRX.out, Bool.false_and]; simp
      have HV := Lib.hid hv
      clear HRX hv
      go_wp2_with fail
      go_ret
      exact ⟨ret_bool HV.out.symm, HB7.out⟩
    · by_cases p0 : op = 110
      · have e0 := H110.out.1 p0
        by_cases t0 : ot = 0
        · have hv : RR = !neg := by rw [HRX.out, decide_eq_true p0, decide_eq_true t0]; simp
          have HV := Lib.hid hv
          have t1 : ((ot : Int) == 0) = true := by rw [t0]; rfl
          clear HRX hv t0 p0
          go_wp2_with fail
          go_ret
          exact ⟨ret_bool HV.out.symm, HB7.out⟩
        · have hv : RR = neg := by rw [HRX.out, decide_eq_true p0, decide_eq_false t0]; simp
          have HV := Lib.hid hv
          have t1 : ((ot : Int) == 0) = false := by rw [beq_eq_false_iff_ne]; exact t0
          clear HRX hv p0
          go_wp2_with fail
          go_ret
          exact ⟨ret_bool HV.out.symm, HB7.out⟩
      · have e0 := H110.out.2 p0
        have hv : RR = !neg := by rw [HRX.out, decide_eq_false p0]; simp
        have HV := Lib.hid hv
        clear HRX hv p0
        go_wp2_with fail
        go_ret
        exact ⟨ret_bool HV.out.symm, HB7.out⟩
end Go.Proofs.YtkklemhhimcahaaGreatDoor
