/- DiffThree: texts put together. -/
import Derived.Test.YtnhlnhmjnnopaaaGreatDoorDt16
import Derived.Test.YtnhlnhmjnnopaaaGreatDoorDt21
set_option linter.unusedVariables false
set_option linter.unusedSimpArgs false
/- DiffThree: the law's walk. -/
namespace Go.Proofs.YtnhlnhmjnnopaaaGreatDoor
open Go.RowKit Go.Maps

def enB : BunC := ⟨⟨#[101, 110]⟩, []⟩
theorem en_err : enB.err = 0 := by decide +kernel
theorem en_len : packLen enB = 13 := by decide +kernel
theorem ofOut.shape {a b : BunC} {w w' : World} {e : Ending} (h : ofOut a b w w' e) : ∃ tg P n p G m g er, e = .returned (.tuple #[.agg #[.string tg, .slice P n p], .slice G m g, er]) ∧ Below w.heap.size w w' := by
  unfold ofOut at h
  split at h
  · obtain ⟨P, p, G, g, rfl, _, _, _, hb⟩ := h
    exact ⟨_, _, _, _, _, _, _, _, rfl, hb⟩
  · obtain ⟨rfl, hb⟩ := h
    exact ⟨_, _, _, _, _, _, _, _, rfl, hb⟩
theorem ofOut.fault {a b : BunC} {w w' : World} {e : Ending} (h : ofOut a b w w' e) (h0 : bothErr a b ≠ 0) : e = .returned (.tuple #[.agg #[.string ⟨#[]⟩, .slice none 0 0], .slice none 0 0, errT (bothErr a b)]) ∧ Below w.heap.size w w' := by
  unfold ofOut at h
  rw [if_neg h0] at h
  exact h
theorem ofOut.right {a b : BunC} {w w' : World} {e : Ending} (h : ofOut a b w w' e) (h0 : bothErr a b = 0) : ∃ P p G g, e = .returned (.tuple #[.agg #[.string b.tag, .slice P (newE a.es b.es).length p], .slice G (sortK (goneE a.es b.es)).length g, .nilIface]) ∧ BunFine w' ⟨b.tag, newE a.es b.es⟩ P p ∧ StrsIn w' G (sortK (goneE a.es b.es)) ∧ (sortK (goneE a.es b.es)).length ≤ g ∧ Below w.heap.size w w' := by
  unfold ofOut at h
  rw [if_pos h0] at h
  exact h
theorem both_ok {a b : BunC} (h : bothErr a b = 0) : a.err = 0 ∧ b.err = 0 := by
  unfold bothErr at h
  split at h
  · exact ⟨by assumption, h⟩
  · exact absurd h (by assumption)
theorem both_of {a b : BunC} (h : a.err = 0) (h2 : b.err = 0) : bothErr a b = 0 := by unfold bothErr; rw [if_pos h, h2]
set_option maxHeartbeats 16000000 in
set_option maxRecDepth 100000 in
theorem walkD (a b c : BunC) (A B C : Option Addr) (ca cb cc : Nat) (w : World) (hM : MaxL w) (hA : BunFine w a A ca) (hB : BunFine w b B cb) (hC : BunFine w c C cc) (sa : a.small) (sb : b.small) (sc : c.small) :
    Calls Tryz.prog 3 #[bunV a A ca, bunV b B cb, bunV c C cc] w fun e w' => e = .returned (.bool true) ∧ Below w.heap.size w w' := by
  have KE : Hid (∀ W, Below w.heap.size w W → Calls Tryz.prog 5 #[.agg #[.string ⟨#[101, 110]⟩, .slice none 0 0]] W fun e w' => (∃ A' c', e = .returned (.tuple #[.slice A' 13 c', .nilIface])) ∧ Below W.heap.size W w') := Lib.hid (fun W h => by
    have k := pack_encode enB none 0 W (hM.below h) ⟨.inl rfl, Nat.le_refl _, by decide, fun _ => rfl⟩ ⟨by decide, by decide, fun e he => by cases he⟩
    rw [en_err, en_len] at k
    simp only [if_true] at k
    exact k)
  have K1 := Lib.hid (fun W (h : Below w.heap.size w W) => diff_of a b A B ca cb W (hM.below h) (hA.below h) (hB.below h) sa sb)
  have K2 := Lib.hid (fun W (h : Below w.heap.size w W) => diff_of b c B C cb cc W (hM.below h) (hB.below h) (hC.below h) sb sc)
  have K3 := Lib.hid (fun W (h : Below w.heap.size w W) => diff_of a c A C ca cc W (hM.below h) (hA.below h) (hC.below h) sa sc)
  have HM := Lib.hid hM
  have HA := Lib.hid hA
  have SA := Lib.hid sa
  have SB' := Lib.hid sb
  have SC := Lib.hid sc
  obtain ⟨ta, ea⟩ := a
  obtain ⟨tb, eb⟩ := b
  obtain ⟨tc, ec⟩ := c
  clear hM hA hB hC sa sb sc
  unfold bunV at K1 K2 K3 ⊢
  simp only at K1 K2 K3 ⊢
  have hb0 : Below w.heap.size w (((w.alloc (.cells #[.string ta, .slice A ea.length ca] 24)).alloc (.cells #[.string tb, .slice B eb.length cb] 24)).alloc (.cells #[.string tc, .slice C ec.length cc] 24)) := (by (repeat (first | with_reducible exact Below.refl _ _ | with_reducible refine bel_set ?_ ?_ | with_reducible refine bel_alloc ?_ ?_ | with_reducible refine Below.drew ?_ | with_reducible refine bel_drewN _ ?_ | with_reducible refine bel_call ?_ (by assumption) ?_)); all_goals (first | (simp; done) | omega | (simp; omega)))
  have HB0 := Lib.hid hb0
  clear hb0
  go_enter Tryz.func3, Tryz.ntmps3
  go_wp2_with fail
  refine (KE.out _ HB0.out).mono ?_
  rintro e w1 ⟨⟨E1, e1, rfl⟩, hb1⟩
  have a0 : w1.cell? ⟨w.heap.size, 0, none⟩ = some (.string ta) := carry hb1 (by go_simp)
  have a1 : w1.cell? ⟨w.heap.size, 1, none⟩ = some (.slice A ea.length ca) := carry hb1 (by go_simp)
  have b0 : w1.cell? ⟨w.heap.size + 1, 0, none⟩ = some (.string tb) := carry hb1 (by go_simp)
  have b1 : w1.cell? ⟨w.heap.size + 1, 1, none⟩ = some (.slice B eb.length cb) := carry hb1 (by go_simp)
  have c0 : w1.cell? ⟨w.heap.size + 1 + 1, 0, none⟩ = some (.string tc) := carry hb1 (by go_simp)
  have c1 : w1.cell? ⟨w.heap.size + 1 + 1, 1, none⟩ = some (.slice C ec.length cc) := carry hb1 (by go_simp)
  have HB1 := Lib.hid (HB0.out.trans (hb1.mono HB0.out.size))
  have l1 := lt_of_cell c0
  clear hb1 HB0 KE
  go_wp2_with fail
  refine (K1.out _ HB1.out).mono ?_
  rintro e w2 ho
  by_cases h1 : bothErr ⟨ta, ea⟩ ⟨tb, eb⟩ = 0
  · obtain ⟨P, p, G, g, rfl, hP, hG, hg, hb2⟩ := ho.right h1
    simp only at hP hG hg
    have a0 := carry hb2 a0
    have a1 := carry hb2 a1
    have b0 := carry hb2 b0
    have b1 := carry hb2 b1
    have c0 := carry hb2 c0
    have c1 := carry hb2 c1
    have l2 := lt_of_cell c0
    have l2a := lt_of_cell a0
    have l2b := lt_of_cell b0
    have HB2 := Lib.hid (HB1.out.trans (hb2.mono HB1.out.size))
    obtain ⟨oa, ob⟩ := both_ok h1
    have HP := Lib.hid hP
    have HG := Lib.hid hG
    have hbx : Below w2.heap.size w2 (w2.alloc (.cells #[.string tb, .slice P (newE ea eb).length p] 24)) := (by (repeat (first | with_reducible exact Below.refl _ _ | with_reducible refine bel_set ?_ ?_ | with_reducible refine bel_alloc ?_ ?_ | with_reducible refine Below.drew ?_ | with_reducible refine bel_drewN _ ?_ | with_reducible refine bel_call ?_ (by assumption) ?_)); all_goals (first | (simp; done) | omega | (simp; omega)))
    have HBX := Lib.hid (HB2.out.trans (hbx.mono HB2.out.size))
    have HHX := Lib.hid hbx
    have HOA := Lib.hid oa
    have HOB := Lib.hid ob
    clear hb2 ho hP hG hbx h1 K1 HB1 oa ob
    go_wp2_with fail
    refine (K2.out _ HBX.out).mono ?_
    rintro e w3 ho
    by_cases h2 : bothErr ⟨tb, eb⟩ ⟨tc, ec⟩ = 0
    · obtain ⟨P2, p2, G2, g2, rfl, hP2, hG2, hg2, hb3⟩ := ho.right h2
      simp only at hP2 hG2 hg2
      obtain ⟨_, oc⟩ := both_ok h2
      have h3 := both_of HOA.out oc
      have q0 : w3.cell? ⟨w2.heap.size, 0, none⟩ = some (.string tb) := carry hb3 (by go_simp)
      have q1 : w3.cell? ⟨w2.heap.size, 1, none⟩ = some (.slice P (newE ea eb).length p) := carry hb3 (by go_simp)
      have hbz := HHX.out.trans (hb3.mono HHX.out.size)
      have a0 := carry hbz a0
      have a1 := carry hbz a1
      have b0 := carry hbz b0
      have b1 := carry hbz b1
      have c0 := carry hbz c0
      have c1 := carry hbz c1
      have l3 := lt_of_cell q0
      have l3c := lt_of_cell c0
      have l3a := lt_of_cell a0
      have l3b := lt_of_cell b0
      have HB3 := Lib.hid (HB2.out.trans (hbz.mono HB2.out.size))
      have HP' := Lib.hid (HP.out.below hbz)
      have HG' := Lib.hid (HG.out.below hbz)
      have HP2 := Lib.hid hP2
      have HG2 := Lib.hid hG2
      have hbx : Below w3.heap.size w3 (w3.alloc (.cells #[.string tc, .slice P2 (newE eb ec).length p2] 24)) := (by (repeat (first | with_reducible exact Below.refl _ _ | with_reducible refine bel_set ?_ ?_ | with_reducible refine bel_alloc ?_ ?_ | with_reducible refine Below.drew ?_ | with_reducible refine bel_drewN _ ?_ | with_reducible refine bel_call ?_ (by assumption) ?_)); all_goals (first | (simp; done) | omega | (simp; omega)))
      have HBY := Lib.hid (HB3.out.trans (hbx.mono HB3.out.size))
      have HHY := Lib.hid hbx
      have HOC := Lib.hid oc
      clear hb3 ho hP2 hG2 hbx hbz h2 K2 HBX HHX HP HG HB2 oc
      go_wp2_with fail
      refine (K3.out _ HBY.out).mono ?_
      rintro e w4 ho
      obtain ⟨P3, p3, G3, g3, rfl, hP3, hG3, hg3, hb4⟩ := ho.right h3
      simp only at hP3 hG3 hg3
      have r0 : w4.cell? ⟨w3.heap.size, 0, none⟩ = some (.string tc) := carry hb4 (by go_simp)
      have r1 : w4.cell? ⟨w3.heap.size, 1, none⟩ = some (.slice P2 (newE eb ec).length p2) := carry hb4 (by go_simp)
      have hbz := HHY.out.trans (hb4.mono HHY.out.size)
      have a0 := carry hbz a0
      have a1 := carry hbz a1
      have q0 := carry hbz q0
      have q1 := carry hbz q1
      have l4 := lt_of_cell r0
      have l4q := lt_of_cell q0
      have l4a := lt_of_cell a0
      have HB4 := Lib.hid (HB3.out.trans (hbz.mono HB3.out.size))
      have hbx : Below w4.heap.size w4 (w4.alloc (.cells #[.string tc, .slice P3 (newE ea ec).length p3] 24)) := (by (repeat (first | with_reducible exact Below.refl _ _ | with_reducible refine bel_set ?_ ?_ | with_reducible refine bel_alloc ?_ ?_ | with_reducible refine Below.drew ?_ | with_reducible refine bel_drewN _ ?_ | with_reducible refine bel_call ?_ (by assumption) ?_)); all_goals (first | (simp; done) | omega | (simp; omega)))
      have hb5 := HB4.out.trans (hbx.mono HB4.out.size)
      have HP4 := Lib.hid ((HP'.out.below hbz).below hbx)
      have HG4 := Lib.hid ((HG'.out.below hbz).below hbx)
      have HQ4 := Lib.hid ((HP2.out.below hbz).below hbx)
      have HH4 := Lib.hid ((HG2.out.below hbz).below hbx)
      have HR4 := Lib.hid (hP3.below hbx)
      have HI4 := Lib.hid (hG3.below hbx)
      obtain ⟨_, la100, _, ka⟩ := bun_ok HOA.out
      obtain ⟨_, lb100, _, kb⟩ := bun_ok HOB.out
      obtain ⟨_, lc100, _, kc⟩ := bun_ok HOC.out
      simp only at la100 lb100 lc100 ka kb kc
      have HKA := Lib.hid ka
      have HKB := Lib.hid kb
      have KA1 := Lib.hid (fun W (hx : Below (w4.alloc (.cells #[.string tc, .slice P3 (newE ea ec).length p3] 24)).heap.size (w4.alloc (.cells #[.string tc, .slice P3 (newE ea ec).length p3] 24)) W) => diff_made ⟨ta, ea⟩ ea ⟨tb, eb⟩ A P G ca p g W (HM.out.below (hb5.trans (hx.mono hb5.size))) (HA.out.below (hb5.trans (hx.mono hb5.size))) (HP4.out.below hx) (HG4.out.below hx) hg SA.out SB'.out HOA.out HOB.out (List.Perm.refl _) ka la100)
      have KA3 := Lib.hid (fun W (hx : Below (w4.alloc (.cells #[.string tc, .slice P3 (newE ea ec).length p3] 24)).heap.size (w4.alloc (.cells #[.string tc, .slice P3 (newE ea ec).length p3] 24)) W) => diff_made ⟨ta, ea⟩ ea ⟨tc, ec⟩ A P3 G3 ca p3 g3 W (HM.out.below (hb5.trans (hx.mono hb5.size))) (HA.out.below (hb5.trans (hx.mono hb5.size))) (HR4.out.below hx) (HI4.out.below hx) hg3 SA.out SC.out HOA.out HOC.out (List.Perm.refl _) ka la100)
      have KA2 := Lib.hid (fun (U : Option Addr) (u : Nat) W (hx : Below (w4.alloc (.cells #[.string tc, .slice P3 (newE ea ec).length p3] 24)).heap.size (w4.alloc (.cells #[.string tc, .slice P3 (newE ea ec).length p3] 24)) W) (hU : BunFine W ⟨tb, sortE eb⟩ U u) => diff_made ⟨tb, sortE eb⟩ eb ⟨tc, ec⟩ U P2 G2 u p2 g2 W (HM.out.below (hb5.trans (hx.mono hb5.size))) hU (HQ4.out.below hx) (HH4.out.below hx) hg2 (SB'.out.sub (fun e he => (sortE_mem kb).1 he) (by rw [sortE_len]; omega)) SC.out (ok_sorted HOB.out) HOC.out (sortE_perm kb) kb lb100)
      have hlc : (sortE ec).length ≤ 1048576 := by rw [sortE_len]; omega
      have HLC := Lib.hid hlc
      obtain ⟨w5, hw5⟩ : ∃ w5, w5 = w4.alloc (.cells #[.string tc, .slice P3 (newE ea ec).length p3] 24) := ⟨_, rfl⟩
      have r0 := carry hbx r0
      have r1 := carry hbx r1
      have a0 := carry hbx a0
      have a1 := carry hbx a1
      have q0 := carry hbx q0
      have q1 := carry hbx q1
      have s0 : w5.cell? ⟨w4.heap.size, 0, none⟩ = some (.string tc) := by rw [hw5]; go_simp
      have s1 : w5.cell? ⟨w4.heap.size, 1, none⟩ = some (.slice P3 (newE ea ec).length p3) := by rw [hw5]; go_simp
      have HB5 := Lib.hid hb5
      have hs5 : w4.heap.size < w5.heap.size := by rw [hw5]; simp
      clear hb4 ho hP3 hG3 hbz h3 K3 HBY HHY HB3 HB4 HP' HG' HP2 HG2 hg hg2 hg3 ka kb kc hb5 hbx b0 b1 c0 c1 hlc
      rw [← hw5] at r0 r1 a0 a1 q0 q1 KA1 KA2 KA3 HB5 HP4 HG4 HQ4 HH4 HR4 HI4
      have HW5 := Lib.hid hw5
      clear hw5
      go_wp2_with fail
      rw [← HW5.out]
      refine (KA1.out w5 (Below.refl _ _)).mono ?_
      rintro e w6 ⟨U, u, rfl, hU, hb6⟩
      have a0 := carry hb6 a0
      have a1 := carry hb6 a1
      have r0 := carry hb6 r0
      have r1 := carry hb6 r1
      have s0 := carry hb6 s0
      have s1 := carry hb6 s1
      have l6a := lt_of_cell a0
      have l6r := lt_of_cell r0
      have l6s := lt_of_cell s0
      have hbx : Below w6.heap.size w6 (w6.alloc (.cells #[.string tb, .slice U (sortE eb).length u] 24)) := (by (repeat (first | with_reducible exact Below.refl _ _ | with_reducible refine bel_set ?_ ?_ | with_reducible refine bel_alloc ?_ ?_ | with_reducible refine Below.drew ?_ | with_reducible refine bel_drewN _ ?_ | with_reducible refine bel_call ?_ (by assumption) ?_)); all_goals (first | (simp; done) | omega | (simp; omega)))
      have HU7 := Lib.hid (hU.below hbx)
      have HB6 := Lib.hid (hb6.trans (hbx.mono hb6.size))
      have HX6 := Lib.hid hbx
      clear hb6 hbx hU KA1 HP4 HG4 q0 q1
      go_wp2_with fail
      refine (KA2.out U u _ HB6.out HU7.out).mono ?_
      rintro e w7 ⟨V, v, rfl, hV, hb7⟩
      have hbz := HX6.out.trans (hb7.mono HX6.out.size)
      have a0 := carry hbz a0
      have a1 := carry hbz a1
      have s0 := carry hbz s0
      have s1 := carry hbz s1
      have l7a := lt_of_cell a0
      have l7s := lt_of_cell s0
      have hbx : Below w7.heap.size w7 (w7.alloc (.cells #[.string tc, .slice V (sortE ec).length v] 24)) := (by (repeat (first | with_reducible exact Below.refl _ _ | with_reducible refine bel_set ?_ ?_ | with_reducible refine bel_alloc ?_ ?_ | with_reducible refine Below.drew ?_ | with_reducible refine bel_drewN _ ?_ | with_reducible refine bel_call ?_ (by assumption) ?_)); all_goals (first | (simp; done) | omega | (simp; omega)))
      have HV8 := Lib.hid (hV.below hbx)
      have hb57 := HB6.out.trans (hb7.mono HB6.out.size)
      have HB7 := Lib.hid (hb57.trans (hbx.mono hb57.size))
      have x0 : (w7.alloc (.cells #[.string tc, .slice V (sortE ec).length v] 24)).cell? ⟨w7.heap.size, 0, none⟩ = some (.string tc) := by go_simp
      have x1 : (w7.alloc (.cells #[.string tc, .slice V (sortE ec).length v] 24)).cell? ⟨w7.heap.size, 1, none⟩ = some (.slice V (sortE ec).length v) := by go_simp
      have HX0 := Lib.hid x0
      have HX1 := Lib.hid x1
      clear hb7 hbx hV KA2 HU7 HX6 HB6 hb57 hbz r0 r1 x0 x1 l6a l6r l6s
      go_wp2_with fail
      refine (KA3.out _ HB7.out).mono ?_
      rintro e w8 ⟨Z, z, rfl, hZ, hb8⟩
      have x0 := carry hb8 HX0.out
      have x1 := carry hb8 HX1.out
      have l8 := lt_of_cell x0
      have hbx : Below w8.heap.size w8 (w8.alloc (.cells #[.string tc, .slice Z (sortE ec).length z] 24)) := (by (repeat (first | with_reducible exact Below.refl _ _ | with_reducible refine bel_set ?_ ?_ | with_reducible refine bel_alloc ?_ ?_ | with_reducible refine Below.drew ?_ | with_reducible refine bel_drewN _ ?_ | with_reducible refine bel_call ?_ (by assumption) ?_)); all_goals (first | (simp; done) | omega | (simp; omega)))
      have KS := Lib.hid (same_bundle ⟨tc, sortE ec⟩ V Z v z _ ((HV8.out.below hb8).below hbx) (hZ.below hbx) HLC.out)
      have hb58 := HB7.out.trans (hb8.mono HB7.out.size)
      have hb58 := HB5.out.trans (hb58.mono HB5.out.size)
      have HB8 := Lib.hid (hb58.trans (hbx.mono hb58.size))
      clear hb8 hbx hZ KA3 HV8 HB7 hb58 a0 a1 s0 s1 l7a l7s HX0 HX1
      go_wp2_with fail
      refine KS.out.mono ?_
      rintro e w9 ⟨rfl, hb9⟩
      have HB9 := Lib.hid (HB8.out.trans (hb9.mono HB8.out.size))
      clear hb9
      go_wp2_with fail
      go_ret
      exact ⟨rfl, HB9.out⟩
    · obtain ⟨tg2, P2, n2, p2, G2, m2, g2, er2, he, hb3⟩ := ho.shape
      obtain ⟨he2, _⟩ := ho.fault h2
      rw [he] at he2
      have her : er2 = errT (bothErr ⟨tb, eb⟩ ⟨tc, ec⟩) := by injection he2 with he2; injection he2 with he2; simp only [Array.mk.injEq, List.cons.injEq] at he2; exact he2.2.2.1
      subst he her
      clear he2
      have q0 : w3.cell? ⟨w2.heap.size, 0, none⟩ = some (.string tb) := carry hb3 (by go_simp)
      have q1 : w3.cell? ⟨w2.heap.size, 1, none⟩ = some (.slice P (newE ea eb).length p) := carry hb3 (by go_simp)
      have hbz := HHX.out.trans (hb3.mono HHX.out.size)
      have a0 := carry hbz a0
      have a1 := carry hbz a1
      have c0 := carry hbz c0
      have c1 := carry hbz c1
      have l3 := lt_of_cell q0
      have l3c := lt_of_cell c0
      have l3a := lt_of_cell a0
      have HB3 := Lib.hid (HB2.out.trans (hbz.mono HB2.out.size))
      have hbx : Below w3.heap.size w3 (w3.alloc (.cells #[.string tg2, .slice P2 n2 p2] 24)) := (by (repeat (first | with_reducible exact Below.refl _ _ | with_reducible refine bel_set ?_ ?_ | with_reducible refine bel_alloc ?_ ?_ | with_reducible refine Below.drew ?_ | with_reducible refine bel_drewN _ ?_ | with_reducible refine bel_call ?_ (by assumption) ?_)); all_goals (first | (simp; done) | omega | (simp; omega)))
      have HBY := Lib.hid (HB3.out.trans (hbx.mono HB3.out.size))
      have HHY := Lib.hid hbx
      obtain ⟨R2, hR2⟩ : ∃ R, R = bothErr ⟨tb, eb⟩ ⟨tc, ec⟩ := ⟨_, rfl⟩
      rw [← hR2]
      clear hb3 ho hbx hbz h2 K2 HBX HHX HP HG HB2 hR2
      go_wp2_with fail
      refine (K3.out _ HBY.out).mono ?_
      rintro e w4 ho
      obtain ⟨tg3, P3, n3, p3, G3, m3, g3, er3, rfl, hb4⟩ := ho.shape
      have hbz := HHY.out.trans (hb4.mono HHY.out.size)
      have q0 := carry hbz q0
      have q1 := carry hbz q1
      have l4q := lt_of_cell q0
      have HB4 := Lib.hid (HB3.out.trans (hbz.mono HB3.out.size))
      have hbx : Below w4.heap.size w4 (w4.alloc (.cells #[.string tg3, .slice P3 n3 p3] 24)) := (by (repeat (first | with_reducible exact Below.refl _ _ | with_reducible refine bel_set ?_ ?_ | with_reducible refine bel_alloc ?_ ?_ | with_reducible refine Below.drew ?_ | with_reducible refine bel_drewN _ ?_ | with_reducible refine bel_call ?_ (by assumption) ?_)); all_goals (first | (simp; done) | omega | (simp; omega)))
      have HB5 := Lib.hid (HB4.out.trans (hbx.mono HB4.out.size))
      clear hb4 ho hbz hbx K3 HBY HHY HB3 HB4
      go_wp2_with fail
      all_goals (go_ret; exact ⟨rfl, HB5.out⟩)
  · obtain ⟨rfl, hb2⟩ := ho.fault h1
    have b0 := carry hb2 b0
    have b1 := carry hb2 b1
    have a0 := carry hb2 a0
    have a1 := carry hb2 a1
    have c0 := carry hb2 c0
    have c1 := carry hb2 c1
    have l2 := lt_of_cell c0
    have l2a := lt_of_cell a0
    have l2b := lt_of_cell b0
    have HB2 := Lib.hid (HB1.out.trans (hb2.mono HB1.out.size))
    have hbx : Below w2.heap.size w2 (w2.alloc (.cells #[.string ⟨#[]⟩, .slice none 0 0] 24)) := (by (repeat (first | with_reducible exact Below.refl _ _ | with_reducible refine bel_set ?_ ?_ | with_reducible refine bel_alloc ?_ ?_ | with_reducible refine Below.drew ?_ | with_reducible refine bel_drewN _ ?_ | with_reducible refine bel_call ?_ (by assumption) ?_)); all_goals (first | (simp; done) | omega | (simp; omega)))
    have HBX := Lib.hid (HB2.out.trans (hbx.mono HB2.out.size))
    have HHX := Lib.hid hbx
    obtain ⟨R1, hR1⟩ : ∃ R, R = bothErr ⟨ta, ea⟩ ⟨tb, eb⟩ := ⟨_, rfl⟩
    rw [← hR1]
    clear hb2 ho hbx h1 K1 HB1 hR1
    go_wp2_with fail
    refine (K2.out _ HBX.out).mono ?_
    rintro e w3 ho
    obtain ⟨tg2, P2, n2, p2, G2, m2, g2, er2, rfl, hb3⟩ := ho.shape
    have q0 : w3.cell? ⟨w2.heap.size, 0, none⟩ = some (.string ⟨#[]⟩) := carry hb3 (by go_simp)
    have q1 : w3.cell? ⟨w2.heap.size, 1, none⟩ = some (.slice none 0 0) := carry hb3 (by go_simp)
    have hbz := HHX.out.trans (hb3.mono HHX.out.size)
    have a0 := carry hbz a0
    have a1 := carry hbz a1
    have c0 := carry hbz c0
    have c1 := carry hbz c1
    have l3 := lt_of_cell q0
    have l3c := lt_of_cell c0
    have l3a := lt_of_cell a0
    have HB3 := Lib.hid (HB2.out.trans (hbz.mono HB2.out.size))
    have hbx : Below w3.heap.size w3 (w3.alloc (.cells #[.string tg2, .slice P2 n2 p2] 24)) := (by (repeat (first | with_reducible exact Below.refl _ _ | with_reducible refine bel_set ?_ ?_ | with_reducible refine bel_alloc ?_ ?_ | with_reducible refine Below.drew ?_ | with_reducible refine bel_drewN _ ?_ | with_reducible refine bel_call ?_ (by assumption) ?_)); all_goals (first | (simp; done) | omega | (simp; omega)))
    have HBY := Lib.hid (HB3.out.trans (hbx.mono HB3.out.size))
    have HHY := Lib.hid hbx
    clear hb3 ho hbx hbz K2 HBX HHX HB2
    go_wp2_with fail
    refine (K3.out _ HBY.out).mono ?_
    rintro e w4 ho
    obtain ⟨tg3, P3, n3, p3, G3, m3, g3, er3, rfl, hb4⟩ := ho.shape
    have hbz := HHY.out.trans (hb4.mono HHY.out.size)
    have q0 := carry hbz q0
    have q1 := carry hbz q1
    have l4q := lt_of_cell q0
    have HB4 := Lib.hid (HB3.out.trans (hbz.mono HB3.out.size))
    have hbx : Below w4.heap.size w4 (w4.alloc (.cells #[.string tg3, .slice P3 n3 p3] 24)) := (by (repeat (first | with_reducible exact Below.refl _ _ | with_reducible refine bel_set ?_ ?_ | with_reducible refine bel_alloc ?_ ?_ | with_reducible refine Below.drew ?_ | with_reducible refine bel_drewN _ ?_ | with_reducible refine bel_call ?_ (by assumption) ?_)); all_goals (first | (simp; done) | omega | (simp; omega)))
    have HB5 := Lib.hid (HB4.out.trans (hbx.mono HB4.out.size))
    clear hb4 ho hbz hbx K3 HBY HHY HB3 HB4
    go_wp2_with fail
    all_goals (go_ret; exact ⟨rfl, HB5.out⟩)
end Go.Proofs.YtnhlnhmjnnopaaaGreatDoor
