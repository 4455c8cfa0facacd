/- ServeReady, RFault, RefTagA, RefTagP0, RefTagP1, RefTagP2, RefTagP3, RefTagP4, RefTagP5, RefTagP6, RefTagP7, RefTagOf, RefBundle, RefLoad: texts put together. -/
import Derived.Test.YtplaohmdllindaaGreatDoorQn44
import Derived.Test.YtplaohmdllindaaGreatDoorQn48
import Derived.Test.YtplaohmdllindaaGreatDoorQn17
import Derived.Test.YtplaohmdllindaaGreatDoorQn27
import Derived.Test.YtplaohmdllindaaGreatDoorQn32
import Derived.Test.YtplaohmdllindaaGreatDoorQn7
import Derived.Deep.RegionHeld
import Derived.Test.YtplaohmdllindaaGreatDoorQn1
import Derived.Test.YtplaohmdllindaaGreatDoorQn30
import Derived.Test.YtplaohmdllindaaGreatDoorQn6
import Derived.Deep.DeepCutAuto
import Derived.Test.YtplaohmdllindaaGreatDoorQn46
import Derived.Test.YtplaohmdllindaaGreatDoorQn3
import Derived.Test.YtplaohmdllindaaGreatDoorQn45
import Derived.Test.YtplaohmdllindaaGreatDoorQn31
import Derived.Deep.RegionHeld3
import Derived.Deep.QuietTactic
import Derived.BigQuiet
set_option linter.unusedVariables false
set_option linter.unusedSimpArgs false
/- serve's ready: a text that was not there. -/
namespace Go.Proofs.YtplaohmdllindaaGreatDoor
open Go.RowKit Go.Maps

/-- what ready tells -/
def ReadyOut (x : Nd) (e : Ending) (w' : World) : Prop := ∃ (g n1 c1 : Nat) (A2 : Option Addr) (n2 c2 : Nat), e = .returned (.tuple #[.agg #[.slice (some ⟨g, 0, none⟩) n1 c1, .slice A2 n2 c2], .nilIface]) ∧ n1 = 1 ∧ n1 ≤ c1 ∧ c1 ≤ 9223372036854775807 ∧ StepAt w' g 0 x ∧ NodesIn 1 w' (.slice A2 n2 c2) [Nd.mk x.kd x.t x.off []]

set_option maxHeartbeats 16000000 in
set_option maxRecDepth 100000 in
theorem serve_ready (key : ByteArray) (w : World) (sv sb cb pb mb : Nat) (l : Value) (ver : Int) (hE : RuleEnv w) (hK : MKinds w) (hV : SrvAt w sv sb cb mb l ver) (hC : CacheAt w cb pb 1 Cch.none 0) (hm : HMap w mb 0 []) (hd : sv ≠ cb ∧ sv ≠ pb ∧ sv ≠ mb ∧ mb ≠ cb ∧ mb ≠ pb) (hkz : key.size ≤ 1000) :
    Calls Tryz.prog 55 #[.pointer (some ⟨sv, 0, none⟩), .int .i64 0, .string key, .string helloS] w fun e w' => ReadyOut (Nd.mk 1 helloS 0 []) e w' ∧ Off [cb, pb, mb] w w' := by
  have KI : Hid (∀ W, Below w.heap.size w W → Calls Tryz.prog 78 #[.int .i64 0] W fun e w' => e = .returned (.string ⟨(Lib.itoa 0).toArray⟩) ∧ Below W.heap.size W w') := Lib.hid (fun W hb => itoa_any 0 W (by omega) (by omega) (hE.below hb).pow)
  have HEV := Lib.hid hE
  have HKV := Lib.hid hK
  have HV := Lib.hid hV
  have HC := Lib.hid hC
  have HM := Lib.hid hm
  have HD := Lib.hid hd
  obtain ⟨z, hz, hzs⟩ : ∃ z : ByteArray, z = ⟨(Lib.itoa 0).toArray⟩ ∧ z.size ≤ 20 := ⟨_, rfl, by
    show (Lib.itoa 0).length ≤ 20
    rw [itoa_pos' 0 (by omega)]
    exact Nat.le_trans (decDigits_size 1 0 (by omega) (by omega)) (by omega)⟩
  rw [← hz] at KI
  obtain ⟨na, ena, r1⟩ := addl z ⟨#[32]⟩ (by have : (⟨#[32]⟩ : ByteArray).size = 1 := rfl; omega)
  have hna : na.size = z.size + 1 := by rw [ena, ByteArray.size_append]; rfl
  obtain ⟨nm, enm, r2⟩ := addl na key (by omega)
  have hnm : nm.size ≤ maxLen := by rw [enm, ByteArray.size_append]; unfold maxLen; omega
  have HNM := Lib.hid hnm
  have KG := Lib.hid (fun (W : World) (h : CacheAt W cb pb 1 Cch.none 0) => get_no nm cb pb 1 0 Cch.none W h (fun j _ => by unfold isAt; rfl))
  have KP := Lib.hid (fun (W : World) (h : CacheAt W cb pb 1 Cch.none 0) => put_free 0 nm helloS cb pb 1 0 Cch.none W h (by omega) (fun j _ => by unfold isAt; rfl) rfl (fun j hj => absurd hj (by omega)))
  clear hE hK hV hC hm hd hz hzs ena hna enm hnm hkz
  go_enter Tryz.func55, Tryz.ntmps55
  go_wp2_with fail
  have hb0 : Below w.heap.size w (w.alloc (.cells #[.slice none 0 0, .slice none 0 0] 131)) := belx
  refine (KI.out _ hb0).mono ?_
  rintro e w1 ⟨rfl, hb1⟩
  have HR0 := Lib.hid (carry hb1 (show (w.alloc (.cells #[.slice none 0 0, .slice none 0 0] 131)).cell? ⟨w.heap.size, 0, none⟩ = some (.slice none 0 0) by go_simp))
  have HR1 := Lib.hid (carry hb1 (show (w.alloc (.cells #[.slice none 0 0, .slice none 0 0] 131)).cell? ⟨w.heap.size, 1, none⟩ = some (.slice none 0 0) by go_simp))
  have HRT : Hid (TyAt w1 w.heap.size 131) := Lib.hid ((TyAt.new _ _ _).below hb1)
  have HB1 := Lib.hid (hb0.trans (hb1.mono hb0.size))
  have s1 := (HV.out.below HB1.out).c1
  clear hb0 hb1 KI
  go_wp2_with fail
  refine (KG.out w1 (HC.out.below HB1.out)).mono ?_
  rintro e w2 ⟨rfl, hb2⟩
  have HB2 := Lib.hid (HB1.out.trans (hb2.mono HB1.out.size))
  replace HR0 := Lib.hid (carry hb2 HR0.out)
  replace HR1 := Lib.hid (carry hb2 HR1.out)
  replace HRT := Lib.hid (HRT.out.below hb2)
  clear hb2 s1 KG HB1
  go_wp2_with fail
  refine (parse_hello w2 (HEV.out.below HB2.out) (HKV.out.below HB2.out)).mono ?_
  rintro e w3 ⟨A, n, c, rfl, hN, hb3⟩
  have HB3 := Lib.hid (HB2.out.trans (hb3.mono HB2.out.size))
  replace HR0 := Lib.hid (carry hb3 HR0.out)
  replace HR1 := Lib.hid (carry hb3 HR1.out)
  replace HRT := Lib.hid (HRT.out.below hb3)
  have hr3 : w.heap.size < w3.heap.size := HRT.out.lt
  obtain ⟨Af, cf, heq, _, _, _⟩ := hN.form
  have hn : n = helloN.length := by injection heq
  subst hn
  have KC := Lib.hid (code_one (Nd.mk 1 helloS 0 []) A c helloN w3 (HEV.out.below HB3.out) (HKV.out.below HB3.out) rfl rfl rfl hN (by decide +kernel))
  clear hb3 heq hN HB2
  go_wp2_with fail
  refine KC.out.mono ?_
  rintro e w4 ⟨⟨g, n1, c1, A2, n2, c2, rfl, hn1, hn1c, hc9, hg1, hg2, hst, hNf⟩, hb4⟩
  have HB4 := Lib.hid (HB3.out.trans (hb4.mono HB3.out.size))
  replace HR0 := Lib.hid (carry hb4 HR0.out)
  replace HR1 := Lib.hid (carry hb4 HR1.out)
  replace HRT := Lib.hid (HRT.out.below hb4)
  obtain ⟨w5, hw5⟩ : ∃ w5, w5 = w4.alloc (.cells #[.slice (some ⟨g, 0, none⟩) n1 c1, .slice A2 n2 c2] 131) := ⟨_, rfl⟩
  have hb5 : Below w4.heap.size w4 w5 := by rw [hw5]; exact belx
  have HB5 := Lib.hid (HB4.out.trans (hb5.mono HB4.out.size))
  replace HR0 := Lib.hid (carry hb5 HR0.out)
  replace HR1 := Lib.hid (carry hb5 HR1.out)
  replace HRT := Lib.hid (HRT.out.below hb5)
  have HG : Hid (w.heap.size < g ∧ g < w4.heap.size ∧ w.heap.size < w3.heap.size) := Lib.hid ⟨by omega, hg2, hr3⟩
  have HST := Lib.hid (hst.below hb5)
  have HNF := Lib.hid (NodesFrom.off hNf ((Off.refl [] _).below hb5 (Nat.le_refl _)) (by simp))
  have HNC : Hid (n1 = 1 ∧ n1 ≤ c1 ∧ c1 ≤ 9223372036854775807) := Lib.hid ⟨hn1, hn1c, hc9⟩
  have Q0 : Hid (w5.cell? ⟨w4.heap.size, 0, none⟩ = some (.slice (some ⟨g, 0, none⟩) n1 c1)) := Lib.hid (by rw [hw5]; go_simp)
  have Q1 : Hid (w5.cell? ⟨w4.heap.size, 1, none⟩ = some (.slice A2 n2 c2)) := Lib.hid (by rw [hw5]; go_simp)
  have HW5 := Lib.hid hw5
  have hv1 := (HV.out.below HB5.out).c1
  rw [hw5] at hv1
  clear hw5 hb4 hb5 hn1 hn1c hc9 hg1 hg2 hst hNf KC
  go_wp2_with fail
  rw [← HW5.out]
  have hcl := HC.out.lcb
  have hpl := HC.out.lpb
  have hml := HM.out.lt
  have hd := HD.out
  refine (KP.out _ (HC.out.below HB5.out)).mono ?_
  rintro e w6 ⟨rfl, hC6, ho6⟩
  have HV6 := Lib.hid ((HV.out.below HB5.out).off ho6 (by simp; omega))
  have HM6 := Lib.hid ((HM.out.below HB5.out).off ho6 (by simp; omega))
  have R0 := Lib.hid (ho6.cell HR0.out (by simp; omega))
  have R1 := Lib.hid (ho6.cell HR1.out (by simp; omega))
  have RT := Lib.hid (HRT.out.off ho6 (by simp; omega))
  have h45 : w.heap.size < w4.heap.size := by have := HG.out; omega
  have hw4 : w4.heap.size < w5.heap.size := lt_of_cell Q0.out
  have q0 := ho6.cell Q0.out (by simp; omega)
  have q1 := ho6.cell Q1.out (by simp; omega)
  have HST6 := Lib.hid (HST.out.off ho6 (by have := HG.out; simp; omega))
  have HNF6 := Lib.hid (NodesFrom.off HNF.out ho6 (by have := HG.out; simp; omega))
  have HO6 : Hid (Off [cb, pb, mb] w w6) := Lib.hid (((Off.refl [cb, pb, mb] w).below HB5.out (Nat.le_refl _)).trans (ho6.more (by simp)))
  have hz6 := ho6.size
  have v2 := HV6.out.c2
  clear hC6 ho6 HR0 HR1 HRT Q0 Q1 HST HNF HW5 hv1 KP HB5
  go_upto_region 14 with fail
  refine wp_region_held_drew (S := SOf [mb] w6) (by kernel_rfl) ?_ (fun hHeld => ?_)
  · exact Lib.hid ((Off.refl _ _).drewN 1)
  refine wpAnyH_take (i := 0) (v := ?tv1) rfl (by kernel_rfl) (by kernel_rfl) (by kernel_rfl) (fun _ _ _ h => h) (Or.inl ⟨rfl, ?ty1⟩) hHeld ?tr1
  case ty1 => (intro wS hSw; have u0 := hSw.out.cell v2 (by simp; omega); have u1 := hSw.out.cell q0 (by simp; omega); have u2 := hSw.out.cell q1 (by simp; omega); clear hSw; go_simp; try with_reducible rfl)
  try simp only [Act.put, List.setIfInBounds_toArray, List.set_cons_zero, List.set_cons_succ, List.getElem_toArray, List.getElem_cons_zero, List.getElem_cons_succ]
  refine wpAnyH_take (i := 1) (v := ?tv2) rfl (by kernel_rfl) (by kernel_rfl) (by kernel_rfl) (fun _ _ _ h => h) (Or.inl ⟨rfl, ?ty2⟩) hHeld ?tr2
  case ty2 => (intro wS hSw; have u0 := hSw.out.cell v2 (by simp; omega); have u1 := hSw.out.cell q0 (by simp; omega); have u2 := hSw.out.cell q1 (by simp; omega); clear hSw; go_simp; try with_reducible rfl)
  try simp only [Act.put, List.setIfInBounds_toArray, List.set_cons_zero, List.set_cons_succ, List.getElem_toArray, List.getElem_cons_zero, List.getElem_cons_succ]
  refine wpAnyH_take (i := 2) (v := ?tv3) rfl (by kernel_rfl) (by kernel_rfl) (by kernel_rfl) (fun _ _ _ h => h) (Or.inl ⟨rfl, ?ty3⟩) hHeld ?tr3
  case ty3 => (intro wS hSw; have u0 := hSw.out.cell v2 (by simp; omega); have u1 := hSw.out.cell q0 (by simp; omega); have u2 := hSw.out.cell q1 (by simp; omega); clear hSw; go_simp; try with_reducible rfl)
  try simp only [Act.put, List.setIfInBounds_toArray, List.set_cons_zero, List.set_cons_succ, List.getElem_toArray, List.getElem_cons_zero, List.getElem_cons_succ]
  refine wpAnyH_take (i := 3) (v := ?tv4) rfl (by kernel_rfl) (by kernel_rfl) (by kernel_rfl) (fun _ _ _ h => h) (Or.inl ⟨rfl, ?ty4⟩) hHeld ?tr4
  case ty4 => (intro wS hSw; have u0 := hSw.out.cell v2 (by simp; omega); have u1 := hSw.out.cell q0 (by simp; omega); have u2 := hSw.out.cell q1 (by simp; omega); clear hSw; go_simp; try with_reducible rfl)
  try simp only [Act.put, List.setIfInBounds_toArray, List.set_cons_zero, List.set_cons_succ, List.getElem_toArray, List.getElem_cons_zero, List.getElem_cons_succ]
  refine wpAnyH_take (i := 4) (v := ?tv5) rfl (by kernel_rfl) (by kernel_rfl) (by kernel_rfl) (fun _ _ _ h => h) (Or.inl ⟨rfl, ?ty5⟩) hHeld ?tr5
  case ty5 => (intro wS hSw; have u0 := hSw.out.cell v2 (by simp; omega); have u1 := hSw.out.cell q0 (by simp; omega); have u2 := hSw.out.cell q1 (by simp; omega); clear hSw; go_simp; try with_reducible rfl)
  try simp only [Act.put, List.setIfInBounds_toArray, List.set_cons_zero, List.set_cons_succ, List.getElem_toArray, List.getElem_cons_zero, List.getElem_cons_succ]
  refine wpAnyH_take (i := 5) (v := ?tv6) rfl (by kernel_rfl) (by kernel_rfl) (by kernel_rfl) (fun _ _ _ h => h) (Or.inl ⟨rfl, ?ty6⟩) hHeld ?tr6
  case ty6 => (intro wS hSw; have u0 := hSw.out.cell v2 (by simp; omega); have u1 := hSw.out.cell q0 (by simp; omega); have u2 := hSw.out.cell q1 (by simp; omega); clear hSw; go_simp; try with_reducible rfl)
  try simp only [Act.put, List.setIfInBounds_toArray, List.set_cons_zero, List.set_cons_succ, List.getElem_toArray, List.getElem_cons_zero, List.getElem_cons_succ]
  have HS := Lib.hid hHeld
  have HM7 : Hid (HMap w6.drew mb 0 []) := Lib.hid (HM6.out.off ((Off.refl [] _).drewN 1) (by simp))
  generalize w6.drew = w7 at *
  refine wpAnyH_ready (rs := [6]) (by kernel_rfl) (by simp) (AllReadyH.cons rfl (fun K hK => ?_) AllReadyH.nil)
  clear hHeld
  obtain ⟨w8, hr8, hm8, hof8⟩ := hm_put HM7.out Tryz.underlying124 (by unfold maxLen; omega) HNM.out (.agg #[.slice (some ⟨g, 0, none⟩) n1 c1, .slice A2 n2 c2])
  have hNew : SOf [mb] w6 w8 := Lib.hid (HS.out.out.trans hof8)
  go_simp
  refine hK.out _ _ hNew (fun _ => ?_)
  clear hr8 hm8 hof8 HM7
  clear hK K
  have hHeld := hNew
  replace HS := Lib.hid hNew
  clear hNew
  try simp only [Act.put, List.setIfInBounds_toArray, List.set_cons_zero, List.set_cons_succ, List.getElem_toArray, List.getElem_cons_zero, List.getElem_cons_succ]
  have r0 := HS.out.out.cell R0.out (by simp; omega)
  have r1 := HS.out.out.cell R1.out (by simp; omega)
  have RT8 := Lib.hid (RT.out.off HS.out.out (by simp; omega))
  have p0 := HS.out.out.cell q0 (by simp; omega)
  have p1 := HS.out.out.cell q1 (by simp; omega)
  have HST8 := Lib.hid (HST6.out.off HS.out.out (by have := HG.out; simp; omega))
  have HNF8 := Lib.hid (NodesFrom.off HNF6.out HS.out.out (by have := HG.out; simp; omega))
  have HO8 : Hid (Off [cb, pb, mb] w w8) := Lib.hid (HO6.out.trans (HS.out.out.more (by simp)))
  have f0 := RT8.out.frozen 0
  have f1 := RT8.out.frozen 1
  clear q0 q1 v2 R0 R1 RT HST6 HNF6 HO6 HS HV6 HM6
  refine wpAnyH_done (by kernel_rfl) ?_ _
  try dsimp only
  go_wp2_with fail
  have y0 : ((w8.setCell ⟨w.heap.size, 0, none⟩ (.slice (some ⟨g, 0, none⟩) n1 c1)).setCell ⟨w.heap.size, 1, none⟩ (.slice A2 n2 c2)).cell? ⟨w.heap.size, 0, none⟩ = some (.slice (some ⟨g, 0, none⟩) n1 c1) := cell_other (cell_same r0) (by simp)
  have y1 : ((w8.setCell ⟨w.heap.size, 0, none⟩ (.slice (some ⟨g, 0, none⟩) n1 c1)).setCell ⟨w.heap.size, 1, none⟩ (.slice A2 n2 c2)).cell? ⟨w.heap.size, 1, none⟩ = some (.slice A2 n2 c2) := cell_same (cell_other r1 (by simp))
  have hof : Off [w.heap.size] w8 ((w8.setCell ⟨w.heap.size, 0, none⟩ (.slice (some ⟨g, 0, none⟩) n1 c1)).setCell ⟨w.heap.size, 1, none⟩ (.slice A2 n2 c2)) := ((Off.refl _ _).setCell _ _ (by simp)).setCell _ _ (by simp)
  refine bodyPost_ret (v := .tuple #[.agg #[.slice (some ⟨g, 0, none⟩) n1 c1, .slice A2 n2 c2], .nilIface]) (by simp [results, Tryz.results55, go_sem, y0, y1]) rfl ?_
  refine ⟨⟨g, n1, c1, A2, n2, c2, rfl, HNC.out.1, HNC.out.2.1, HNC.out.2.2, HST8.out.off hof (by have := HG.out; simp; omega), (NodesFrom.off HNF8.out hof (by have := HG.out; simp; omega)).all⟩, ?_⟩
  exact ⟨hof.os.trans HO8.out.os, hof.tape.trans HO8.out.tape, hof.output.trans HO8.out.output, Nat.le_trans HO8.out.size hof.size, fun k hk hl => (hof.block k (Nat.lt_of_lt_of_le hk HO8.out.size) (by simp; omega)).trans (HO8.out.block k hk hl)⟩
end Go.Proofs.YtplaohmdllindaaGreatDoor

/- linguisterref1.TagFault. -/
namespace Go.Proofs.YtplaohmdllindaaGreatDoor
open Go.RowKit

end Go.Proofs.YtplaohmdllindaaGreatDoor

/- linguisterref1.TagOf of any text: what its ways share. -/
namespace Go.Proofs.YtplaohmdllindaaGreatDoor
open Go.RowKit

end Go.Proofs.YtplaohmdllindaaGreatDoor

/- linguisterref1.TagOf: way 0. -/
namespace Go.Proofs.YtplaohmdllindaaGreatDoor
open Go.RowKit

end Go.Proofs.YtplaohmdllindaaGreatDoor

/- linguisterref1.TagOf: way 1. -/
namespace Go.Proofs.YtplaohmdllindaaGreatDoor
open Go.RowKit

end Go.Proofs.YtplaohmdllindaaGreatDoor

/- linguisterref1.TagOf: way 2. -/
namespace Go.Proofs.YtplaohmdllindaaGreatDoor
open Go.RowKit

end Go.Proofs.YtplaohmdllindaaGreatDoor

/- linguisterref1.TagOf: way 3. -/
namespace Go.Proofs.YtplaohmdllindaaGreatDoor
open Go.RowKit

end Go.Proofs.YtplaohmdllindaaGreatDoor

/- linguisterref1.TagOf: way 4. -/
namespace Go.Proofs.YtplaohmdllindaaGreatDoor
open Go.RowKit

end Go.Proofs.YtplaohmdllindaaGreatDoor

/- linguisterref1.TagOf: way 5. -/
namespace Go.Proofs.YtplaohmdllindaaGreatDoor
open Go.RowKit

end Go.Proofs.YtplaohmdllindaaGreatDoor

/- linguisterref1.TagOf: way 6. -/
namespace Go.Proofs.YtplaohmdllindaaGreatDoor
open Go.RowKit

end Go.Proofs.YtplaohmdllindaaGreatDoor

/- linguisterref1.TagOf: way 7. -/
namespace Go.Proofs.YtplaohmdllindaaGreatDoor
open Go.RowKit

end Go.Proofs.YtplaohmdllindaaGreatDoor

/- linguisterref1.TagOf of any text; linguisterref2.TagFault. -/
namespace Go.Proofs.YtplaohmdllindaaGreatDoor
open Go.RowKit

end Go.Proofs.YtplaohmdllindaaGreatDoor

/- linguisterref2.BundleFault. -/
namespace Go.Proofs.YtplaohmdllindaaGreatDoor
open Go.RowKit

end Go.Proofs.YtplaohmdllindaaGreatDoor

/- linguisterref2.LoadFault. -/
namespace Go.Proofs.YtplaohmdllindaaGreatDoor
open Go.RowKit

theorem loadErr_step (l : List BunC) (k : Nat) (b : BunC) (h : l[k]? = some b) : loadErr ((l.take k).map (·.tag)) (l.drop k) = if b.err = 0 then (if memB ((l.take k).map (·.tag)) b.tag = true then 5 else loadErr ((l.take (k + 1)).map (·.tag)) (l.drop (k + 1))) else b.err := by
  obtain ⟨hk, rfl⟩ := List.getElem?_eq_some_iff.1 h
  rw [List.drop_eq_getElem_cons hk, loadErr, List.take_succ_eq_append_getElem hk, List.map_append]
  rfl
end Go.Proofs.YtplaohmdllindaaGreatDoor
