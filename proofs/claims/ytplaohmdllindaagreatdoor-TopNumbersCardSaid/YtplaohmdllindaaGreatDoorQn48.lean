/- StoreLoad1: texts put together. -/
import Derived.Test.YtplaohmdllindaaGreatDoorQn41
import Derived.Test.YtplaohmdllindaaGreatDoorQn46
import Derived.Deep.RegionHeld
import Derived.Deep.DeepCutAuto
import Derived.StillTailTactics
import Derived.Test.YtplaohmdllindaaGreatDoorQn1
set_option linter.unusedVariables false
set_option linter.unusedSimpArgs false
/- store.Load of one bundle. -/
namespace Go.Proofs.YtplaohmdllindaaGreatDoor
open Go.RowKit Go.Maps
attribute [local go_sem ↓] Go.wp_at_zero Go.wp_at_succ
variable {w w' : World} {B sb mb N : Nat} {S : List Nat} {vb hd : Nat → Nat}

abbrev SOf (L : List Nat) (w0 W : World) : Prop := Hid (Off L w0 W)
theorem zero_mapS (w : World) : (zeroValue 200).run Tryz.prog w = .ok (.map none) w := by kernel_rfl
theorem neq_map (w : World) : (binOp .neq 200 (.map none) (.map none)).run Tryz.prog w = .ok (.bool false) w := by kernel_rfl
/-- a version that is being made -/
structure VerAt (w : World) (m v : Nat) : Prop where
  c0 : w.cell? ⟨v, 0, none⟩ = some (.map (some m))
  c1 : w.cell? ⟨v, 1, none⟩ = some (.int .i64 0)
  fz : w.frozen? ⟨v, 1, none⟩ = false
theorem VerAt.off {w w' : World} {m v : Nat} {L : List Nat} (h : VerAt w m v) (hf : Off L w w') (hn : v ∉ L) : VerAt w' m v :=
  ⟨hf.cell h.c0 hn, hf.cell h.c1 hn, (hf.frozen (lt_of_cell h.c0) hn).trans h.fz⟩
theorem VerAt.below {w w' : World} {m v : Nat} (h : VerAt w m v) (hb : Below w.heap.size w w') : VerAt w' m v := h.off ((Off.refl [] w).below hb (Nat.le_refl _)) (by simp)

set_option maxHeartbeats 8000000 in
set_option maxRecDepth 100000 in
theorem store_load1 (l : List BunC) (x : BunC) (A : Option Addr) (c : Nat) (w : World) (hM : MaxL w) (h : StoreAt w B sb mb N S vb hd) (hN : N ≤ 19) (hB : B ≤ w.heap.size) (hh : ∀ i ∈ S, hd i ≠ 0)
    (hl1 : l.length = 1) (hx : l[0]? = some x) (hL : BunsIn w A l) (hc : l.length ≤ c) (hc2 : c ≤ 9223372036854775807) (hok : x.err = 0) (hsm : x.small) (hone : One x.tag) :
    Calls Tryz.prog 52 #[.pointer (some ⟨sb, 0, none⟩), .slice A l.length c] w fun e w' => e = .returned (.tuple #[.int .i64 ((N : Int) + 1), .nilIface]) ∧ Off [sb, mb] w w' := by
  have hmm := @run_makeMap Tryz.prog
  obtain ⟨hsb, hmb⟩ := h.lt
  have HH := Lib.hid h
  have HHH := Lib.hid hh
  obtain ⟨es, hown, hE⟩ := h.own
  have HE := Lib.hid hE
  have HOWN := Lib.hid hown
  have HVN := Lib.hid (h.more (b := w.heap.size + 1) (by omega) hown).2
  have c0 := h.c0
  have c1 := h.c1
  have f0 := h.f0
  have hne : sb ≠ mb := h.base.2.2
  have HL := Lib.hid hL
  have HM := Lib.hid hM
  have HOK := Lib.hid hok
  have HSM := Lib.hid hsm
  have HONE := Lib.hid hone
  have HX := Lib.hid hx
  have j20 : ¬ (20 : Int) < (l.length : Int) := by omega
  clear h hh hown hE hL hM hok hsm hx hone
  go_enter Tryz.func52, Tryz.ntmps52
  go_wp2_with fail
  obtain ⟨wa, hwa⟩ : ∃ wa, wa = (w.alloc (.map #[] 0)).alloc (.cells #[.map (some w.heap.size), .int .i64 0] 198) := ⟨_, rfl⟩
  have hba : Below w.heap.size w wa := by rw [hwa]; exact ((Below.refl _ _).alloc (Nat.le_refl _) _).alloc (by simp) _
  have hva : VerAt wa w.heap.size (w.heap.size + 1) := by rw [hwa]; exact ⟨by go_simp, by go_simp, by go_simp⟩
  have hma : HMap wa w.heap.size 0 [] := by rw [hwa]; exact (hm_made w).below belx
  have hsa : wa.heap.size = w.heap.size + 2 := by rw [hwa]; simp
  rw [← hwa]
  have HBA := Lib.hid hba
  have HVA := Lib.hid hva
  have HMA := Lib.hid hma
  have HSA := Lib.hid hsa
  clear hba hwa c0 c1 f0 hva hma hsa
  go_loopw [21] (fun i wr => ∃ k : Nat, k ≤ l.length ∧ i = .int .i64 k ∧ Hid (k = 0 → HMap wr w.heap.size 0 []) ∧ Hid (VerAt wr w.heap.size (w.heap.size + 1)) ∧ Hid (Below w.heap.size w wr)) (fun i _ => l.length - (intOf i).toNat)
  case atStart => exact ⟨0, Nat.zero_le _, rfl, Lib.hid (fun _ => HMA.out), HVA, HBA⟩
  case round =>
    rename World => wo
    obtain ⟨k, hk, rfl, HMk, HVk, HBk⟩ := hrel
    have sk := HBk.out.size
    have q1 := lt_of_cell HVk.out.c0
    by_cases hlt : k < l.length
    · have HK0 : Hid (k = 0) := Lib.hid (by omega)
      have HMP : Hid (HMap wo w.heap.size 0 []) := Lib.hid (HMk.out HK0.out)
      obtain ⟨b, o, rfl, hat⟩ := HL.out.at (by omega)
      obtain ⟨Ae, ce, n0, n1, hfi⟩ := hat k x (by rw [HK0.out]; exact HX.out)
      obtain ⟨hEs, hce, hce2, hA0⟩ := hfi
      replace n0 := carry HBk.out n0
      replace n1 := carry HBk.out n1
      obtain ⟨tg, es'⟩ := x
      simp only at n0 n1 hEs hce
      have i0 : (0 : Int) ≤ (k : Int) := by omega
      have i1 : (k : Int) < (l.length : Int) := by omega
      have i2 : (k : Int) ≤ (c : Int) := by omega
      have e1 : IntKind.i64.wrap ((k : Int) + 1) = (k : Int) + 1 := IntWalk.i64_in _ (by omega)
      have KC := Lib.hid (fun W (hb : Below wo.heap.size wo W) => prop_check1 ⟨tg, es'⟩ Ae ce W (HM.out.below (HBk.out.trans (hb.mono sk))) ⟨hEs.below (HBk.out.trans (hb.mono sk)), hce, hce2, hA0⟩ HSM.out HONE.out)
      rw [HOK.out, show errOf 0 = Value.nilIface from if_pos rfl] at KC
      have hbS : Below wo.heap.size wo (wo.alloc (.cells #[.string tg, .slice Ae es'.length ce] 64)) := belx
      have HBS := Lib.hid hbS
      have HES := Lib.hid hEs
      have htz : tg.size ≤ maxLen := by have := HSM.out.1; simp only at this; unfold maxLen; omega
      have HTZ := Lib.hid htz
      have HEZ : Hid (es'.length ≤ 1048576 ∧ ∀ e ∈ es', e.key.size ≤ 1048576 ∧ e.text.size ≤ 1048576) := Lib.hid HSM.out.2
      have HCE := Lib.hid (And.intro hce hce2)
      clear hat hEs hA0 hbS htz HMk HSM HOK
      go_wp2_with fail
      refine (KC.out _ HBS.out).mono ?_
      rintro e w2 ⟨rfl, hb2⟩
      have hb2w : Below wo.heap.size wo w2 := HBS.out.trans (hb2.mono HBS.out.size)
      have p0 : w2.cell? ⟨wo.heap.size, 0, none⟩ = some (.string tg) := carry hb2 (by go_simp)
      have p1 : w2.cell? ⟨wo.heap.size, 1, none⟩ = some (.slice Ae es'.length ce) := carry hb2 (by go_simp)
      have HV2 := Lib.hid (HVk.out.below hb2w)
      have HM2 := Lib.hid (HMP.out.below hb2w)
      have HB2 := Lib.hid (HBk.out.trans (hb2w.mono sk))
      have HS2 : Hid (wo.heap.size < w2.heap.size) := Lib.hid (lt_of_cell p0)
      have v0 := HV2.out.c0
      clear hb2 hb2w n0 n1 HVk HMP KC
      go_upto_region 10 with fail
      refine wp_region_held_drew (S := SOf [] w2) (by kernel_rfl) ?_ (fun hHeld => ?_)
      · exact Lib.hid ((Off.refl _ _).drewN 1)
      refine wpAnyH_take (i := 0) (v := ?tv1) rfl (by kernel_rfl) (by kernel_rfl) (by kernel_rfl) (fun _ _ _ h => h) (Or.inl ⟨rfl, ?ty1⟩) hHeld ?tr1
      case ty1 => (intro wS hSw; have u0 := hSw.out.cell v0 (by simp); have u1 := hSw.out.cell p0 (by simp); clear hSw; go_simp; try with_reducible rfl)
      try simp only [Act.put, List.setIfInBounds_toArray, List.set_cons_zero, List.set_cons_succ, List.getElem_toArray, List.getElem_cons_zero, List.getElem_cons_succ]
      refine wpAnyH_take (i := 1) (v := ?tv2) rfl (by kernel_rfl) (by kernel_rfl) (by kernel_rfl) (fun _ _ _ h => h) (Or.inl ⟨rfl, ?ty2⟩) hHeld ?tr2
      case ty2 => (intro wS hSw; have u0 := hSw.out.cell v0 (by simp); have u1 := hSw.out.cell p0 (by simp); clear hSw; go_simp; try with_reducible rfl)
      try simp only [Act.put, List.setIfInBounds_toArray, List.set_cons_zero, List.set_cons_succ, List.getElem_toArray, List.getElem_cons_zero, List.getElem_cons_succ]
      refine wpAnyH_take (i := 2) (v := ?tv3) rfl (by kernel_rfl) (by kernel_rfl) (by kernel_rfl) (fun _ _ _ h => h) (Or.inl ⟨rfl, ?ty3⟩) hHeld ?tr3
      case ty3 => (intro wS hSw; have u0 := hSw.out.cell v0 (by simp); have u1 := hSw.out.cell p0 (by simp); clear hSw; go_simp; try with_reducible rfl)
      try simp only [Act.put, List.setIfInBounds_toArray, List.set_cons_zero, List.set_cons_succ, List.getElem_toArray, List.getElem_cons_zero, List.getElem_cons_succ]
      refine wpAnyH_take (i := 3) (v := ?tv4) rfl (by kernel_rfl) (by kernel_rfl) (by kernel_rfl) (fun _ _ _ h => h) (Or.inl ⟨rfl, ?ty4⟩) hHeld ?tr4
      case ty4 => (intro wS hSw; have u0 := hSw.out.cell v0 (by simp); have u1 := hSw.out.cell p0 (by simp); clear hSw; go_simp; try with_reducible rfl)
      try simp only [Act.put, List.setIfInBounds_toArray, List.set_cons_zero, List.set_cons_succ, List.getElem_toArray, List.getElem_cons_zero, List.getElem_cons_succ]
      refine wpAnyH_take (i := 4) (v := ?tv5) rfl (by kernel_rfl) (by kernel_rfl) (by kernel_rfl) (fun _ _ _ h => h) (Or.inl ⟨rfl, ?ty5⟩) hHeld ?tr5
      case ty5 => (intro wS hSw; have u0 := hSw.out.cell v0 (by simp); have u1 := hSw.out.cell p0 (by simp); clear hSw; go_simp; try with_reducible rfl)
      try simp only [Act.put, List.setIfInBounds_toArray, List.set_cons_zero, List.set_cons_succ, List.getElem_toArray, List.getElem_cons_zero, List.getElem_cons_succ]
      refine wpAnyH_take (i := 5) (v := ?tv6) rfl (by kernel_rfl) (by kernel_rfl) (by kernel_rfl) (fun _ _ _ h => h) (Or.inl ⟨rfl, ?ty6⟩) hHeld ?tr6
      case ty6 => (intro wS hSw; have u0 := hSw.out.cell v0 (by simp); have u1 := hSw.out.cell p0 (by simp); clear hSw; go_simp; try with_reducible rfl)
      try simp only [Act.put, List.setIfInBounds_toArray, List.set_cons_zero, List.set_cons_succ, List.getElem_toArray, List.getElem_cons_zero, List.getElem_cons_succ]
      refine wpAnyH_take (i := 6) (v := ?tv7) rfl (by kernel_rfl) (by kernel_rfl) (by kernel_rfl) (fun _ _ _ h => h) (Or.inl ⟨rfl, ?ty7⟩) hHeld ?tr7
      case ty7 => (intro wS hSw; have u2 := hm_none1 (e := 200) (HM2.out.off hSw.out (by simp)) Tryz.underlying196 (zero_mapS _) HTZ.out (show hlook [] tg.data.toList = none from rfl); clear hSw; go_simp; try with_reducible rfl)
      try simp only [Act.put, List.setIfInBounds_toArray, List.set_cons_zero, List.set_cons_succ, List.getElem_toArray, List.getElem_cons_zero, List.getElem_cons_succ]
      refine wpAnyH_take (i := 7) (v := ?tv8) rfl (by kernel_rfl) (by kernel_rfl) (by kernel_rfl) (fun _ _ _ h => h) (Or.inl ⟨rfl, ?ty8⟩) hHeld ?tr8
      case ty8 => (intro wS hSw; clear hSw; have u3 := neq_map wS; go_simp; try with_reducible rfl)
      try simp only [Act.put, List.setIfInBounds_toArray, List.set_cons_zero, List.set_cons_succ, List.getElem_toArray, List.getElem_cons_zero, List.getElem_cons_succ]
      have HS := Lib.hid hHeld
      have p0' := hHeld.out.cell p0 (by simp)
      have p1' := hHeld.out.cell p1 (by simp)
      have HV3 := Lib.hid (HV2.out.off hHeld.out (by simp))
      have HM3 := Lib.hid (HM2.out.off hHeld.out (by simp))
      have HB3 := Lib.hid (HB2.out.trans (hHeld.out.toBelow (B := w.heap.size) (by simp) HB2.out.size))
      have HS3 : Hid (wo.heap.size < w2.drew.heap.size) := Lib.hid (by have := HS2.out; simpa using this)
      generalize w2.drew = w3 at *
      refine wpAnyH_done (by kernel_rfl) ?_ _
      try dsimp only
      clear p0 p1 v0 HV2 HM2 HB2 HS2 HS
      have v0 := HV3.out.c0
      go_upto_region 12 with fail
      refine wp_region_held_drew (S := SOf [w.heap.size] w3) (by kernel_rfl) ?_ (fun hHeld => ?_)
      · exact Lib.hid ((Off.refl _ _).drewN 1)
      refine wpAnyH_take (i := 0) (v := ?tv9) rfl (by kernel_rfl) (by kernel_rfl) (by kernel_rfl) (fun _ _ _ h => h) (Or.inl ⟨rfl, ?ty9⟩) hHeld ?tr9
      case ty9 => (intro wS hSw; have u0 := hSw.out.cell v0 (by simp); have u1 := hSw.out.cell p0' (by simp; omega); clear hSw; go_simp; try with_reducible rfl)
      try simp only [Act.put, List.setIfInBounds_toArray, List.set_cons_zero, List.set_cons_succ, List.getElem_toArray, List.getElem_cons_zero, List.getElem_cons_succ]
      refine wpAnyH_take (i := 1) (v := ?tv10) rfl (by kernel_rfl) (by kernel_rfl) (by kernel_rfl) (fun _ _ _ h => h) (Or.inl ⟨rfl, ?ty10⟩) hHeld ?tr10
      case ty10 => (intro wS hSw; have u0 := hSw.out.cell v0 (by simp); have u1 := hSw.out.cell p0' (by simp; omega); clear hSw; go_simp; try with_reducible rfl)
      try simp only [Act.put, List.setIfInBounds_toArray, List.set_cons_zero, List.set_cons_succ, List.getElem_toArray, List.getElem_cons_zero, List.getElem_cons_succ]
      refine wpAnyH_take (i := 2) (v := ?tv11) rfl (by kernel_rfl) (by kernel_rfl) (by kernel_rfl) (fun _ _ _ h => h) (Or.inl ⟨rfl, ?ty11⟩) hHeld ?tr11
      case ty11 => (intro wS hSw; have u0 := hSw.out.cell v0 (by simp); have u1 := hSw.out.cell p0' (by simp; omega); clear hSw; go_simp; try with_reducible rfl)
      try simp only [Act.put, List.setIfInBounds_toArray, List.set_cons_zero, List.set_cons_succ, List.getElem_toArray, List.getElem_cons_zero, List.getElem_cons_succ]
      refine wpAnyH_take (i := 3) (v := ?tv12) rfl (by kernel_rfl) (by kernel_rfl) (by kernel_rfl) (fun _ _ _ h => h) (Or.inl ⟨rfl, ?ty12⟩) hHeld ?tr12
      case ty12 => (intro wS hSw; have u0 := hSw.out.cell v0 (by simp); have u1 := hSw.out.cell p0' (by simp; omega); clear hSw; go_simp; try with_reducible rfl)
      try simp only [Act.put, List.setIfInBounds_toArray, List.set_cons_zero, List.set_cons_succ, List.getElem_toArray, List.getElem_cons_zero, List.getElem_cons_succ]
      refine wpAnyH_take (i := 4) (v := ?tv13) rfl (by kernel_rfl) (by kernel_rfl) (by kernel_rfl) (fun _ _ _ h => h) (Or.inl ⟨rfl, ?ty13⟩) hHeld ?tr13
      case ty13 => (intro wS hSw; have u0 := hSw.out.cell v0 (by simp); have u1 := hSw.out.cell p0' (by simp; omega); clear hSw; go_simp; try with_reducible rfl)
      try simp only [Act.put, List.setIfInBounds_toArray, List.set_cons_zero, List.set_cons_succ, List.getElem_toArray, List.getElem_cons_zero, List.getElem_cons_succ]
      refine wpAnyH_take (i := 5) (v := ?tv14) rfl (by kernel_rfl) (by kernel_rfl) (by kernel_rfl) (fun _ _ _ h => h) (Or.inl ⟨rfl, ?ty14⟩) hHeld ?tr14
      case ty14 => (intro wS hSw; have u0 := hSw.out.cell v0 (by simp); have u1 := hSw.out.cell p0' (by simp; omega); clear hSw; go_simp; try with_reducible rfl)
      try simp only [Act.put, List.setIfInBounds_toArray, List.set_cons_zero, List.set_cons_succ, List.getElem_toArray, List.getElem_cons_zero, List.getElem_cons_succ]
      have HS := Lib.hid hHeld
      obtain ⟨w4, hw4⟩ : ∃ w4, w4 = w3.drew := ⟨_, rfl⟩
      have HM4 : Hid (HMap w4 w.heap.size 0 []) := Lib.hid (by rw [hw4]; exact HM3.out.off ((Off.refl [] _).drewN 1) (by simp))
      rw [← hw4] at hHeld HS ⊢
      clear hw4
      refine wpAnyH_ready (rs := [6]) (by kernel_rfl) (by simp) (AllReadyH.cons rfl (fun K hK => ?_) AllReadyH.nil)
      clear hHeld
      obtain ⟨m2, hm2⟩ : ∃ m2, m2 = w4.heap.size := ⟨_, rfl⟩
      obtain ⟨w5, hw5⟩ : ∃ w5, w5 = w4.alloc (.map #[] 0) := ⟨_, rfl⟩
      have hst : Below w4.heap.size w4 w5 := by rw [hw5]; exact belx
      have hNew : SOf [w.heap.size] w3 w5 := Lib.hid (HS.out.out.below hst HS.out.out.size)
      have HMM : Hid (HMap w5 m2 0 []) := Lib.hid (by rw [hw5, hm2]; exact hm_made w4)
      have HMS : Hid (w3.heap.size ≤ m2) := Lib.hid (by rw [hm2]; exact HS.out.out.size)
      have HM5 := Lib.hid (HM4.out.below hst)
      go_simp
      rw [← hw5, ← hm2]
      refine hK.out _ _ hNew (fun _ => ?_)
      clear hw5 hst hm2
      clear hK K
      have hHeld := hNew
      replace HS := Lib.hid hNew
      clear hNew
      try simp only [Act.put, List.setIfInBounds_toArray, List.set_cons_zero, List.set_cons_succ, List.getElem_toArray, List.getElem_cons_zero, List.getElem_cons_succ]
      refine wpAnyH_ready (rs := [7]) (by kernel_rfl) (by simp) (AllReadyH.cons rfl (fun K hK => ?_) AllReadyH.nil)
      clear hHeld
      obtain ⟨w6, hr6, hm6, hof6⟩ := hm_put HM5.out Tryz.underlying196 (by unfold maxLen; omega) HTZ.out (.map (some m2))
      have HMM6 := Lib.hid (HMM.out.off hof6 (by have := HMS.out; have := HB3.out.size; have := HS3.out; simp; omega))
      have HM6 := Lib.hid hm6
      have hNew : SOf [w.heap.size] w3 w6 := Lib.hid (HS.out.out.trans hof6)
      go_simp
      refine hK.out _ _ hNew (fun _ => ?_)
      clear hr6 hm6 hof6 HMM HM5 HM4 HM3
      clear hK K
      have hHeld := hNew
      replace HS := Lib.hid hNew
      clear hNew
      try simp only [Act.put, List.setIfInBounds_toArray, List.set_cons_zero, List.set_cons_succ, List.getElem_toArray, List.getElem_cons_zero, List.getElem_cons_succ]
      have p0b := HS.out.out.cell p0' (by simp; omega)
      have p1b := HS.out.out.cell p1' (by simp; omega)
      have HV6 := Lib.hid (HV3.out.off HS.out.out (by simp))
      have HB6 := Lib.hid (HB3.out.trans (HS.out.out.toBelow (B := w.heap.size) (by simp) HB3.out.size))
      have hs6 := HS.out.out.size
      clear p0' p1' HV3 HS v0
      refine wpAnyH_done (by kernel_rfl) ?_ _
      try dsimp only
      have HMB : Hid (HMap w6 w.heap.size 1 [(tg.data.toList, .map (some m2))]) := Lib.hid HM6.out
      have HMS6 : Hid (wo.heap.size < m2) := Lib.hid (by have := HMS.out; have := HS3.out; omega)
      clear HM6 HS3 HMS
      go_wp2_with fail
      go_loopw [49] (fun i wi => ∃ j : Nat, j ≤ es'.length ∧ i = .int .i64 j ∧ Hid (HMap wi w.heap.size 1 [(tg.data.toList, .map (some m2))]) ∧ Hid (∃ l', HMap wi m2 j l') ∧ Hid (VerAt wi w.heap.size (w.heap.size + 1)) ∧ Hid (wi.cell? ⟨wo.heap.size, 0, none⟩ = some (.string tg)) ∧ Hid (Below w.heap.size w wi)) (fun i _ => es'.length - (intOf i).toNat)
      case atStart => exact ⟨0, Nat.zero_le _, rfl, HMB, Lib.hid ⟨_, HMM6.out⟩, HV6, Lib.hid p0b, HB6⟩
      case round =>
        rename World => wi
        obtain ⟨j, hj, rfl, HMi, HNi, HVi, HPi, HBi⟩ := hrel
        have si := HBi.out.size
        by_cases hjt : j < es'.length
        · obtain ⟨bE, oE, rfl, hatE⟩ := (HES.out.below HBi.out).at (by omega)
          obtain ⟨en, hen⟩ : ∃ en, es'[j]? = some en := ⟨es'[j], List.getElem?_eq_getElem hjt⟩
          obtain ⟨n0, n1⟩ := hatE j en hen
          obtain ⟨xz1, xz2⟩ := HEZ.out.2 en (List.mem_of_getElem? hen)
          have hj9 := HEZ.out.1
          have j0 : (0 : Int) ≤ (j : Int) := by omega
          have j1 : (j : Int) < (es'.length : Int) := by omega
          have j2 : (j : Int) ≤ (ce : Int) := by have := HCE.out.1; omega
          have e2 : IntKind.i64.wrap ((j : Int) + 1) = (j : Int) + 1 := IntWalk.i64_in _ (by omega)
          have hkz : en.key.size ≤ maxLen := by unfold maxLen; omega
          have HKZ := Lib.hid hkz
          obtain ⟨w7, hw7⟩ : ∃ w7, w7 = wi.alloc (.cells #[.string en.key, .string en.text] 61) := ⟨_, rfl⟩
          have hb7 : Below wi.heap.size wi w7 := by rw [hw7]; exact belx
          have g0 : w7.cell? ⟨wi.heap.size, 0, none⟩ = some (.string en.key) := by rw [hw7]; go_simp
          have g1 : w7.cell? ⟨wi.heap.size, 1, none⟩ = some (.string en.text) := by rw [hw7]; go_simp
          have v0 := carry hb7 HVi.out.c0
          have p0 := carry hb7 HPi.out
          have HM7 := Lib.hid (HMi.out.below hb7)
          have HV7 := Lib.hid (HVi.out.below hb7)
          have HB7 := Lib.hid (HBi.out.trans (hb7.mono si))
          obtain ⟨l', hl'⟩ := HNi.out
          have HN7 := Lib.hid (hl'.below hb7)
          have hm2i : m2 < wi.heap.size := hl'.lt
          have HW7 := Lib.hid hw7
          have HR := HMS6.out
          clear hb7 hl' hw7 hatE hen HMi HNi HVi HPi HBi hkz hj9
          go_upto_region 16 with fail
          rw [← HW7.out]
          clear HW7 n0 n1
          refine wp_region_held_drew (S := SOf [m2] w7) (by kernel_rfl) ?_ (fun hHeld => ?_)
          · exact Lib.hid ((Off.refl _ _).drewN 1)
          refine wpAnyH_take (i := 0) (v := ?tv15) rfl (by kernel_rfl) (by kernel_rfl) (by kernel_rfl) (fun _ _ _ h => h) (Or.inl ⟨rfl, ?ty15⟩) hHeld ?tr15
          case ty15 => (intro wS hSw; have u0 := hSw.out.cell v0 (by simp; omega); have u1 := hSw.out.cell p0 (by simp; omega); clear hSw; go_simp; try with_reducible rfl)
          try simp only [Act.put, List.setIfInBounds_toArray, List.set_cons_zero, List.set_cons_succ, List.getElem_toArray, List.getElem_cons_zero, List.getElem_cons_succ]
          refine wpAnyH_take (i := 1) (v := ?tv16) rfl (by kernel_rfl) (by kernel_rfl) (by kernel_rfl) (fun _ _ _ h => h) (Or.inl ⟨rfl, ?ty16⟩) hHeld ?tr16
          case ty16 => (intro wS hSw; have u0 := hSw.out.cell v0 (by simp; omega); have u1 := hSw.out.cell p0 (by simp; omega); clear hSw; go_simp; try with_reducible rfl)
          try simp only [Act.put, List.setIfInBounds_toArray, List.set_cons_zero, List.set_cons_succ, List.getElem_toArray, List.getElem_cons_zero, List.getElem_cons_succ]
          refine wpAnyH_take (i := 2) (v := ?tv17) rfl (by kernel_rfl) (by kernel_rfl) (by kernel_rfl) (fun _ _ _ h => h) (Or.inl ⟨rfl, ?ty17⟩) hHeld ?tr17
          case ty17 => (intro wS hSw; have u0 := hSw.out.cell v0 (by simp; omega); have u1 := hSw.out.cell p0 (by simp; omega); clear hSw; go_simp; try with_reducible rfl)
          try simp only [Act.put, List.setIfInBounds_toArray, List.set_cons_zero, List.set_cons_succ, List.getElem_toArray, List.getElem_cons_zero, List.getElem_cons_succ]
          refine wpAnyH_take (i := 3) (v := ?tv18) rfl (by kernel_rfl) (by kernel_rfl) (by kernel_rfl) (fun _ _ _ h => h) (Or.inl ⟨rfl, ?ty18⟩) hHeld ?tr18
          case ty18 => (intro wS hSw; have u0 := hSw.out.cell v0 (by simp; omega); have u1 := hSw.out.cell p0 (by simp; omega); clear hSw; go_simp; try with_reducible rfl)
          try simp only [Act.put, List.setIfInBounds_toArray, List.set_cons_zero, List.set_cons_succ, List.getElem_toArray, List.getElem_cons_zero, List.getElem_cons_succ]
          refine wpAnyH_take (i := 4) (v := ?tv19) rfl (by kernel_rfl) (by kernel_rfl) (by kernel_rfl) (fun _ _ _ h => h) (Or.inl ⟨rfl, ?ty19⟩) hHeld ?tr19
          case ty19 => (intro wS hSw; have u0 := hSw.out.cell v0 (by simp; omega); have u1 := hSw.out.cell p0 (by simp; omega); clear hSw; go_simp; try with_reducible rfl)
          try simp only [Act.put, List.setIfInBounds_toArray, List.set_cons_zero, List.set_cons_succ, List.getElem_toArray, List.getElem_cons_zero, List.getElem_cons_succ]
          refine wpAnyH_take (i := 5) (v := ?tv20) rfl (by kernel_rfl) (by kernel_rfl) (by kernel_rfl) (fun _ _ _ h => h) (Or.inl ⟨rfl, ?ty20⟩) hHeld ?tr20
          case ty20 => (intro wS hSw; have u0 := hSw.out.cell v0 (by simp; omega); have u1 := hSw.out.cell p0 (by simp; omega); clear hSw; go_simp; try with_reducible rfl)
          try simp only [Act.put, List.setIfInBounds_toArray, List.set_cons_zero, List.set_cons_succ, List.getElem_toArray, List.getElem_cons_zero, List.getElem_cons_succ]
          refine wpAnyH_take (i := 6) (v := ?tv21) rfl (by kernel_rfl) (by kernel_rfl) (by kernel_rfl) (fun _ _ _ h => h) (Or.inl ⟨rfl, ?ty21⟩) hHeld ?tr21
          case ty21 => (intro wS hSw; have u2 := hm_some1 (e := 200) (HM7.out.off hSw.out (by simp; omega)) Tryz.underlying196 (zero_mapS _) HTZ.out (by simp) (show hlook [(tg.data.toList, Value.map (some m2))] tg.data.toList = some (.map (some m2)) from by simp [hlook]); clear hSw; go_simp; try with_reducible rfl)
          try simp only [Act.put, List.setIfInBounds_toArray, List.set_cons_zero, List.set_cons_succ, List.getElem_toArray, List.getElem_cons_zero, List.getElem_cons_succ]
          refine wpAnyH_take (i := 7) (v := ?tv22) rfl (by kernel_rfl) (by kernel_rfl) (by kernel_rfl) (fun _ _ _ h => h) (Or.inl ⟨rfl, ?ty22⟩) hHeld ?tr22
          case ty22 => (intro wS hSw; have u0 := hSw.out.cell g0 (by simp; omega); have u1 := hSw.out.cell g1 (by simp; omega); clear hSw; go_simp; try with_reducible rfl)
          try simp only [Act.put, List.setIfInBounds_toArray, List.set_cons_zero, List.set_cons_succ, List.getElem_toArray, List.getElem_cons_zero, List.getElem_cons_succ]
          refine wpAnyH_take (i := 8) (v := ?tv23) rfl (by kernel_rfl) (by kernel_rfl) (by kernel_rfl) (fun _ _ _ h => h) (Or.inl ⟨rfl, ?ty23⟩) hHeld ?tr23
          case ty23 => (intro wS hSw; have u0 := hSw.out.cell g0 (by simp; omega); have u1 := hSw.out.cell g1 (by simp; omega); clear hSw; go_simp; try with_reducible rfl)
          try simp only [Act.put, List.setIfInBounds_toArray, List.set_cons_zero, List.set_cons_succ, List.getElem_toArray, List.getElem_cons_zero, List.getElem_cons_succ]
          refine wpAnyH_take (i := 9) (v := ?tv24) rfl (by kernel_rfl) (by kernel_rfl) (by kernel_rfl) (fun _ _ _ h => h) (Or.inl ⟨rfl, ?ty24⟩) hHeld ?tr24
          case ty24 => (intro wS hSw; have u0 := hSw.out.cell g0 (by simp; omega); have u1 := hSw.out.cell g1 (by simp; omega); clear hSw; go_simp; try with_reducible rfl)
          try simp only [Act.put, List.setIfInBounds_toArray, List.set_cons_zero, List.set_cons_succ, List.getElem_toArray, List.getElem_cons_zero, List.getElem_cons_succ]
          refine wpAnyH_take (i := 10) (v := ?tv25) rfl (by kernel_rfl) (by kernel_rfl) (by kernel_rfl) (fun _ _ _ h => h) (Or.inl ⟨rfl, ?ty25⟩) hHeld ?tr25
          case ty25 => (intro wS hSw; have u0 := hSw.out.cell g0 (by simp; omega); have u1 := hSw.out.cell g1 (by simp; omega); clear hSw; go_simp; try with_reducible rfl)
          try simp only [Act.put, List.setIfInBounds_toArray, List.set_cons_zero, List.set_cons_succ, List.getElem_toArray, List.getElem_cons_zero, List.getElem_cons_succ]
          have HS := Lib.hid hHeld
          have HN8 : Hid (HMap w7.drew m2 j l') := Lib.hid (HN7.out.off ((Off.refl [] _).drewN 1) (by simp))
          generalize w7.drew = w8 at *
          refine wpAnyH_ready (rs := [11]) (by kernel_rfl) (by simp) (AllReadyH.cons rfl (fun K hK => ?_) AllReadyH.nil)
          clear hHeld
          obtain ⟨w9, hr9, hm9, hof9⟩ := hm_put HN8.out Tryz.underlying200 (by unfold maxLen; omega) HKZ.out (.string en.text)
          have HN9 : Hid (∃ l', HMap w9 m2 (j + 1) l') := Lib.hid ⟨_, hm9⟩
          have hNew : SOf [m2] w7 w9 := Lib.hid (HS.out.out.trans hof9)
          go_simp
          refine hK.out _ _ hNew (fun _ => ?_)
          clear hr9 hm9 hof9 HN8 HN7
          clear hK K
          have hHeld := hNew
          replace HS := Lib.hid hNew
          clear hNew
          try simp only [Act.put, List.setIfInBounds_toArray, List.set_cons_zero, List.set_cons_succ, List.getElem_toArray, List.getElem_cons_zero, List.getElem_cons_succ]
          have HPj := Lib.hid (HS.out.out.cell p0 (by simp; omega))
          have HVj := Lib.hid (HV7.out.off HS.out.out (by simp; omega))
          have HMj := Lib.hid (HM7.out.off HS.out.out (by simp; omega))
          have HBj := Lib.hid (HB7.out.trans (HS.out.out.toBelow (B := w.heap.size) (by simp; omega) HB7.out.size))
          clear p0 g0 g1 v0 HV7 HM7 HB7 HS
          refine wpAnyH_done (by kernel_rfl) ?_ _
          try dsimp only
          go_wp2_with fail
          go_roundw
          case rel => exact ⟨j + 1, by omega, by go_num, HMj, HN9, HVj, HPj, HBj⟩
          case measure => simp [intOf]; omega
        · obtain rfl : j = es'.length := by omega
          go_wp2_with fail
          go_roundw
          case rel => exact ⟨k + 1, by omega, by go_num, Lib.hid (fun h => absurd h (by omega)), HVi, HBi⟩
          case measure => simp [intOf]; omega
    · obtain rfl : k = l.length := by omega
      have a0 : wo.cell? ⟨sb, 0, none⟩ = some (.int .i64 N) := carry HBk.out HH.out.c0
      have a1 : wo.cell? ⟨sb, 1, none⟩ = some (.map (some mb)) := carry HBk.out HH.out.c1
      have af : wo.frozen? ⟨sb, 0, none⟩ = false := (Below.frozen HBk.out (p := ⟨sb, 0, none⟩) hsb).trans HH.out.f0
      have v1 := HVk.out.c1
      have vf := HVk.out.fz
      obtain ⟨wm, hwm⟩ : ∃ wm, wm = wo.setCell ⟨sb, 0, none⟩ (.int .i64 ((N : Int) + 1)) := ⟨_, rfl⟩
      have hofm : Off [sb] wo wm := by rw [hwm]; exact (Off.refl _ _).setCell _ _ (by simp)
      have m0 : wm.cell? ⟨sb, 0, none⟩ = some (.int .i64 ((N : Int) + 1)) := by rw [hwm]; exact cell_same a0
      have m1 : wm.cell? ⟨sb, 1, none⟩ = some (.map (some mb)) := by rw [hwm]; exact cell_other a1 (by simp)
      have mf : wm.frozen? ⟨sb, 0, none⟩ = false := by rw [hwm]; go_simp
      have mv1 := hofm.cell v1 (by simp; omega)
      have mvf := (hofm.frozen (o := 1) (lt_of_cell v1) (by simp; omega)).trans vf
      have HOM := Lib.hid hofm
      have HOW : Hid (wm.ownsMap Tryz.prog 3 (verE (vbSet vb (N + 1) (w.heap.size + 1)) (N + 1)) mb N (.map es)) := Lib.hid (HH.out.more (b := w.heap.size + 1) (by omega) (owns_block HOWN.out ((hofm.block mb (by have := HBk.out.size; omega) (by simp; omega)).trans (HBk.out.block mb hmb)))).1
      have HMQ := Lib.hid (And.intro m0 (And.intro m1 (And.intro mf (And.intro mv1 mvf))))
      have n1 : (N : Int) + 1 ≤ 1000 := by omega
      have n2 : (0 : Int) ≤ (N : Int) := by omega
      go_wp2_with fail
      rw [← hwm]
      clear hwm hofm a0 a1 af v1 vf
      have l0 : ({ heap := wm.heap, tape := wm.tape, drawn := wm.drawn + 1, os := wm.os, output := wm.output } : World).cell? ⟨sb, 0, none⟩ = some (.int .i64 ((N : Int) + 1)) := m0
      have l1 : ({ heap := wm.heap, tape := wm.tape, drawn := wm.drawn + 1, os := wm.os, output := wm.output } : World).cell? ⟨sb, 1, none⟩ = some (.map (some mb)) := m1
      go_still_tail 9, (by kernel_rfl)
      change wpList _ _ _ _ _ wm.drew
      have key1 : keyOf Tryz.prog 3 (.int .i64 ((N : Int) + 1)) = some (keyI (N + 1)) := by have := natKey (N + 1) (by omega); push_cast at this; exact this
      have HKEY := Lib.hid key1
      clear key1 l0 l1 m0 m1 mf mv1 mvf
      go_wp2_with (at_mapUpdate; refine wpList_mapUpdate_own _ rfl _ _ _ 192 rfl 3 195 (int_keyed Tryz.underlying3) Tryz.underlying192 (verE (vbSet vb (N + 1) (w.heap.size + 1)) (N + 1)) mb N (.map es) rfl (HOW.out.drew) (by unfold maxLen; omega) _ _ _ rfl rfl HKEY.out (.held (ptrV (w.heap.size + 1))) [] HVN.out ?_; intro wl ho hg)
      have hL := HH.out.loaded (wm := wm.drew) (wl := wl) (b := w.heap.size + 1) hN (fun k hk hne => (HOM.out.block k (by have := HBk.out.size; omega) (by simpa using hne)).trans (HBk.out.block k hk)) (by omega) hB HMQ.out.1 HMQ.out.2.1 HMQ.out.2.2.1 HMQ.out.2.2.2.1 HMQ.out.2.2.2.2 HE.out ho hg
      have HL3 := Lib.hid hL
      have hgo : Off [mb] wm.drew wl := grown_off hg (fun k hk => by cases hk; simp)
      have HOL : Hid (Off [sb, mb] w wl) := Lib.hid ⟨hgo.os.trans (HOM.out.os.trans HBk.out.os), hgo.tape.trans (HOM.out.tape.trans HBk.out.tape), hgo.output.trans (HOM.out.output.trans HBk.out.output), by have h1 := hgo.size; have h2 := HOM.out.size; have h3 := HBk.out.size; simp at h1; omega, fun k hk hn => by
        simp only [List.mem_cons, List.not_mem_nil, or_false, not_or] at hn
        have h3 := HBk.out.size
        have h2 := HOM.out.size
        exact (hgo.block k (by simp; omega) (by simp; omega)).trans ((HOM.out.block k (by omega) (by simp; omega)).trans (HBk.out.block k hk))⟩
      clear hL ho hg hgo
      go_wp2_with fail
      refine (store_clean wl HL3.out).mono ?_
      rintro e w2 ⟨rfl, hS2, hk2, hb2⟩
      rw [filter_loaded HHH.out HH.out.le] at hS2
      have c2 := hS2.c0
      push_cast at c2
      have HO2 : Hid (Off [sb, mb] w w2) := Lib.hid ⟨hb2.os.trans HOL.out.os, hb2.tape.trans HOL.out.tape, hb2.output.trans HOL.out.output, Nat.le_trans HOL.out.size hb2.size, fun k hk hn => (hk2 k (Nat.lt_of_lt_of_le hk HOL.out.size) (by simp only [List.mem_cons, List.not_mem_nil, or_false, not_or] at hn; exact hn.2)).trans (HOL.out.block k hk hn)⟩
      clear hS2 hb2 hk2
      go_wp2_with fail
      go_ret2
      exact ⟨rfl, HO2.out⟩
end Go.Proofs.YtplaohmdllindaaGreatDoor
