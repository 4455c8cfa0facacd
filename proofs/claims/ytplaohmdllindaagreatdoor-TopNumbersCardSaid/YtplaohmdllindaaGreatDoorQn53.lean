/- ServeSay, TopNumbers: texts put together. -/
import Derived.Test.YtplaohmdllindaaGreatDoorQn50
import Derived.Test.YtplaohmdllindaaGreatDoorQn49
import Derived.Test.YtplaohmdllindaaGreatDoorQn52
import Derived.Test.YtplaohmdllindaaGreatDoorQn34
import Derived.Test.YtplaohmdllindaaGreatDoorQn1
import Derived.Test.YtplaohmdllindaaGreatDoorQn32
import Derived.Test.YtplaohmdllindaaGreatDoorQn37
import Derived.Test.YtplaohmdllindaaGreatDoorQn7
import Derived.Deep.RegionHeld3
import Derived.Deep.DeepCutAuto
set_option linter.unusedVariables false
set_option linter.unusedSimpArgs false
/- serve.Say of the one text; served. -/
namespace Go.Proofs.YtplaohmdllindaaGreatDoor
open Go.RowKit Go.Maps

def enT : ByteArray := ⟨#[101, 110]⟩
def deT : ByteArray := ⟨#[100, 101]⟩
def hiT : ByteArray := ⟨#[104, 105]⟩
def enB : BunC := ⟨enT, [⟨hiT, helloS⟩]⟩
theorem en_find : findP [enB] deT hiT = (0, 0, helloS) := by decide +kernel
theorem en_err : enB.err = 0 := by decide +kernel
theorem en_small : enB.small := ⟨by decide, by decide, fun e he => by
  simp only [enB, List.mem_cons, List.not_mem_nil, or_false] at he
  subst he
  exact ⟨by decide, by decide⟩⟩
theorem one_of {s : ByteArray} (h1 : lowerL s.data.toList = s.data.toList) (h2 : Lib.splitB ⟨#[45]⟩ 0 (Lib.countB s ⟨#[45]⟩) s = [s]) : One s := fun L hL => by
  have e : s = L := ByteArray.ext (Array.ext' (h1.symm.trans hL))
  subst e
  exact ⟨s, h2⟩
theorem en_one : One enB.tag := one_of (by decide +kernel) (by decide +kernel)
theorem de_one : One deT := one_of (by decide +kernel) (by decide +kernel)
theorem en_lang : ∃ x, langOf enT.data.toList = some x := ⟨_, rfl⟩
theorem hello_fits : fitsP 1 [Nd.mk 1 helloS 0 []] [] = 0 := by decide +kernel
theorem en_cut : Lib.cut enT.data.toList [45] = (enT.data.toList, [], false) := by decide +kernel

set_option maxHeartbeats 8000000 in
set_option maxRecDepth 100000 in
theorem serve_say1 (W0 w0 w : World) (sv sb cb pb mb g : Nat) (hE0 : RuleEnv W0) (hK0 : MKinds W0) (hb0 : Below W0.heap.size W0 w) (h0 : W0.heap.size ≤ cb ∧ W0.heap.size ≤ pb ∧ W0.heap.size ≤ mb) (hCo : CopiedAt w0 w enB sv sb cb mb g) (hC : CacheAt w cb pb 1 Cch.none 0) (hm : HMap w mb 0 []) (hd : sv ≠ cb ∧ sv ≠ pb ∧ sv ≠ mb ∧ mb ≠ cb ∧ mb ≠ pb) (hg : g ≠ cb ∧ g ≠ pb ∧ g ≠ mb) :
    Calls Tryz.prog 18 #[.pointer (some ⟨sv, 0, none⟩), .string deT, .string hiT, .slice none 0 0] w fun e w' => e = .returned (.tuple #[.string helloS, .nilIface]) ∧ Off [cb, pb, mb] w w' := by
  have hE := hE0.below hb0
  have hK := hK0.below hb0
  have HW0 : Hid (∀ w', Off [cb, pb, mb] w w' → RuleEnv w' ∧ MKinds w') := Lib.hid (fun w' ho => by
    have hb : Below W0.heap.size W0 w' := hb0.trans (ho.toBelow (fun k hk => by simp only [List.mem_cons, List.not_mem_nil, or_false] at hk; omega) hb0.size)
    exact ⟨hE0.below hb, hK0.below hb⟩)
  clear hE0 hK0 hb0 h0
  obtain ⟨n, c, hn, hnc, hc9, hV, hB, hg0, hg1⟩ := hCo
  have HN : Hid (n = [enB].length) := Lib.hid hn
  have KF : Hid (Calls Tryz.prog 54 #[.slice (some ⟨g, 0, none⟩) n c, .string deT, .string hiT] w fun e w' => e = .returned (.tuple #[.int .i64 0, .string helloS, .nilIface]) ∧ Below w.heap.size w w') := Lib.hid (by
    have h := find_in1 (some ⟨g, 0, none⟩) c [enB] deT hiT w hE.maxl (BunsF.all hB) (by simp; omega) hc9 (fun b hb => by rw [List.mem_singleton.1 hb]; exact en_small) (by decide) de_one (fun b hb => by rw [List.mem_singleton.1 hb]; exact en_one)
    rw [en_find] at h
    rw [hn]
    exact h)
  obtain ⟨gA, gc, k0, _⟩ : ∃ (A : Option Addr) (c : Nat), w.cell? ⟨g, 0, none⟩ = some (.string enT) ∧ True := by
    obtain ⟨b, o, e, hat⟩ := (BunsF.all hB).at (by simp)
    cases e
    obtain ⟨A, c, h0, _⟩ := hat 0 enB rfl
    exact ⟨A, c, h0, trivial⟩
  have HG0 := Lib.hid k0
  have HE := Lib.hid hE
  have HK := Lib.hid hK
  have HC := Lib.hid hC
  have HM := Lib.hid hm
  have HD := Lib.hid hd
  have HG := Lib.hid hg
  have HV := Lib.hid hV
  obtain ⟨x, hx⟩ := en_lang
  have HX := Lib.hid hx
  have i0 : (0 : Int) < (n : Int) := by omega
  have i2 : (n : Int) ≤ (c : Int) := by omega
  have c4 := hV.c4
  have c3 := hV.c3
  clear hE hK hC hm hd hg hV hB hn hx k0 hg0 hg1
  go_enter Tryz.func18, Tryz.ntmps18
  go_wp2_with fail
  refine KF.out.mono ?_
  rintro e w1 ⟨rfl, hb1⟩
  have HB1 := Lib.hid hb1
  clear hb1 KF
  go_wp2_with fail
  refine (serve_ready hiT w1 sv sb cb pb mb _ 1 (HE.out.below HB1.out) (HK.out.below HB1.out) (HV.out.below HB1.out) (HC.out.below HB1.out) (HM.out.below HB1.out) HD.out (by decide)).mono ?_
  rintro e w2 ⟨⟨g2, n1, c1, A2, n2, c2, rfl, hn1, hn1c, hc19, hst, hnd⟩, ho2⟩
  have hd := HD.out
  have hg := HG.out
  have HV2 := Lib.hid ((HV.out.below HB1.out).off ho2 (by simp; omega))
  have HT2 := Lib.hid (ho2.cell (carry HB1.out HG0.out) (by simp; omega))
  have HO2 : Hid (Off [cb, pb, mb] w w2) := Lib.hid (((Off.refl _ _).below HB1.out (Nat.le_refl _)).trans ho2)
  obtain ⟨w3, hw3⟩ : ∃ w3, w3 = w2.alloc (.cells #[.slice (some ⟨g2, 0, none⟩) n1 c1, .slice A2 n2 c2] 131) := ⟨_, rfl⟩
  have hb3 : Below w2.heap.size w2 w3 := by rw [hw3]; exact belx
  have HO3 := Lib.hid (HO2.out.below hb3 HO2.out.size)
  have hz2 : w.heap.size ≤ w2.heap.size := HO2.out.size
  have HV3 := Lib.hid (HV2.out.below hb3)
  have HT3 := Lib.hid (carry hb3 HT2.out)
  have q0 : w3.cell? ⟨w2.heap.size, 0, none⟩ = some (.slice (some ⟨g2, 0, none⟩) n1 c1) := by rw [hw3]; go_simp
  have q1 : w3.cell? ⟨w2.heap.size, 1, none⟩ = some (.slice A2 n2 c2) := by rw [hw3]; go_simp
  have HQ0 := Lib.hid q0
  have HQ1 := Lib.hid q1
  have HST := Lib.hid (hst.below hb3)
  have HND := Lib.hid (NodesIn.below hb3 1 hnd)
  have HNC : Hid (n1 = 1 ∧ n1 ≤ c1 ∧ c1 ≤ 9223372036854775807) := Lib.hid ⟨hn1, hn1c, hc19⟩
  have v3 := HV3.out.c3
  have t3 := HT3.out
  have HW3 := Lib.hid hw3
  have HE3 : Hid (RuleEnv w3) := Lib.hid (HW0.out w3 HO3.out).1
  have HK3 : Hid (MKinds w3) := Lib.hid (HW0.out w3 HO3.out).2
  have KCut : Hid (Calls Tryz.prog 34 #[.string enT, .string ⟨#[45]⟩] w3 fun e w' => e = .returned (.tuple #[.string enT, .string ⟨#[]⟩, .bool false]) ∧ Below w3.heap.size w3 w') := Lib.hid (by
    obtain ⟨m, hm⟩ := HE3.out.maxl
    refine (Tryz.strings_Cut enT ⟨#[45]⟩ m w3 (by decide) hm).mono ?_
    rintro e w' ⟨rfl, k, rfl⟩
    refine ⟨?_, bel_drewN _ (Below.refl _ _)⟩
    rw [show (⟨#[45]⟩ : ByteArray).data.toList = [45] from rfl, en_cut])
  rw [hw3] at v3 t3
  clear hw3 hb3 hst hnd hn1 hn1c hc19 ho2 q0 q1 HV2 HT2 HO2 hd hg c3 c4
  go_wp2_with fail
  rw [← HW3.out]
  refine KCut.out.mono ?_
  rintro e w4 ⟨rfl, hb4⟩
  have HO4 := Lib.hid (HO3.out.below hb4 HO3.out.size)
  have q0 := carry hb4 HQ0.out
  have q1 := carry hb4 HQ1.out
  have KS := Lib.hid (code_say1 x helloS enT g2 n1 c1 A2 n2 c2 w4 (HE3.out.below hb4) (HK3.out.below hb4) HNC.out.1 HNC.out.2.1 HNC.out.2.2 (HST.out.below hb4) (NodesIn.below hb4 1 HND.out) (by decide) HX.out (by decide) hello_fits)
  clear hb4 v3 t3 KCut HO3
  go_wp2_with fail
  refine KS.out.mono ?_
  rintro e w5 ⟨rfl, hb5⟩
  have HO5 := Lib.hid (HO4.out.below hb5 HO4.out.size)
  clear hb5
  go_wp2_with fail
  go_ret2
  exact ⟨rfl, HO5.out⟩

set_option maxHeartbeats 8000000 in
set_option maxRecDepth 100000 in
theorem served_ok (w : World) (hE : RuleEnv w) (hK : MKinds w) :
    Calls Tryz.prog 5 #[] w fun e w' => e = .returned (.bool true) ∧ Below w.heap.size w w' := by
  have HE := Lib.hid hE
  have HK := Lib.hid hK
  clear hE hK
  go_enter Tryz.func5, Tryz.ntmps5
  go_wp2_with fail
  refine (serve_new w).mono ?_
  rintro e w1 ⟨n, cb, pb, mb, rfl, hV, hC, hM, hS, h1, h2, h3, h4, h5, h6, hb1⟩
  have HV := Lib.hid hV
  have HC := Lib.hid hC
  have HM := Lib.hid hM
  have HS := Lib.hid hS
  have HB1 := Lib.hid hb1
  obtain ⟨w2, hw2⟩ : ∃ w2, w2 = (w1.alloc (.cells #[.string hiT, .string helloS] 61)).alloc (.cells #[.string enT, .slice (some ⟨w1.heap.size, 0, none⟩) 1 1] 64) := ⟨_, rfl⟩
  have hb2 : Below w1.heap.size w1 w2 := by rw [hw2]; exact belx
  have k0 : w2.cell? ⟨w1.heap.size, 0, none⟩ = some (.string hiT) := by rw [hw2]; go_simp
  have k1 : w2.cell? ⟨w1.heap.size, 1, none⟩ = some (.string helloS) := by rw [hw2]; go_simp
  have k2 : w2.cell? ⟨w1.heap.size + 1, 0, none⟩ = some (.string enT) := by rw [hw2]; go_simp
  have k3 : w2.cell? ⟨w1.heap.size + 1, 1, none⟩ = some (.slice (some ⟨w1.heap.size, 0, none⟩) 1 1) := by rw [hw2]; go_simp
  have hL : BunsIn (erase w1.heap.size w2) (some ⟨w1.heap.size + 1, 0, none⟩) [enB] := by
    refine .inr ⟨w1.heap.size + 1, 0, rfl, fun j y hy => ?_⟩
    match j, hy with
    | 0, hy =>
      injection hy with hy
      subst hy
      refine ⟨some ⟨w1.heap.size, 0, none⟩, 1, (erase_cell (by omega)).trans k2, (erase_cell (by omega)).trans k3, .inr ⟨w1.heap.size, 0, rfl, fun i z hz => ?_⟩, by decide, by decide, by simp⟩
      match i, hz with
      | 0, hz =>
        injection hz with hz
        subst hz
        exact ⟨(erase_cell (Nat.le_refl _)).trans k0, (erase_cell (Nat.le_refl _)).trans k1⟩
  have KLd : Hid (Calls Tryz.prog 17 #[.pointer (some ⟨mb + 1, 0, none⟩), .slice (some ⟨w1.heap.size + 1, 0, none⟩) 1 1] w2 fun e w' => e = .returned (.tuple #[.int .i64 1, .nilIface]) ∧ (∃ g pb', CopiedAt w2 w' enB (mb + 1) (n + 1) cb mb g ∧ CacheAt w' cb pb' 1 Cch.none 0 ∧ g < pb' ∧ HMap w' mb 0 []) ∧ Off [mb + 1, n + 1, n, cb, mb] w2 w') := Lib.hid
    (serve_load1 [enB] enB (some ⟨w1.heap.size + 1, 0, none⟩) 1 w2 (mb + 1) (n + 1) n cb pb mb n w1.heap.size (HE.out.below (HB1.out.trans (hb2.mono HB1.out.size))).maxl (HV.out.below hb2) (HS.out.below hb2) (HC.out.below hb2) (HM.out.below hb2) (by have := hb2.size; omega)
      ⟨by simp; omega, by simp; omega, by simp; omega, by simp; omega⟩ ⟨by omega, by omega, by omega⟩ ⟨by omega, by omega, by omega⟩ rfl rfl hL (by decide) (by decide) en_err en_small en_one)
  have HB2 := Lib.hid (HB1.out.trans (hb2.mono HB1.out.size))
  have HW2 : Hid (w2 = (w1.alloc (.cells #[.string ⟨#[104, 105]⟩, .string ⟨#[104, 101, 108, 108, 111]⟩] 61)).alloc (.cells #[.string ⟨#[101, 110]⟩, .slice (some ⟨w1.heap.size, 0, none⟩) 1 1] 64)) := Lib.hid hw2
  have hz2 : w2.heap.size = mb + 4 := by rw [hw2]; simp [h6]
  have HH : Hid (w.heap.size ≤ cb ∧ w.heap.size ≤ pb ∧ cb < n ∧ pb < n ∧ n + 2 ≤ mb) := Lib.hid ⟨h1, h2, h3, h4, h5⟩
  have HZ2 := Lib.hid hz2
  clear hV hC hM hS hb1 hw2 hb2 k0 k1 k2 k3 hL HV HC HM HS hz2
  clear h1 h2 h3 h4 h5 h6
  go_wp2_with fail
  rw [← HW2.out]
  refine KLd.out.mono ?_
  rintro e w3 ⟨rfl, ⟨g, pb', hCo, hC3, hg, hM3⟩, ho3⟩
  have hh := HH.out
  have hz2 := HZ2.out
  have HB3 : Hid (Below w.heap.size w w3) := Lib.hid (HB2.out.trans (ho3.toBelow (fun k hk => by simp only [List.mem_cons, List.not_mem_nil, or_false] at hk; omega) HB2.out.size))
  have hgw : w2.heap.size ≤ g := by
    obtain ⟨_, _, _, _, _, _, _, h, _⟩ := hCo
    exact h
  have KSy : Hid (Calls Tryz.prog 18 #[.pointer (some ⟨mb + 1, 0, none⟩), .string ⟨#[100, 101]⟩, .string ⟨#[104, 105]⟩, .slice none 0 0] w3 fun e w' => e = .returned (.tuple #[.string ⟨#[104, 101, 108, 108, 111]⟩, .nilIface]) ∧ Off [cb, pb', mb] w3 w') := Lib.hid (serve_say1 w w2 w3 (mb + 1) (n + 1) cb pb' mb g HE.out HK.out HB3.out ⟨by omega, by omega, by omega⟩ hCo hC3 hM3 ⟨by omega, by omega, by omega, by omega, by omega⟩ ⟨by omega, by omega, by omega⟩)
  have HPB : Hid (w.heap.size ≤ pb') := Lib.hid (by omega)
  clear hCo hC3 hg hM3 ho3 KLd HW2 hgw hh hz2
  go_wp2_with fail
  refine KSy.out.mono ?_
  rintro e w4 ⟨rfl, ho4⟩
  have HB4 := Lib.hid (HB3.out.trans (ho4.toBelow (fun k hk => by have := HH.out; have := HPB.out; simp only [List.mem_cons, List.not_mem_nil, or_false] at hk; omega) HB3.out.size))
  clear ho4 KSy
  go_wp2_with fail
  go_ret
  exact ⟨rfl, HB4.out⟩
end Go.Proofs.YtplaohmdllindaaGreatDoor

/- TopNumbers: the walk. -/
namespace Go.Proofs.YtplaohmdllindaaGreatDoor
open Go.RowKit

/-! the message: one Number -/
def oneN : List Nd := [Nd.mk 3 ⟨#[110]⟩ 0 []]
theorem num_fit : FitN 200 1 oneN := by
  intro x hx
  rw [oneN, List.mem_singleton] at hx
  subst hx
  exact ⟨(by decide : (⟨#[110]⟩ : ByteArray).size ≤ 200), fun c hc => by cases hc⟩
theorem num_top (S : SetC) (c s : Int) (h : decOk c s) : topT S 1 oneN (topA c s) = (0, numT c s.toNat) := by
  have hnm : namesP 1 oneN = 0 := by decide +kernel
  have hal : allN 1 [] oneN = [⟨⟨#[110]⟩, true, false⟩] := by kernel_rfl
  have hnd : needP (topA c s) (allN 1 [] oneN) = 0 := by rw [hal]; unfold needP; rw [find_n]; rfl
  have hf : fitsP 1 oneN (topA c s) = 0 := by unfold fitsP; rw [if_pos hnm, top_args, if_pos h, if_pos rfl]; exact hnd
  have hn : numP c s = (0, numT c s.toNat) := by unfold numP; rw [if_pos h]
  have hs : sayP S (lookA (topA c s)) 1 oneN 0 0 = (0, numT c s.toNat) := by
    unfold sayP oneN sayGo
    rw [show oneP S (lookA (topA c s)) (sayP S (lookA (topA c s)) 0) 0 0 (Nd.mk 3 ⟨#[110]⟩ 0 []) = numP (lookA (topA c s) ⟨#[110]⟩).coef (lookA (topA c s) ⟨#[110]⟩).scale from rfl, look_n]
    show (if (numP c s).1 = 0 then _ else _) = _
    rw [show (ArgC.mk ⟨#[110]⟩ true c s ⟨#[]⟩).coef = c from rfl, show (ArgC.mk ⟨#[110]⟩ true c s ⟨#[]⟩).scale = s from rfl, hn, if_pos rfl]
    unfold sayGo
    rw [app_none]
  unfold topT sayT
  rw [if_pos hf, hs, if_pos rfl]

/-! plain facts -/
theorem fmt_shape (p q : ByteArray) (mi mf xf g g2 : Nat) (pt cm : UInt8) (c : Int) (s : Nat) (he : noutErr p q mi mf xf g g2 pt cm = 0) :
    minusB (fmtT p q mi mf xf g g2 pt cm c s) = decide ((fixP xf c s).1 < 0) := by
  obtain ⟨he0, hap, haq, _, _, hne, hpt, hcm⟩ := noutErr_facts he
  obtain ⟨pd, pm⟩ := sign_not hpt
  obtain ⟨cd, cmm⟩ := sign_not hcm
  unfold fmtT
  generalize (fixP xf c s).1 = c2 at *
  generalize (fixP xf c s).2 = s2 at *
  generalize mi - (wholeB c2 s2).size = k at *
  generalize mf - (behindB c2 s2).size = l at *
  have hdig : allD (zeroB k ++ wholeB c2 s2).data.toList := fun x hx => by
    rw [ByteArray.data_append, Array.toList_append, List.mem_append] at hx
    rcases hx with hx | hx
    · exact rep_allD k x hx
    · exact whole_allD c2 s2 x hx
  have hBd : allD (behindB c2 s2 ++ zeroB l).data.toList := fun x hx => by
    rw [ByteArray.data_append, Array.toList_append, List.mem_append] at hx
    rcases hx with hx | hx
    · exact behind_allD c2 s2 x hx
    · exact rep_allD l x hx
  have hT : (45 : UInt8) ∉ (putC cm g g2 (zeroB k ++ wholeB c2 s2)).data.toList := fun hm => by
    rcases put_mem cm g g2 _ (allD_not hdig cm cd) hm with h | h
    · exact cmm h.symm
    · exact absurd (hdig 45 h) (by decide)
  generalize putC cm g g2 (zeroB k ++ wholeB c2 s2) = T at *
  generalize behindB c2 s2 ++ zeroB l = B at *
  have hrest : (45 : UInt8) ∉ p.data.toList ++ T.data.toList ++ (if B.toList.isEmpty then [] else pt :: B.data.toList) ++ q.data.toList := by
    intro hm
    rcases List.mem_append.1 hm with h | h
    · rcases List.mem_append.1 h with h | h
      · rcases List.mem_append.1 h with h | h
        · exact affB_not hap 45 (by decide) h
        · exact hT h
      · split at h
        · cases h
        · rcases List.mem_cons.1 h with h | h
          · exact pm h.symm
          · exact absurd (hBd 45 h) (by decide)
    · exact affB_not haq 45 (by decide) h
  unfold minusB noutB
  show ((((if decide (c2 < 0) = true then [45] else []) ++ p.data.toList ++ T.data.toList ++ (if B.toList.isEmpty then [] else pt :: B.data.toList) ++ q.data.toList) : List UInt8).head? == some 45) = _
  rw [List.append_assoc, List.append_assoc, List.append_assoc, ← List.append_assoc (p.data.toList), ← List.append_assoc (p.data.toList ++ T.data.toList)]
  cases decide (c2 < 0)
  · generalize p.data.toList ++ T.data.toList ++ (if B.toList.isEmpty then [] else pt :: B.data.toList) ++ q.data.toList = R at *
    cases R with
    | nil => rfl
    | cons x r =>
      have : x ≠ 45 := fun e => hrest (by rw [e]; exact List.mem_cons_self)
      simp [this]
  · rfl
theorem nout_format_ok (p q : ByteArray) (mi mf xf g g2 : Nat) (pt cm : UInt8) (c : Int) (s : Nat) (w : World) (hM : MaxL w) (hP : Pow w) (he : noutErr p q mi mf xf g g2 pt cm = 0) (hn : decOk c s) :
    Calls Tryz.prog 10 #[patV p q mi mf xf g g2, symC pt cm, decV c s] w fun e w' => e = .returned (.tuple #[.string (fmtT p q mi mf xf g g2 pt cm c s), .nilIface]) ∧ Below w.heap.size w w' := by
  obtain ⟨he0, hap, haq, ⟨i1, i2, i3, i4, i5, i6, i7, i8, i9, i10⟩, hz, hne, hpt, hcm⟩ := noutErr_facts he
  have hps := affB_small hap
  have hqs := affB_small haq
  refine format_right p q mi mf xf g g2 pt cm c s w hM hP hps hqs (fun W => ?_) (by omega) (by omega) (by omega) hn (sign_not hcm).1 (by omega) (by omega) (by omega)
  have := nout_check_any p q mi mf xf g g2 pt cm W (by omega) (by omega)
  rw [he] at this
  exact this
theorem round_fit (c : Int) (s : Nat) (h : decOk c s) : decOk (rnd c s (min s 3 : Nat) 5) (min s 3 : Nat) ∧ rndOk c s (min s 3 : Nat) 5 := by
  have h0 := h
  obtain ⟨h1, h2, h3, h4⟩ := h
  by_cases hs : s ≤ 3
  · rw [Nat.min_eq_left hs]
    have e : rnd c s s 5 = c := by
      unfold rnd
      rw [if_pos (Int.le_refl _), show ((s : Int) - (s : Int)).toNat = 0 by omega]
      exact Int.mul_one c
    rw [e]
    refine ⟨h0, h0, by omega, by omega, by omega, by omega, fun _ => ?_⟩
    rw [show ((s : Int) - (s : Int)).toNat = 0 by omega, show c * ten 0 = c from Int.mul_one c]
    exact ⟨h3, h4⟩
  · rw [Nat.min_eq_right (by omega)]
    exact ⟨round_ok h0 (by omega), h0, by omega, by omega, by omega, by omega, fun h => by omega⟩

/-! what lies there -/
def BothAt (W : World) (b : Nat) (u v : Value) : Prop := W.cell? ⟨b, 0, none⟩ = some u ∧ W.cell? ⟨b, 1, none⟩ = some v
theorem BothAt.step {W W' : World} {b : Nat} {u v : Value} (h : BothAt W b u v) (hb : Below W.heap.size W W') : BothAt W' b u v := ⟨carry hb h.1, carry hb h.2⟩
def FrN (w : World) (p q : ByteArray) (mi mf xf g g2 pt cm c s d t : Int) (W : World) : Prop :=
  ((W.cell? ⟨w.heap.size, 0, none⟩ = some (.string p) ∧ W.cell? ⟨w.heap.size, 1, none⟩ = some (.string q)) ∧ (W.cell? ⟨w.heap.size, 2, none⟩ = some (.int .i64 mi) ∧ W.cell? ⟨w.heap.size, 3, none⟩ = some (.int .i64 mf)) ∧
    (W.cell? ⟨w.heap.size, 4, none⟩ = some (.int .i64 xf) ∧ W.cell? ⟨w.heap.size, 5, none⟩ = some (.int .i64 g) ∧ W.cell? ⟨w.heap.size, 6, none⟩ = some (.int .i64 g2))) ∧
  BothAt W (w.heap.size + 1) (.int .u8 pt) (.int .u8 cm) ∧ BothAt W (w.heap.size + 1 + 1) (.int .i64 c) (.int .i64 s) ∧ BothAt W (w.heap.size + 1 + 1 + 1) (.int .i64 d) (.int .i64 t) ∧ Below w.heap.size w W
section
variable {w W W' : World} {p q : ByteArray} {mi mf xf g g2 pt cm c s d t : Int}
theorem FrN.step (h : FrN w p q mi mf xf g g2 pt cm c s d t W) (hb : Below W.heap.size W W') : FrN w p q mi mf xf g g2 pt cm c s d t W' := by
  obtain ⟨⟨⟨h0, h1⟩, ⟨h2, h3⟩, h4, h5, h6⟩, k, a, b, hB⟩ := h
  exact ⟨⟨⟨carry hb h0, carry hb h1⟩, ⟨carry hb h2, carry hb h3⟩, carry hb h4, carry hb h5, carry hb h6⟩, k.step hb, a.step hb, b.step hb, hB.trans (hb.mono hB.size)⟩
theorem FrN.start : FrN w p q mi mf xf g g2 pt cm c s d t ((((w.alloc (.cells #[.string p, .string q, .int .i64 mi, .int .i64 mf, .int .i64 xf, .int .i64 g, .int .i64 g2] 42)).alloc (.cells #[.int .u8 pt, .int .u8 cm] 44)).alloc (.cells #[.int .i64 c, .int .i64 s] 23)).alloc (.cells #[.int .i64 d, .int .i64 t] 23)) := by
  refine ⟨⟨⟨?_, ?_⟩, ⟨?_, ?_⟩, ?_, ?_, ?_⟩, ⟨?_, ?_⟩, ⟨?_, ?_⟩, ⟨?_, ?_⟩, ?_⟩
  all_goals (first | (go_simp; done) | (simp; done) | exact belx)
theorem FrN.bel (h : FrN w p q mi mf xf g g2 pt cm c s d t W) : Below w.heap.size w W := h.2.2.2.2
end

set_option maxHeartbeats 8000000 in
set_option maxRecDepth 100000 in
theorem top_numbers_ok (p q : ByteArray) (mi mf xf g g2 : Nat) (pt cm : UInt8) (c d : Int) (s t : Nat) (w : World) (hE : RuleEnv w) (hM : MKinds w) (hK : KindsAt w) (hL : NumLaid w) (he : noutErr p q mi mf xf g g2 pt cm = 0) (ha : decOk c s) (hb : decOk d t) :
    Calls Tryz.prog 4 #[patV p q mi mf xf g g2, symC pt cm, decV c s, decV d t] w fun e w' => e = .returned (.bool true) ∧ Below w.heap.size w w' := by
  have KV := Lib.hid (fun W (hb : Below w.heap.size w W) => served_ok W (hE.below hb) (hM.below hb))
  have KFa := Lib.hid (fun W (hb : Below w.heap.size w W) => nout_format_ok p q mi mf xf g g2 pt cm c s W (hE.below hb).maxl (hE.below hb).pow he ha)
  have KFb := Lib.hid (fun W (hb' : Below w.heap.size w W) => nout_format_ok p q mi mf xf g g2 pt cm d t W (hE.below hb').maxl (hE.below hb').pow he hb)
  have KRa := Lib.hid (fun W (hb : Below w.heap.size w W) => nout_read p q mi mf xf g g2 pt cm c s W (hE.below hb).maxl (hE.below hb).pow he ha)
  have KRb := Lib.hid (fun W (hb' : Below w.heap.size w W) => nout_read p q mi mf xf g g2 pt cm d t W (hE.below hb').maxl (hE.below hb').pow he hb)
  have he3 : noutErr ⟨#[]⟩ ⟨#[]⟩ (1 : Nat) (0 : Nat) (3 : Nat) (3 : Nat) (0 : Nat) 46 44 = 0 := by decide
  have KRu := Lib.hid (fun W (hb : Below w.heap.size w W) => nout_read ⟨#[]⟩ ⟨#[]⟩ 1 0 3 3 0 46 44 c s W (hE.below hb).maxl (hE.below hb).pow he3 ha)
  have hst := fmt_shape ⟨#[]⟩ ⟨#[]⟩ 1 0 3 3 0 46 44 c s he3
  have hnz := numT_size c s ha
  have KS := Lib.hid (fun W (hb : Below w.heap.size w W) v A (hN : NodesIn 1 W v oneN) (hA : ArgsIn W A (topA c s)) => eval_SayL 200 1 v oneN ⟨#[101, 110]⟩ A 1 (topA c s) W (hE.below hb) (hM.below hb) (hK.below hb) (hL.below hb) hN hA (Nat.le_refl _) (by omega) (by show (1 : Nat) ≤ _; omega) (Nat.le_refl _) (by omega) num_fit (fun a ha => by
    rw [List.mem_singleton.1 ha]
    exact ⟨(by decide : (⟨#[110]⟩ : ByteArray).size ≤ 140737488355328), (by decide : (⟨#[]⟩ : ByteArray).size ≤ 200)⟩) (by decide))
  rw [num_top (setOf ⟨#[101, 110]⟩) c s ha] at KS
  rw [show ((s : Int)).toNat = s by omega] at KS
  have hx := (fixP_le (xf := xf) ha).1
  have hz := (fixP_le (xf := xf) hb).1
  have hv := (fixP_le (xf := 3) ha).1
  obtain ⟨hr, hro⟩ := round_fit c s ha
  have hsame := fun h => fix_same (xf := xf) ha h
  have hless := fun h => fix_less (xf := xf) (c := c) (d := d) (s := s) (t := t) h
  have hround := fix_round 3 c s ha
  have hsign := fix_sign 3 c s ha
  simp only [hsign] at hst
  clear hsign he3 he
  have KRo := Lib.hid (fun W => (dec_round c s (min s 3 : Nat) 5 W).mono (fun e w' h => (⟨h.1.1 hro, h.2⟩ : e = .returned (.tuple #[decV (rnd c s (min s 3 : Nat) 5) (min s 3 : Nat), .nilIface]) ∧ Below W.heap.size W w')))
  clear hro
  change minusB (numT c s) = _ at hst
  have KST := Lib.hid (fun W => ref_starts (numT c s) W (by omega))
  rw [hst] at KST
  change Hid (∀ W, Below w.heap.size w W → Calls Tryz.prog 11 #[patV ⟨#[]⟩ ⟨#[]⟩ 1 0 3 3 0, .agg #[.int .u8 46, .int .u8 44], .string (numT c s)] W _) at KRu
  rw [show errOf 0 = Value.nilIface from if_pos rfl] at KS
  generalize numT c s = U at *
  generalize fmtT p q mi mf xf g g2 pt cm c s = Ta at *
  generalize fmtT p q mi mf xf g g2 pt cm d t = Tb at *
  obtain ⟨x1, hx1⟩ : ∃ x1, x1 = (fixP xf c s).1 := ⟨_, rfl⟩
  obtain ⟨x2, hx2⟩ : ∃ x2, x2 = (fixP xf c s).2 := ⟨_, rfl⟩
  obtain ⟨z1, hz1⟩ : ∃ z1, z1 = (fixP xf d t).1 := ⟨_, rfl⟩
  obtain ⟨z2, hz2⟩ : ∃ z2, z2 = (fixP xf d t).2 := ⟨_, rfl⟩
  obtain ⟨v1, hv1⟩ : ∃ v1, v1 = (fixP 3 c s).1 := ⟨_, rfl⟩
  obtain ⟨v2, hv2⟩ : ∃ v2, v2 = (fixP 3 c s).2 := ⟨_, rfl⟩
  obtain ⟨r, hr0⟩ : ∃ r, r = rnd c s (min s 3 : Nat) 5 := ⟨_, rfl⟩
  obtain ⟨m, hm0⟩ : ∃ m, m = min s 3 := ⟨_, rfl⟩
  rw [← hm0] at hr0
  have hmin : min (s : Int) 3 = (m : Int) := by rw [hm0]; omega
  simp only [← hm0, ← hr0, ← hx1, ← hx2, ← hz1, ← hz2, ← hv1, ← hv2] at *
  clear hx1 hx2 hz1 hz2 hv1 hv2 hr0 hst hm0 hnz
  have KSa : Hid (∀ W : World, s ≤ xf → Calls Tryz.prog 12 #[decV x1 x2, decV c s] W fun e w' => e = .returned (.bool true) ∧ Below W.heap.size W w') := Lib.hid (fun W h => by
    have := dec_same x1 x2 c s W hx ha
    rw [Int.toNat_natCast, Int.toNat_natCast, decide_eq_true (hsame h)] at this
    exact this)
  have KSv : Hid (∀ W : World, Calls Tryz.prog 12 #[decV v1 v2, decV r m] W fun e w' => e = .returned (.bool true) ∧ Below W.heap.size W w') := Lib.hid (fun W => by
    have := dec_same v1 v2 r m W hv hr
    rw [Int.toNat_natCast, Int.toNat_natCast, decide_eq_true hround] at this
    exact this)
  obtain ⟨lt, hlt⟩ : ∃ lt, lt = decide (x1 * ten z2 < z1 * ten x2) := ⟨_, rfl⟩
  have KLx : Hid (∀ W : World, Calls Tryz.prog 13 #[decV x1 x2, decV z1 z2] W fun e w' => e = .returned (.bool lt) ∧ Below W.heap.size W w') := Lib.hid (fun W => by
    have := dec_less x1 x2 z1 z2 W hx hz
    rw [Int.toNat_natCast, Int.toNat_natCast, ← hlt] at this
    exact this)
  have KLa : Hid (∀ W : World, lt = true → Calls Tryz.prog 13 #[decV c s, decV d t] W fun e w' => e = .returned (.bool true) ∧ Below W.heap.size W w') := Lib.hid (fun W h => by
    have := dec_less c s d t W ha hb
    rw [Int.toNat_natCast, Int.toNat_natCast, decide_eq_true (hless (of_decide_eq_true (hlt.symm.trans h)))] at this
    exact this)
  have C3 : Hid (-9223372036854775808 ≤ (m : Int)) := Lib.hid (by omega)
  clear hE hM hK hL ha hb hx hz hv hr hsame hless hround hlt
  go_enter Tryz.func4, Tryz.ntmps4
  go_wp2_with fail
  have F0 := Lib.hid (FrN.start (w := w) (p := p) (q := q) (mi := mi) (mf := mf) (xf := xf) (g := g) (g2 := g2) (pt := pt.toNat) (cm := cm.toNat) (c := c) (s := s) (d := d) (t := t))
  refine (KV.out _ F0.out.bel).mono ?_
  rintro e w1 ⟨rfl, hb1⟩
  have F1 := Lib.hid (F0.out.step hb1)
  clear hb1 F0 KV
  obtain ⟨⟨⟨h0, h1⟩, ⟨h2, h3⟩, h4, h5, h6⟩, ⟨k0, k1⟩, ⟨a0, a1⟩, ⟨b0, b1⟩, hB⟩ := F1.out
  clear b0 b1 hB
  go_wp2_with fail
  refine (KFa.out _ F1.out.bel).mono ?_
  rintro e w2 ⟨rfl, hb2⟩
  have F2 := Lib.hid (F1.out.step hb2)
  clear hb2 F1 KFa h0 h1 h2 h3 h4 h5 h6 k0 k1 a0 a1
  obtain ⟨⟨⟨h0, h1⟩, ⟨h2, h3⟩, h4, h5, h6⟩, ⟨k0, k1⟩, ⟨a0, a1⟩, ⟨b0, b1⟩, hB⟩ := F2.out
  clear a0 a1 hB
  go_wp2_with fail
  refine (KFb.out _ F2.out.bel).mono ?_
  rintro e w3 ⟨rfl, hb3⟩
  have F3 := Lib.hid (F2.out.step hb3)
  clear hb3 F2 KFb h0 h1 h2 h3 h4 h5 h6 k0 k1 b0 b1
  obtain ⟨⟨⟨h0, h1⟩, ⟨h2, h3⟩, h4, h5, h6⟩, ⟨k0, k1⟩, ⟨a0, a1⟩, ⟨b0, b1⟩, hB⟩ := F3.out
  clear a0 a1 b0 b1 hB
  go_wp2_with fail
  refine (KRa.out _ F3.out.bel).mono ?_
  rintro e w4 ⟨rfl, hb4⟩
  have F4 := Lib.hid (F3.out.step hb4)
  clear hb4 F3 KRa h0 h1 h2 h3 h4 h5 h6 k0 k1
  obtain ⟨w5, hw5⟩ : ∃ w5, w5 = w4.alloc (.cells #[.int .i64 x1, .int .i64 x2] 23) := ⟨_, rfl⟩
  have hb5 : Below w4.heap.size w4 w5 := by rw [hw5]; exact belx
  have F5 := Lib.hid (F4.out.step hb5)
  have X5 : Hid (BothAt w5 w4.heap.size (.int .i64 x1) (.int .i64 x2)) := Lib.hid (by rw [hw5]; exact ⟨by go_simp, by go_simp⟩)
  obtain ⟨⟨⟨h0, h1⟩, ⟨h2, h3⟩, h4, h5, h6⟩, ⟨k0, k1⟩, ⟨a0, a1⟩, ⟨b0, b1⟩, hB⟩ := F5.out
  rw [hw5] at h0 h1 h2 h3 h4 h5 h6 k0 k1
  have HW5 := Lib.hid hw5
  clear hb5 hw5 a0 a1 b0 b1 hB F4
  go_wp2_with fail
  rw [← HW5.out]
  refine (KRb.out _ F5.out.bel).mono ?_
  rintro e w6 ⟨rfl, hb6⟩
  have F6 := Lib.hid (F5.out.step hb6)
  have X6 := Lib.hid (X5.out.step hb6)
  clear hb6 F5 X5 HW5 KRb h0 h1 h2 h3 h4 h5 h6 k0 k1
  obtain ⟨w7, hw7⟩ : ∃ w7, w7 = w6.alloc (.cells #[.int .i64 z1, .int .i64 z2] 23) := ⟨_, rfl⟩
  have hb7 : Below w6.heap.size w6 w7 := by rw [hw7]; exact belx
  have F7 := Lib.hid (F6.out.step hb7)
  have X7 := Lib.hid (X6.out.step hb7)
  have Z7 : Hid (BothAt w7 w6.heap.size (.int .i64 z1) (.int .i64 z2)) := Lib.hid (by rw [hw7]; exact ⟨by go_simp, by go_simp⟩)
  have HW7 := Lib.hid hw7
  clear hb7 hw7 F6 X6
  go_upto_region 12 with fail
  rw [← HW7.out]
  go_cut [94] (fun v wc => v = .bool false ∧ FrN w p q mi mf xf g g2 pt.toNat cm.toNat c s d t wc)
  case first =>
    obtain ⟨⟨⟨h0, h1⟩, ⟨h2, h3⟩, h4, h5, h6⟩, ⟨k0, k1⟩, ⟨a0, a1⟩, ⟨b0, b1⟩, hB⟩ := F7.out
    obtain ⟨x0, x1'⟩ := X7.out
    obtain ⟨z0, z1'⟩ := Z7.out
    clear h0 h1 h2 h3 h5 h6 k0 k1 hB
    by_cases hs : s ≤ xf
    · have hs1 : (s : Int) ≤ (xf : Int) := by omega
      have hs2 : decide ((s : Int) ≤ (xf : Int)) = true := decide_eq_true hs1
      go_wp2_with fail
      refine (KSa.out _ hs).mono ?_
      rintro e w8 ⟨rfl, hb8⟩
      have F8 := Lib.hid (F7.out.step hb8)
      have X8 := Lib.hid (X7.out.step hb8)
      have Z8 := Lib.hid (Z7.out.step hb8)
      clear hb8 F7 X7 Z7 h4 a0 a1 b0 b1 x0 x1' z0 z1'
      obtain ⟨x0, x1'⟩ := X8.out
      obtain ⟨z0, z1'⟩ := Z8.out
      obtain ⟨⟨⟨h0, h1⟩, ⟨h2, h3⟩, h4, h5, h6⟩, ⟨k0, k1⟩, ⟨a0, a1⟩, ⟨b0, b1⟩, hB⟩ := F8.out
      clear h0 h1 h2 h3 h4 h5 h6 k0 k1 hB
      go_wp2_with fail
      refine (KLx.out _).mono ?_
      rintro e w9 ⟨rfl, hb9⟩
      have F9 := Lib.hid (F8.out.step hb9)
      clear hb9 a0 a1 b0 b1 x0 x1' z0 z1'
      obtain ⟨⟨⟨h0, h1⟩, ⟨h2, h3⟩, h4, h5, h6⟩, ⟨k0, k1⟩, ⟨a0, a1⟩, ⟨b0, b1⟩, hB⟩ := F9.out
      clear h0 h1 h2 h3 h4 h5 h6 k0 k1 hB
      cases lt
      · go_wp2_with fail
        go_meet
        exact ⟨rfl, F9.out⟩
      · go_wp2_with fail
        refine (KLa.out _ trivial).mono ?_
        rintro e w10 ⟨rfl, hb10⟩
        go_wp2_with fail
        go_meet
        exact ⟨rfl, F9.out.step hb10⟩
    · have hs1 : ¬ (s : Int) ≤ (xf : Int) := by omega
      have hs2 : decide ((s : Int) ≤ (xf : Int)) = false := decide_eq_false hs1
      have F8 := F7
      have X8 := X7
      have Z8 := Z7
      go_wp2_with fail
      refine (KLx.out _).mono ?_
      rintro e w9 ⟨rfl, hb9⟩
      have F9 := Lib.hid (F8.out.step hb9)
      clear hb9 a0 a1 b0 b1 x0 x1' z0 z1'
      obtain ⟨⟨⟨h0, h1⟩, ⟨h2, h3⟩, h4, h5, h6⟩, ⟨k0, k1⟩, ⟨a0, a1⟩, ⟨b0, b1⟩, hB⟩ := F9.out
      clear h0 h1 h2 h3 h4 h5 h6 k0 k1 hB
      cases lt
      · go_wp2_with fail
        go_meet
        exact ⟨rfl, F9.out⟩
      · go_wp2_with fail
        refine (KLa.out _ trivial).mono ?_
        rintro e w10 ⟨rfl, hb10⟩
        go_wp2_with fail
        go_meet
        exact ⟨rfl, F9.out.step hb10⟩
  case rest =>
    obtain ⟨rfl, hF⟩ := hcut
    have F := Lib.hid hF
    clear hF F7 X7 Z7 HW7 KSa KLx KLa
    obtain ⟨⟨⟨h0, h1⟩, ⟨h2, h3⟩, h4, h5, h6⟩, ⟨k0, k1⟩, ⟨a0, a1⟩, ⟨b0, b1⟩, hB⟩ := F.out
    clear h0 h1 h2 h3 h4 h5 h6 k0 k1 b0 b1 hB
    have hbn : Below wc.heap.size wc (wc.alloc (.cells #[.int .i64 3, .string ⟨#[110]⟩, .int .i64 0, .slice none 0 0] 51)) := belx
    have a0' := carry hbn a0
    have a1' := carry hbn a1
    obtain ⟨w11, hw11⟩ : ∃ w11, w11 = (wc.alloc (.cells #[.int .i64 3, .string ⟨#[110]⟩, .int .i64 0, .slice none 0 0] 51)).alloc (.cells #[.string ⟨#[110]⟩, .bool true, .int .i64 c, .int .i64 s, .string ⟨#[]⟩] 38) := ⟨_, rfl⟩
    have hb11 : Below wc.heap.size wc w11 := by rw [hw11]; exact belx
    have hN : NodesIn 1 w11 (.slice (some ⟨wc.heap.size, 0, none⟩) 1 1) oneN := by
      refine ⟨_, _, rfl, Nat.le_refl _, by omega, by show (1 : Nat) ≤ _; omega, .inr ⟨wc.heap.size, 0, rfl, fun j x hj => ?_⟩⟩
      match j, hj with
      | 0, hj =>
        injection hj with hj
        subst hj
        rw [hw11]
        exact ⟨(by decide : (⟨#[110]⟩ : ByteArray).size ≤ 140737488355328), ⟨by show (-9223372036854775808 : Int) ≤ 0; omega, by show (0 : Int) ≤ 9223372036854775807; omega⟩, ⟨by show (-9223372036854775808 : Int) ≤ 3; omega, by show (3 : Int) ≤ 9223372036854775807; omega⟩, by go_simp; rfl, by go_simp; rfl, by go_simp; rfl, .slice none 0 0, by go_simp, none, 0, rfl, Nat.le_refl _, by omega, Nat.zero_le _, .inl rfl⟩
    have hA : ArgsIn w11 (some ⟨wc.heap.size + 1, 0, none⟩) (topA c s) := by
      refine .inr ⟨wc.heap.size + 1, 0, rfl, fun j y hy => ?_⟩
      match j, hy with
      | 0, hy =>
        injection hy with hy
        subst hy
        rw [hw11]
        exact ⟨by go_simp, by go_simp, by go_simp, by go_simp, by go_simp⟩
    have F11 := Lib.hid (F.out.step hb11)
    have KSY := Lib.hid (KS.out w11 F11.out.bel _ _ hN hA)
    have HW11 := Lib.hid hw11
    clear hN hA KS hb11 hw11 hbn F
    go_wp2_with fail
    rw [← HW11.out]
    refine KSY.out.mono ?_
    rintro e w12 ⟨rfl, hb12⟩
    have F12 := Lib.hid (F11.out.step hb12)
    clear hb12 F11 KSY HW11 a0 a1 a0' a1'
    go_wp2_with fail
    refine (KRu.out _ F12.out.bel).mono ?_
    rintro e w13 ⟨rfl, hb13⟩
    have F13 := Lib.hid (F12.out.step hb13)
    clear hb13 F12 KRu
    obtain ⟨w14, hw14⟩ : ∃ w14, w14 = w13.alloc (.cells #[.int .i64 v1, .int .i64 v2] 23) := ⟨_, rfl⟩
    have hb14 : Below w13.heap.size w13 w14 := by rw [hw14]; exact belx
    have F14 := Lib.hid (F13.out.step hb14)
    have V14 : Hid (BothAt w14 w13.heap.size (.int .i64 v1) (.int .i64 v2)) := Lib.hid (by rw [hw14]; exact ⟨by go_simp, by go_simp⟩)
    obtain ⟨⟨⟨h0, h1⟩, ⟨h2, h3⟩, h4, h5, h6⟩, ⟨k0, k1⟩, ⟨a0, a1⟩, ⟨b0, b1⟩, hB⟩ := F14.out
    rw [hw14] at a0 a1
    have HW14 := Lib.hid hw14
    clear hb14 hw14 b0 b1 hB F13 h0 h1 h2 h3 h4 h5 h6 k0 k1
    go_wp2_with fail
    rw [← HW14.out]
    refine (KRo.out _).mono ?_
    rintro e w15 ⟨rfl, hb15⟩
    have F15 := Lib.hid (F14.out.step hb15)
    have V15 := Lib.hid (V14.out.step hb15)
    clear hb15 F14 V14 HW14 KRo a0 a1
    obtain ⟨w16, hw16⟩ : ∃ w16, w16 = w15.alloc (.cells #[.int .i64 r, .int .i64 m] 23) := ⟨_, rfl⟩
    have hb16 : Below w15.heap.size w15 w16 := by rw [hw16]; exact belx
    have HB := Lib.hid (F15.out.step hb16).bel
    have V16 := Lib.hid (V15.out.step hb16)
    have R16 : Hid (BothAt w16 w15.heap.size (.int .i64 r) (.int .i64 m)) := Lib.hid (by rw [hw16]; exact ⟨by go_simp, by go_simp⟩)
    have HW16 := Lib.hid hw16
    clear hb16 hw16 F15 V15
    go_wp2_with fail
    rw [← HW16.out]
    obtain ⟨v0, v1'⟩ := V16.out
    obtain ⟨r0, r1'⟩ := R16.out
    clear HW16 V16 R16
    go_region_held3 (fun w' => w'.cell? ⟨w13.heap.size, 0, none⟩ = some (.int .i64 v1) ∧ w'.cell? ⟨w13.heap.size, 1, none⟩ = some (.int .i64 v2) ∧ w'.cell? ⟨w15.heap.size, 0, none⟩ = some (.int .i64 r) ∧ w'.cell? ⟨w15.heap.size, 1, none⟩ = some (.int .i64 m)) (first | go_keep | (go_split_ands; refine ⟨?_, ?_, ?_, ?_⟩ <;> first | assumption | exact carry (by assumption) (by go_simp) | exact carry (by assumption) (by assumption))) (first | (go_at_call 12; refine (KSv.out _).mono ?_; rintro e wy ⟨rfl, hby⟩; have HBY : Hid (Below w16.heap.size w16 wy) := Lib.hid belx) | (go_at_call 15; refine (KST.out _).mono ?_; rintro e wz ⟨rfl, rfl⟩))
    all_goals go_wp2_with fail
    all_goals go_ret
    all_goals exact ⟨rfl, HB.out.trans (HBY.out.mono HB.out.size)⟩

theorem top_numbers_no (p q : ByteArray) (mi mf xf g g2 : Int) (pt cm : UInt8) (c s d t : Int) (w : World) (hE : RuleEnv w) (hM : MKinds w) (hp : p.size ≤ 9223372036854775807) (hq : q.size ≤ 9223372036854775807)
    (hno : (fmtR p q mi mf xf g g2 pt cm c s).1 ≠ 0 ∨ (fmtR p q mi mf xf g g2 pt cm d t).1 ≠ 0) :
    Calls Tryz.prog 4 #[patV p q mi mf xf g g2, symC pt cm, decV c s, decV d t] w fun e w' => e = .returned (.bool true) ∧ Below w.heap.size w w' := by
  have KV := Lib.hid (fun W (hb : Below w.heap.size w W) => served_ok W (hE.below hb) (hM.below hb))
  have KFa := Lib.hid (fun W (hb : Below w.heap.size w W) => nout_format_all p q mi mf xf g g2 pt cm c s W (hE.below hb).maxl (hE.below hb).pow hp hq)
  have KFb := Lib.hid (fun W (hb : Below w.heap.size w W) => nout_format_all p q mi mf xf g g2 pt cm d t W (hE.below hb).maxl (hE.below hb).pow hp hq)
  have empty : ∀ c s, (fmtR p q mi mf xf g g2 pt cm c s).1 ≠ 0 → (fmtR p q mi mf xf g g2 pt cm c s).2 = ⟨#[]⟩ := fun c s h => by
    unfold fmtR at h ⊢
    split
    · rename_i h1
      rw [if_pos h1] at h
      split
      · rename_i h2
        rw [if_pos h2] at h
        exact absurd rfl h
      · rfl
    · rfl
  have hem := empty c s
  have go : ∀ k : Int, k ≠ 0 → errOf k = errT k := fun k h => by unfold errOf; rw [if_neg h]
  generalize (fmtR p q mi mf xf g g2 pt cm c s).1 = k1 at *
  generalize (fmtR p q mi mf xf g g2 pt cm d t).1 = k2 at *
  generalize (fmtR p q mi mf xf g g2 pt cm c s).2 = Ta at *
  generalize (fmtR p q mi mf xf g g2 pt cm d t).2 = Tb at *
  clear hE hM hp hq empty
  by_cases h1 : k1 = 0
  · have h2 : k2 ≠ 0 := by rcases hno with h | h; exact absurd h1 h; exact h
    rw [go k2 h2] at KFb
    subst h1
    rw [show errOf 0 = Value.nilIface from if_pos rfl] at KFa
    clear hno hem go h2
    go_enter Tryz.func4, Tryz.ntmps4
    go_wp2_with fail
    have F0 := Lib.hid (FrN.start (w := w) (p := p) (q := q) (mi := mi) (mf := mf) (xf := xf) (g := g) (g2 := g2) (pt := pt.toNat) (cm := cm.toNat) (c := c) (s := s) (d := d) (t := t))
    refine (KV.out _ F0.out.bel).mono ?_
    rintro e w1 ⟨rfl, hb1⟩
    have F1 := Lib.hid (F0.out.step hb1)
    clear hb1 F0 KV
    obtain ⟨⟨⟨h0, h1⟩, ⟨h2, h3⟩, h4, h5, h6⟩, ⟨k0, k1⟩, ⟨a0, a1⟩, ⟨b0, b1⟩, hB⟩ := F1.out
    clear b0 b1 hB
    go_wp2_with fail
    refine (KFa.out _ F1.out.bel).mono ?_
    rintro e w2 ⟨rfl, hb2⟩
    have F2 := Lib.hid (F1.out.step hb2)
    clear hb2 F1 KFa h0 h1 h2 h3 h4 h5 h6 k0 k1 a0 a1
    obtain ⟨⟨⟨h0, h1⟩, ⟨h2, h3⟩, h4, h5, h6⟩, ⟨k0, k1⟩, ⟨a0, a1⟩, ⟨b0, b1⟩, hB⟩ := F2.out
    clear a0 a1 hB
    go_wp2_with fail
    refine (KFb.out _ F2.out.bel).mono ?_
    rintro e w3 ⟨rfl, hb3⟩
    have F3 := Lib.hid (F2.out.step hb3)
    clear hb3 F2 KFb h0 h1 h2 h3 h4 h5 h6 k0 k1 b0 b1
    go_wp2_with fail
    go_ret
    exact ⟨rfl, F3.out.bel⟩
  · obtain rfl := hem h1
    rw [go k1 h1] at KFa
    obtain ⟨E2, hE2⟩ : ∃ E2, E2 = errOf k2 := ⟨_, rfl⟩
    rw [← hE2] at KFb
    clear hno hem go h1 hE2
    go_enter Tryz.func4, Tryz.ntmps4
    go_wp2_with fail
    have F0 := Lib.hid (FrN.start (w := w) (p := p) (q := q) (mi := mi) (mf := mf) (xf := xf) (g := g) (g2 := g2) (pt := pt.toNat) (cm := cm.toNat) (c := c) (s := s) (d := d) (t := t))
    refine (KV.out _ F0.out.bel).mono ?_
    rintro e w1 ⟨rfl, hb1⟩
    have F1 := Lib.hid (F0.out.step hb1)
    clear hb1 F0 KV
    obtain ⟨⟨⟨h0, h1⟩, ⟨h2, h3⟩, h4, h5, h6⟩, ⟨k0, k1⟩, ⟨a0, a1⟩, ⟨b0, b1⟩, hB⟩ := F1.out
    clear b0 b1 hB
    go_wp2_with fail
    refine (KFa.out _ F1.out.bel).mono ?_
    rintro e w2 ⟨rfl, hb2⟩
    have F2 := Lib.hid (F1.out.step hb2)
    clear hb2 F1 KFa h0 h1 h2 h3 h4 h5 h6 k0 k1 a0 a1
    obtain ⟨⟨⟨h0, h1⟩, ⟨h2, h3⟩, h4, h5, h6⟩, ⟨k0, k1⟩, ⟨a0, a1⟩, ⟨b0, b1⟩, hB⟩ := F2.out
    clear a0 a1 hB
    go_wp2_with fail
    refine (KFb.out _ F2.out.bel).mono ?_
    rintro e w3 ⟨rfl, hb3⟩
    have F3 := Lib.hid (F2.out.step hb3)
    clear hb3 F2 KFb h0 h1 h2 h3 h4 h5 h6 k0 k1 b0 b1
    go_wp2_with fail
    go_ret
    exact ⟨rfl, F3.out.bel⟩

/-- TopNumbers: it returns true -/
theorem top_numbers (p q : ByteArray) (mi mf xf g g2 : Int) (pt cm : UInt8) (c s d t : Int) (w : World) (hE : RuleEnv w) (hM : MKinds w) (hK : KindsAt w) (hL : NumLaid w) (hp : p.size ≤ 9223372036854775807) (hq : q.size ≤ 9223372036854775807) :
    Calls Tryz.prog 4 #[patV p q mi mf xf g g2, symC pt cm, decV c s, decV d t] w fun e w' => e = .returned (.bool true) ∧ Below w.heap.size w w' := by
  by_cases h : noutErr p q mi mf xf g g2 pt cm = 0 ∧ decOk c s ∧ decOk d t
  · obtain ⟨he, ha, hb⟩ := h
    obtain ⟨_, _, _, ⟨i1, i2, i3, i4, i5, i6, i7, i8, i9, i10⟩, _⟩ := noutErr_facts he
    obtain ⟨mi, rfl⟩ : ∃ n : Nat, mi = n := ⟨mi.toNat, by omega⟩
    obtain ⟨mf, rfl⟩ : ∃ n : Nat, mf = n := ⟨mf.toNat, by omega⟩
    obtain ⟨xf, rfl⟩ : ∃ n : Nat, xf = n := ⟨xf.toNat, by omega⟩
    obtain ⟨g, rfl⟩ : ∃ n : Nat, g = n := ⟨g.toNat, by omega⟩
    obtain ⟨g2, rfl⟩ : ∃ n : Nat, g2 = n := ⟨g2.toNat, by omega⟩
    obtain ⟨s, rfl⟩ : ∃ n : Nat, s = n := ⟨s.toNat, by have := ha.1; omega⟩
    obtain ⟨t, rfl⟩ : ∃ n : Nat, t = n := ⟨t.toNat, by have := hb.1; omega⟩
    exact top_numbers_ok p q mi mf xf g g2 pt cm c d s t w hE hM hK hL he ha hb
  · refine top_numbers_no p q mi mf xf g g2 pt cm c s d t w hE hM hp hq ?_
    by_cases he : noutErr p q mi mf xf g g2 pt cm = 0
    · by_cases ha : decOk c s
      · right
        unfold fmtR
        rw [if_pos he, if_neg (fun hb => h ⟨he, ha, hb⟩)]
        decide
      · left
        unfold fmtR
        rw [if_pos he, if_neg ha]
        decide
    · left
      unfold fmtR
      rw [if_neg he]
      exact he
end Go.Proofs.YtplaohmdllindaaGreatDoor
