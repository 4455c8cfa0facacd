/- ServeSay, TopCounts: texts put together. -/
import Derived.Test.YtplaohmdllindaaGreatDoorTd50
import Derived.Test.YtplaohmdllindaaGreatDoorTd49
import Derived.Test.YtplaohmdllindaaGreatDoorTd52
import Derived.Test.YtplaohmdllindaaGreatDoorTd30
import Derived.Test.YtplaohmdllindaaGreatDoorTd1
import Derived.Test.YtplaohmdllindaaGreatDoorTd28
import Derived.Test.YtplaohmdllindaaGreatDoorTd33
set_option linter.unusedVariables false
set_option linter.unusedSimpArgs false
/- serve.Say of the one text; served. -/
namespace Go.Proofs.YtplaohmdllindaaGreatDoor
open Go.RowKit Go.Maps

def enT : ByteArray := ⟨#[101, 110]⟩
def deT : ByteArray := ⟨#[100, 101]⟩
def hiT : ByteArray := ⟨#[104, 105]⟩
def enB : BunC := ⟨enT, [⟨hiT, helloS⟩]⟩
theorem en_find : findP [enB] deT hiT = (0, 0, helloS) := by decide +kernel
theorem en_err : enB.err = 0 := by decide +kernel
theorem en_small : enB.small := ⟨by decide, by decide, fun e he => by
  simp only [enB, List.mem_cons, List.not_mem_nil, or_false] at he
  subst he
  exact ⟨by decide, by decide⟩⟩
theorem one_of {s : ByteArray} (h1 : lowerL s.data.toList = s.data.toList) (h2 : Lib.splitB ⟨#[45]⟩ 0 (Lib.countB s ⟨#[45]⟩) s = [s]) : One s := fun L hL => by
  have e : s = L := ByteArray.ext (Array.ext' (h1.symm.trans hL))
  subst e
  exact ⟨s, h2⟩
theorem en_one : One enB.tag := one_of (by decide +kernel) (by decide +kernel)
theorem de_one : One deT := one_of (by decide +kernel) (by decide +kernel)
theorem en_lang : ∃ x, langOf enT.data.toList = some x := ⟨_, rfl⟩
theorem hello_fits : fitsP 1 [Nd.mk 1 helloS 0 []] [] = 0 := by decide +kernel
theorem en_cut : Lib.cut enT.data.toList [45] = (enT.data.toList, [], false) := by decide +kernel

set_option maxHeartbeats 8000000 in
set_option maxRecDepth 100000 in
theorem serve_say1 (W0 w0 w : World) (sv sb cb pb mb g : Nat) (hE0 : RuleEnv W0) (hK0 : MKinds W0) (hb0 : Below W0.heap.size W0 w) (h0 : W0.heap.size ≤ cb ∧ W0.heap.size ≤ pb ∧ W0.heap.size ≤ mb) (hCo : CopiedAt w0 w enB sv sb cb mb g) (hC : CacheAt w cb pb 1 Cch.none 0) (hm : HMap w mb 0 []) (hd : sv ≠ cb ∧ sv ≠ pb ∧ sv ≠ mb ∧ mb ≠ cb ∧ mb ≠ pb) (hg : g ≠ cb ∧ g ≠ pb ∧ g ≠ mb) :
    Calls Tryz.prog 18 #[.pointer (some ⟨sv, 0, none⟩), .string deT, .string hiT, .slice none 0 0] w fun e w' => e = .returned (.tuple #[.string helloS, .nilIface]) ∧ Off [cb, pb, mb] w w' := by
  have hE := hE0.below hb0
  have hK := hK0.below hb0
  have HW0 : Hid (∀ w', Off [cb, pb, mb] w w' → RuleEnv w' ∧ MKinds w') := Lib.hid (fun w' ho => by
    have hb : Below W0.heap.size W0 w' := hb0.trans (ho.toBelow (fun k hk => by simp only [List.mem_cons, List.not_mem_nil, or_false] at hk; omega) hb0.size)
    exact ⟨hE0.below hb, hK0.below hb⟩)
  clear hE0 hK0 hb0 h0
  obtain ⟨n, c, hn, hnc, hc9, hV, hB, hg0, hg1⟩ := hCo
  have HN : Hid (n = [enB].length) := Lib.hid hn
  have KF : Hid (Calls Tryz.prog 54 #[.slice (some ⟨g, 0, none⟩) n c, .string deT, .string hiT] w fun e w' => e = .returned (.tuple #[.int .i64 0, .string helloS, .nilIface]) ∧ Below w.heap.size w w') := Lib.hid (by
    have h := find_in1 (some ⟨g, 0, none⟩) c [enB] deT hiT w hE.maxl (BunsF.all hB) (by simp; omega) hc9 (fun b hb => by rw [List.mem_singleton.1 hb]; exact en_small) (by decide) de_one (fun b hb => by rw [List.mem_singleton.1 hb]; exact en_one)
    rw [en_find] at h
    rw [hn]
    exact h)
  obtain ⟨gA, gc, k0, _⟩ : ∃ (A : Option Addr) (c : Nat), w.cell? ⟨g, 0, none⟩ = some (.string enT) ∧ True := by
    obtain ⟨b, o, e, hat⟩ := (BunsF.all hB).at (by simp)
    cases e
    obtain ⟨A, c, h0, _⟩ := hat 0 enB rfl
    exact ⟨A, c, h0, trivial⟩
  have HG0 := Lib.hid k0
  have HE := Lib.hid hE
  have HK := Lib.hid hK
  have HC := Lib.hid hC
  have HM := Lib.hid hm
  have HD := Lib.hid hd
  have HG := Lib.hid hg
  have HV := Lib.hid hV
  obtain ⟨x, hx⟩ := en_lang
  have HX := Lib.hid hx
  have i0 : (0 : Int) < (n : Int) := by omega
  have i2 : (n : Int) ≤ (c : Int) := by omega
  have c4 := hV.c4
  have c3 := hV.c3
  clear hE hK hC hm hd hg hV hB hn hx k0 hg0 hg1
  go_enter Tryz.func18, Tryz.ntmps18
  go_wp2_with fail
  refine KF.out.mono ?_
  rintro e w1 ⟨rfl, hb1⟩
  have HB1 := Lib.hid hb1
  clear hb1 KF
  go_wp2_with fail
  refine (serve_ready hiT w1 sv sb cb pb mb _ 1 (HE.out.below HB1.out) (HK.out.below HB1.out) (HV.out.below HB1.out) (HC.out.below HB1.out) (HM.out.below HB1.out) HD.out (by decide)).mono ?_
  rintro e w2 ⟨⟨g2, n1, c1, A2, n2, c2, rfl, hn1, hn1c, hc19, hst, hnd⟩, ho2⟩
  have hd := HD.out
  have hg := HG.out
  have HV2 := Lib.hid ((HV.out.below HB1.out).off ho2 (by simp; omega))
  have HT2 := Lib.hid (ho2.cell (carry HB1.out HG0.out) (by simp; omega))
  have HO2 : Hid (Off [cb, pb, mb] w w2) := Lib.hid (((Off.refl _ _).below HB1.out (Nat.le_refl _)).trans ho2)
  obtain ⟨w3, hw3⟩ : ∃ w3, w3 = w2.alloc (.cells #[.slice (some ⟨g2, 0, none⟩) n1 c1, .slice A2 n2 c2] 131) := ⟨_, rfl⟩
  have hb3 : Below w2.heap.size w2 w3 := by rw [hw3]; exact belx
  have HO3 := Lib.hid (HO2.out.below hb3 HO2.out.size)
  have hz2 : w.heap.size ≤ w2.heap.size := HO2.out.size
  have HV3 := Lib.hid (HV2.out.below hb3)
  have HT3 := Lib.hid (carry hb3 HT2.out)
  have q0 : w3.cell? ⟨w2.heap.size, 0, none⟩ = some (.slice (some ⟨g2, 0, none⟩) n1 c1) := by rw [hw3]; go_simp
  have q1 : w3.cell? ⟨w2.heap.size, 1, none⟩ = some (.slice A2 n2 c2) := by rw [hw3]; go_simp
  have HQ0 := Lib.hid q0
  have HQ1 := Lib.hid q1
  have HST := Lib.hid (hst.below hb3)
  have HND := Lib.hid (NodesIn.below hb3 1 hnd)
  have HNC : Hid (n1 = 1 ∧ n1 ≤ c1 ∧ c1 ≤ 9223372036854775807) := Lib.hid ⟨hn1, hn1c, hc19⟩
  have v3 := HV3.out.c3
  have t3 := HT3.out
  have HW3 := Lib.hid hw3
  have HE3 : Hid (RuleEnv w3) := Lib.hid (HW0.out w3 HO3.out).1
  have HK3 : Hid (MKinds w3) := Lib.hid (HW0.out w3 HO3.out).2
  have KCut : Hid (Calls Tryz.prog 34 #[.string enT, .string ⟨#[45]⟩] w3 fun e w' => e = .returned (.tuple #[.string enT, .string ⟨#[]⟩, .bool false]) ∧ Below w3.heap.size w3 w') := Lib.hid (by
    obtain ⟨m, hm⟩ := HE3.out.maxl
    refine (Tryz.strings_Cut enT ⟨#[45]⟩ m w3 (by decide) hm).mono ?_
    rintro e w' ⟨rfl, k, rfl⟩
    refine ⟨?_, bel_drewN _ (Below.refl _ _)⟩
    rw [show (⟨#[45]⟩ : ByteArray).data.toList = [45] from rfl, en_cut])
  rw [hw3] at v3 t3
  clear hw3 hb3 hst hnd hn1 hn1c hc19 ho2 q0 q1 HV2 HT2 HO2 hd hg c3 c4
  go_wp2_with fail
  rw [← HW3.out]
  refine KCut.out.mono ?_
  rintro e w4 ⟨rfl, hb4⟩
  have HO4 := Lib.hid (HO3.out.below hb4 HO3.out.size)
  have q0 := carry hb4 HQ0.out
  have q1 := carry hb4 HQ1.out
  have KS := Lib.hid (code_say1 x helloS enT g2 n1 c1 A2 n2 c2 w4 (HE3.out.below hb4) (HK3.out.below hb4) HNC.out.1 HNC.out.2.1 HNC.out.2.2 (HST.out.below hb4) (NodesIn.below hb4 1 HND.out) (by decide) HX.out (by decide) hello_fits)
  clear hb4 v3 t3 KCut HO3
  go_wp2_with fail
  refine KS.out.mono ?_
  rintro e w5 ⟨rfl, hb5⟩
  have HO5 := Lib.hid (HO4.out.below hb5 HO4.out.size)
  clear hb5
  go_wp2_with fail
  go_ret2
  exact ⟨rfl, HO5.out⟩

set_option maxHeartbeats 8000000 in
set_option maxRecDepth 100000 in
theorem served_ok (w : World) (hE : RuleEnv w) (hK : MKinds w) :
    Calls Tryz.prog 5 #[] w fun e w' => e = .returned (.bool true) ∧ Below w.heap.size w w' := by
  have HE := Lib.hid hE
  have HK := Lib.hid hK
  clear hE hK
  go_enter Tryz.func5, Tryz.ntmps5
  go_wp2_with fail
  refine (serve_new w).mono ?_
  rintro e w1 ⟨n, cb, pb, mb, rfl, hV, hC, hM, hS, h1, h2, h3, h4, h5, h6, hb1⟩
  have HV := Lib.hid hV
  have HC := Lib.hid hC
  have HM := Lib.hid hM
  have HS := Lib.hid hS
  have HB1 := Lib.hid hb1
  obtain ⟨w2, hw2⟩ : ∃ w2, w2 = (w1.alloc (.cells #[.string hiT, .string helloS] 61)).alloc (.cells #[.string enT, .slice (some ⟨w1.heap.size, 0, none⟩) 1 1] 64) := ⟨_, rfl⟩
  have hb2 : Below w1.heap.size w1 w2 := by rw [hw2]; exact belx
  have k0 : w2.cell? ⟨w1.heap.size, 0, none⟩ = some (.string hiT) := by rw [hw2]; go_simp
  have k1 : w2.cell? ⟨w1.heap.size, 1, none⟩ = some (.string helloS) := by rw [hw2]; go_simp
  have k2 : w2.cell? ⟨w1.heap.size + 1, 0, none⟩ = some (.string enT) := by rw [hw2]; go_simp
  have k3 : w2.cell? ⟨w1.heap.size + 1, 1, none⟩ = some (.slice (some ⟨w1.heap.size, 0, none⟩) 1 1) := by rw [hw2]; go_simp
  have hL : BunsIn (erase w1.heap.size w2) (some ⟨w1.heap.size + 1, 0, none⟩) [enB] := by
    refine .inr ⟨w1.heap.size + 1, 0, rfl, fun j y hy => ?_⟩
    match j, hy with
    | 0, hy =>
      injection hy with hy
      subst hy
      refine ⟨some ⟨w1.heap.size, 0, none⟩, 1, (erase_cell (by omega)).trans k2, (erase_cell (by omega)).trans k3, .inr ⟨w1.heap.size, 0, rfl, fun i z hz => ?_⟩, by decide, by decide, by simp⟩
      match i, hz with
      | 0, hz =>
        injection hz with hz
        subst hz
        exact ⟨(erase_cell (Nat.le_refl _)).trans k0, (erase_cell (Nat.le_refl _)).trans k1⟩
  have KLd : Hid (Calls Tryz.prog 17 #[.pointer (some ⟨mb + 1, 0, none⟩), .slice (some ⟨w1.heap.size + 1, 0, none⟩) 1 1] w2 fun e w' => e = .returned (.tuple #[.int .i64 1, .nilIface]) ∧ (∃ g pb', CopiedAt w2 w' enB (mb + 1) (n + 1) cb mb g ∧ CacheAt w' cb pb' 1 Cch.none 0 ∧ g < pb' ∧ HMap w' mb 0 []) ∧ Off [mb + 1, n + 1, n, cb, mb] w2 w') := Lib.hid
    (serve_load1 [enB] enB (some ⟨w1.heap.size + 1, 0, none⟩) 1 w2 (mb + 1) (n + 1) n cb pb mb n w1.heap.size (HE.out.below (HB1.out.trans (hb2.mono HB1.out.size))).maxl (HV.out.below hb2) (HS.out.below hb2) (HC.out.below hb2) (HM.out.below hb2) (by have := hb2.size; omega)
      ⟨by simp; omega, by simp; omega, by simp; omega, by simp; omega⟩ ⟨by omega, by omega, by omega⟩ ⟨by omega, by omega, by omega⟩ rfl rfl hL (by decide) (by decide) en_err en_small en_one)
  have HB2 := Lib.hid (HB1.out.trans (hb2.mono HB1.out.size))
  have HW2 : Hid (w2 = (w1.alloc (.cells #[.string ⟨#[104, 105]⟩, .string ⟨#[104, 101, 108, 108, 111]⟩] 61)).alloc (.cells #[.string ⟨#[101, 110]⟩, .slice (some ⟨w1.heap.size, 0, none⟩) 1 1] 64)) := Lib.hid hw2
  have hz2 : w2.heap.size = mb + 4 := by rw [hw2]; simp [h6]
  have HH : Hid (w.heap.size ≤ cb ∧ w.heap.size ≤ pb ∧ cb < n ∧ pb < n ∧ n + 2 ≤ mb) := Lib.hid ⟨h1, h2, h3, h4, h5⟩
  have HZ2 := Lib.hid hz2
  clear hV hC hM hS hb1 hw2 hb2 k0 k1 k2 k3 hL HV HC HM HS hz2
  clear h1 h2 h3 h4 h5 h6
  go_wp2_with fail
  rw [← HW2.out]
  refine KLd.out.mono ?_
  rintro e w3 ⟨rfl, ⟨g, pb', hCo, hC3, hg, hM3⟩, ho3⟩
  have hh := HH.out
  have hz2 := HZ2.out
  have HB3 : Hid (Below w.heap.size w w3) := Lib.hid (HB2.out.trans (ho3.toBelow (fun k hk => by simp only [List.mem_cons, List.not_mem_nil, or_false] at hk; omega) HB2.out.size))
  have hgw : w2.heap.size ≤ g := by
    obtain ⟨_, _, _, _, _, _, _, h, _⟩ := hCo
    exact h
  have KSy : Hid (Calls Tryz.prog 18 #[.pointer (some ⟨mb + 1, 0, none⟩), .string ⟨#[100, 101]⟩, .string ⟨#[104, 105]⟩, .slice none 0 0] w3 fun e w' => e = .returned (.tuple #[.string ⟨#[104, 101, 108, 108, 111]⟩, .nilIface]) ∧ Off [cb, pb', mb] w3 w') := Lib.hid (serve_say1 w w2 w3 (mb + 1) (n + 1) cb pb' mb g HE.out HK.out HB3.out ⟨by omega, by omega, by omega⟩ hCo hC3 hM3 ⟨by omega, by omega, by omega, by omega, by omega⟩ ⟨by omega, by omega, by omega⟩)
  have HPB : Hid (w.heap.size ≤ pb') := Lib.hid (by omega)
  clear hCo hC3 hg hM3 ho3 KLd HW2 hgw hh hz2
  go_wp2_with fail
  refine KSy.out.mono ?_
  rintro e w4 ⟨rfl, ho4⟩
  have HB4 := Lib.hid (HB3.out.trans (ho4.toBelow (fun k hk => by have := HH.out; have := HPB.out; simp only [List.mem_cons, List.not_mem_nil, or_false] at hk; omega) HB3.out.size))
  clear ho4 KSy
  go_wp2_with fail
  go_ret
  exact ⟨rfl, HB4.out⟩
end Go.Proofs.YtplaohmdllindaaGreatDoor

/- TopCounts: the walk. -/
namespace Go.Proofs.YtplaohmdllindaaGreatDoor
open Go.RowKit

def topAll (L : Nat) : Bool := topN.all fun x => decide (x.t.size ≤ L) && x.cs.all fun c => decide (c.1.size ≤ L) && c.2.all fun y => decide (y.t.size ≤ L) && y.cs.all fun e => decide (e.1.size ≤ L)
theorem top_fit : FitN 200 2 topN := by
  have h : topAll 200 = true := by decide +kernel
  intro x hx
  have h1 := List.all_eq_true.1 h x hx
  rw [Bool.and_eq_true, decide_eq_true_eq] at h1
  refine ⟨h1.1, fun c hc => ?_⟩
  have h2 := List.all_eq_true.1 h1.2 c hc
  rw [Bool.and_eq_true, decide_eq_true_eq] at h2
  refine ⟨h2.1, fun y hy => ?_⟩
  have h3 := List.all_eq_true.1 h2.2 y hy
  rw [Bool.and_eq_true, decide_eq_true_eq] at h3
  refine ⟨h3.1, fun e he => ?_⟩
  have h4 := List.all_eq_true.1 h3.2 e he
  rw [decide_eq_true_eq] at h4
  exact ⟨h4, trivial⟩
theorem top_yes (S : SetC) (c s : Int) (h : decOk c s) : topT S 2 topN (topA c s) = (0, kindT (S.kind (opsC c s.toNat)) ++ ⟨#[32]⟩ ++ numT c s.toNat) := by
  unfold topT
  rw [top_say S c s h, if_pos rfl]
theorem top_nope (S : SetC) (c s : Int) (h : ¬ decOk c s) : topT S 2 topN (topA c s) = (1, ⟨#[]⟩) := by
  have := top_no S c s h
  unfold topT
  rw [this, if_neg (by decide)]
theorem kind_size (k : Nat) : (kindT k).size ≤ 5 := by
  match k with
  | 0 => decide
  | 1 => decide
  | 2 => decide
  | 3 => decide
  | 4 => decide
  | _ + 5 => exact (by decide : (⟨#[111, 116, 104, 101, 114]⟩ : ByteArray).size ≤ 5)
/-- what plural.Kind tells -/
theorem kind_any (S : SetC) (c s : Int) (w : World) (hE : RuleEnv w) (hK : KindsAt w) (h1 : S.ok = true) (h2 : S.small) :
    Calls Tryz.prog 7 #[setV S.s0 S.s1 S.s2 S.s3 S.s4, decV c s] w fun e w' => e = .returned (.tuple #[.string (if decOk c s then kindT (S.kind (opsC c s.toNat)) else ⟨#[]⟩), if decOk c s then .nilIface else errV 1]) ∧ Below w.heap.size w w' := by
  by_cases h : decOk c s
  · rw [if_pos h, if_pos h]
    have hs : ((s.toNat : Nat) : Int) = s := by have := h.1; omega
    have := kind_ok S c s.toNat w hE hK h2 h1 (by rw [hs]; exact h)
    rw [hs] at this
    exact this
  · rw [if_neg h, if_neg h]
    exact kind_dec S c s w hE h2 h1 h

set_option maxHeartbeats 8000000 in
set_option maxRecDepth 100000 in
theorem top_counts (lng : ByteArray) (c s : Int) (w : World) (hE : RuleEnv w) (hM : MKinds w) (hK : KindsAt w) (hL : NumLaid w) (hln : lng.size ≤ 9223372036854775807) :
    Calls Tryz.prog 3 #[.string lng, decV c s] w fun e w' => e = .returned (.bool true) ∧ Below w.heap.size w w' := by
  obtain ⟨S, hS⟩ : ∃ S, S = setOf lng := ⟨_, rfl⟩
  have hR : S.ok = true ∧ S.small := by rw [hS]; exact setOf_right lng
  have KV := Lib.hid (fun W (hb : Below w.heap.size w W) => served_ok W (hE.below hb) (hM.below hb))
  have KK := Lib.hid (fun W (hb : Below w.heap.size w W) => kind_any S c s W (hE.below hb) (hK.below hb) hR.1 hR.2)
  have KP := Lib.hid (fun W (hb : Below w.heap.size w W) => parse_top W (hE.below hb) (hM.below hb))
  have KS := Lib.hid (fun W (hb : Below w.heap.size w W) v A (hN : NodesIn 2 W v topN) (hA : ArgsIn W A (topA c s)) => eval_SayL 200 2 v topN lng A 1 (topA c s) W (hE.below hb) (hM.below hb) (hK.below hb) (hL.below hb) hN hA (Nat.le_refl _) (by omega) (by show (1 : Nat) ≤ _; omega) (Nat.le_refl _) (by omega) top_fit (fun a ha => by
    rw [List.mem_singleton.1 ha]
    exact ⟨(by decide : (⟨#[110]⟩ : ByteArray).size ≤ 140737488355328), (by decide : (⟨#[]⟩ : ByteArray).size ≤ 200)⟩) hln)
  rw [← hS] at KS
  have KF := Lib.hid (fun W (hb : Below w.heap.size w W) => format_num c s W (hE.below hb).maxl (hE.below hb).pow)
  obtain ⟨kk, hkk⟩ : ∃ kk, kk = (if decOk c s then kindT (S.kind (opsC c s.toNat)) else ⟨#[]⟩ : ByteArray) := ⟨_, rfl⟩
  obtain ⟨E2, hE2⟩ : ∃ E2, E2 = (if decOk c s then .nilIface else errV 1 : Value) := ⟨_, rfl⟩
  rw [← hkk, ← hE2] at KK
  obtain ⟨tt, htt⟩ : ∃ tt, tt = (topT S 2 topN (topA c s)).2 := ⟨_, rfl⟩
  obtain ⟨E4, hE4⟩ : ∃ E4, E4 = errOf (topT S 2 topN (topA c s)).1 := ⟨_, rfl⟩
  rw [← htt, ← hE4] at KS
  have HKK := Lib.hid hkk
  have HE2 := Lib.hid hE2
  have HTT := Lib.hid htt
  have HE4 := Lib.hid hE4
  have hb0 : Below w.heap.size w (w.alloc (.cells #[.int .i64 c, .int .i64 s] 23)) := belx
  have HB0 := Lib.hid hb0
  clear hR hE hM hK hL hkk hE2 htt hE4 hb0
  obtain ⟨E1, HE1, KL⟩ : ∃ E1 : Value, Hid (E1 = .nilIface ∨ E1 = errV 2) ∧ Hid (∀ W : World, Calls Tryz.prog 6 #[.string lng] W fun e w' => e = .returned (.tuple #[setV S.s0 S.s1 S.s2 S.s3 S.s4, E1]) ∧ Below W.heap.size W w') := by
    cases hlg : langOf lng.data.toList with
    | none =>
      have hS2 : S = noS := by rw [hS]; unfold setOf; rw [hlg]; rfl
      rw [hS2]
      exact ⟨errV 2, Lib.hid (.inr rfl), Lib.hid (fun W => lang_none lng W (by unfold maxLen; omega) hlg)⟩
    | some x =>
      have hS2 : S = x := by rw [hS]; unfold setOf; rw [hlg]; rfl
      rw [hS2]
      exact ⟨.nilIface, Lib.hid (.inl rfl), Lib.hid (fun W => lang_known lng x W (by unfold maxLen; omega) hlg)⟩
  clear hS
  go_enter Tryz.func3, Tryz.ntmps3
  go_wp2_with fail
  refine (KV.out _ HB0.out).mono ?_
  rintro e w1 ⟨rfl, hb1⟩
  have d0 := carry hb1 (show (w.alloc (.cells #[.int .i64 c, .int .i64 s] 23)).cell? ⟨w.heap.size, 0, none⟩ = some (.int .i64 c) by go_simp)
  have d1 := carry hb1 (show (w.alloc (.cells #[.int .i64 c, .int .i64 s] 23)).cell? ⟨w.heap.size, 1, none⟩ = some (.int .i64 s) by go_simp)
  have HB1 := Lib.hid (HB0.out.trans (hb1.mono HB0.out.size))
  have HD0 := Lib.hid d0
  have HD1 := Lib.hid d1
  clear hb1 KV d0 d1
  go_wp2_with fail
  refine (KL.out _).mono ?_
  rintro e w2 ⟨rfl, hb2⟩
  have HB2 := Lib.hid (HB1.out.trans (hb2.mono HB1.out.size))
  obtain ⟨w3, hw3⟩ : ∃ w3, w3 = w2.alloc (.cells #[.string S.s0, .string S.s1, .string S.s2, .string S.s3, .string S.s4] 26) := ⟨_, rfl⟩
  have hb3 : Below w2.heap.size w2 w3 := by rw [hw3]; exact belx
  have HB3 := Lib.hid (HB2.out.trans (hb3.mono HB2.out.size))
  replace HD0 := Lib.hid (carry hb3 (carry hb2 HD0.out))
  replace HD1 := Lib.hid (carry hb3 (carry hb2 HD1.out))
  have d0 := HD0.out
  have d1 := HD1.out
  have HW3 := Lib.hid hw3
  rw [hw3] at d0 d1
  clear hb2 hw3 hb3 KL HB1 HB2
  go_wp2_with fail
  rw [← HW3.out]
  refine (KK.out w3 HB3.out).mono ?_
  rintro e w4 ⟨rfl, hb4⟩
  have HB4 := Lib.hid (HB3.out.trans (hb4.mono HB3.out.size))
  replace HD0 := Lib.hid (carry hb4 HD0.out)
  replace HD1 := Lib.hid (carry hb4 HD1.out)
  clear hb4 HW3 d0 d1 KK
  go_wp2_with fail
  refine (KP.out w4 HB4.out).mono ?_
  rintro e w5 ⟨A, n, cc, rfl, hN, hb5⟩
  have HB5 := Lib.hid (HB4.out.trans (hb5.mono HB4.out.size))
  replace HD0 := Lib.hid (carry hb5 HD0.out)
  replace HD1 := Lib.hid (carry hb5 HD1.out)
  have hn1 : n = 1 := by
    obtain ⟨_, _, heq, _⟩ := hN.form
    injection heq
  subst hn1
  obtain ⟨w6, hw6⟩ : ∃ w6, w6 = w5.alloc (.cells #[.string ⟨#[110]⟩, .bool true, .int .i64 c, .int .i64 s, .string ⟨#[]⟩] 38) := ⟨_, rfl⟩
  have hb6 : Below w5.heap.size w5 w6 := by rw [hw6]; exact belx
  have hA : ArgsIn w6 (some ⟨w5.heap.size, 0, none⟩) (topA c s) := by
    refine .inr ⟨w5.heap.size, 0, rfl, fun j y hy => ?_⟩
    match j, hy with
    | 0, hy =>
      injection hy with hy
      subst hy
      rw [hw6]
      exact ⟨by go_simp, by go_simp, by go_simp, by go_simp, by go_simp⟩
  have HB6 := Lib.hid (HB5.out.trans (hb6.mono HB5.out.size))
  have KSY := Lib.hid (KS.out w6 HB6.out _ _ (NodesIn.below hb6 2 hN) hA)
  have HW6 := Lib.hid hw6
  replace HD0 := Lib.hid HD0.out
  have d0 := HD0.out
  have d1 := HD1.out
  have HDD : Hid (w6.cell? ⟨w.heap.size, 0, none⟩ = some (.int .i64 c) ∧ w6.cell? ⟨w.heap.size, 1, none⟩ = some (.int .i64 s)) := Lib.hid ⟨carry hb6 d0, carry hb6 d1⟩
  clear hb5 hN hw6 hb6 hA KS KP HB4 HB5
  go_wp2_with fail
  rw [← HW6.out]
  refine KSY.out.mono ?_
  rintro e w7 ⟨rfl, hb7⟩
  have HB7 := Lib.hid (HB6.out.trans (hb7.mono HB6.out.size))
  have c0 := carry hb7 HDD.out.1
  have c1 := carry hb7 HDD.out.2
  clear hb7 KSY HW6 HD0 HD1 HDD d0 d1 HB3 HB0 HB6
  rcases HE1.out with rfl | rfl
  · by_cases hd : decOk c s
    · have e2 : E2 = .nilIface := by rw [HE2.out, if_pos hd]
      have e4 : E4 = .nilIface := by rw [HE4.out, top_yes S c s hd]; rfl
      have ek : kk = kindT (S.kind (opsC c s.toNat)) := by rw [HKK.out, if_pos hd]
      have hkz : kk.size ≤ 5 := by rw [ek]; exact kind_size _
      have hs : ((s.toNat : Nat) : Int) = s := by have := hd.1; omega
      have hnz := numT_size c s.toNat (by rw [hs]; exact hd)
      obtain ⟨nt, hnt⟩ : ∃ nt, nt = numT c s.toNat := ⟨_, rfl⟩
      rw [← hnt] at hnz
      obtain ⟨u1, eu1, r1⟩ := addl kk ⟨#[32]⟩ (by have : (⟨#[32]⟩ : ByteArray).size = 1 := rfl; omega)
      have hu1 : u1.size ≤ 6 := by rw [eu1, ByteArray.size_append]; have : (⟨#[32]⟩ : ByteArray).size = 1 := rfl; omega
      obtain ⟨u2, eu2, r2⟩ := addl u1 nt (by omega)
      have et : tt = u2 := by rw [HTT.out, top_yes S c s hd, eu2, eu1, ek, hnt]
      have KF2 := Lib.hid (KF.out w7 HB7.out)
      have hnp : numP c s = (0, nt) := by unfold numP; rw [if_pos hd, hnt]
      rw [hnp, show errOf 0 = Value.nilIface from if_pos rfl] at KF2
      subst e2 e4 et
      clear HKK HE2 HTT HE4 ek hkz hs hnz hnt eu1 hu1 eu2 hnp hd KF HE1
      go_wp2_with fail
      refine KF2.out.mono ?_
      rintro e w8 ⟨rfl, hb8⟩
      have HB8 := Lib.hid (HB7.out.trans (hb8.mono HB7.out.size))
      clear hb8
      go_wp2_with fail
      go_ret
      exact ⟨rfl, HB8.out⟩
    · have e2 : E2 = errV 1 := by rw [HE2.out, if_neg hd]
      have e4 : E4 = errV 1 := by rw [HE4.out, top_nope S c s hd]; rfl
      subst e2 e4
      clear HKK HE2 HTT HE4 hd KF HE1
      go_wp2_with fail
      go_ret
      exact ⟨rfl, HB7.out⟩
  · clear HKK HE2 HTT HE4 KF HE1
    go_wp2_with fail
    go_ret
    exact ⟨rfl, HB7.out⟩
end Go.Proofs.YtplaohmdllindaaGreatDoor
