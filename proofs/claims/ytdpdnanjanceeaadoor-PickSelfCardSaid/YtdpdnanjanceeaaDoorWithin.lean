/- chain.Within of right tags. -/
import Derived.Test.YtdpdnanjanceeaaDoorChainEnds
import Derived.Test.YtdpdnanjanceeaaDoorTagText
namespace Go.Proofs.YtdpdnanjanceeaaDoor
open Go.RowKit
attribute [local go_sem ↓] Go.wp_at_zero Go.wp_at_succ

def TagC.text (t : TagC) : ByteArray := ⟨(tagText t.l.data.toList t.s.data.toList t.r.data.toList (listsOf t.vs)).toArray⟩
/-- Is that text among those of these? -/
def hasText (T : ByteArray) (l : List TagC) : Bool := l.any fun c => c.text.data.toList == T.data.toList
theorem hasText_iff {T : ByteArray} {l : List TagC} : hasText T l = true ↔ ∃ c ∈ l, c.text = T := by
  unfold hasText
  rw [List.any_eq_true]
  constructor
  · rintro ⟨c, hc, he⟩
    exact ⟨c, hc, ByteArray.ext (Array.ext' (beq_iff_eq.1 he))⟩
  · rintro ⟨c, hc, rfl⟩
    exact ⟨c, hc, beq_self_eq_true _⟩
theorem toList_ne {a b : ByteArray} (h : a ≠ b) : ¬ a.toList = b.toList := fun hq => h (by
  rw [Lib.toList_data, Lib.toList_data] at hq
  exact ByteArray.ext (Array.ext' hq))
theorem text_right (C : TagC) (A : Option Addr) (n : Nat) (W : World) (he : C.err = 0) (hX : StrsIn W A C.vs) (hA : A = none → n = 0) :
    Calls Tryd.prog 13 #[tagV C.l C.s C.r A C.vs.length n] W fun e w' => e = .returned (.string C.text) ∧ Below W.heap.size W w' :=
  tag_text C.l C.s C.r A n C.vs W hX hA he

set_option maxHeartbeats 4000000 in
theorem within_ok (C D : TagC) (A B : Option Addr) (n m : Nat) (w : World) (he : C.err = 0) (hd : D.err = 0) (hX : StrsIn w A C.vs) (hA : A = none → n = 0) (hn : C.vs.length ≤ n) (hY : StrsIn w B D.vs) (hB : B = none → m = 0) (hm : D.vs.length ≤ m) :
    Calls Tryd.prog 48 #[tagV C.l C.s C.r A C.vs.length n, tagV D.l D.s D.r B D.vs.length m] w fun e w' => e = .returned (.tuple #[.bool (hasText D.text (chainC C)), .nilIface]) ∧ Below w.heap.size w w' := by
  have KC := Lib.hid (fun W (h : Below w.heap.size w W) => chain_right C A n W he (hX.below h) hA hn)
  have KD := Lib.hid (fun W (h : Below w.heap.size w W) => check_right D B m W hd (hY.below h) hm)
  have KT := Lib.hid (fun W (h : Below w.heap.size w W) => text_right D B m W hd (hY.below h) hB)
  have HE := Lib.hid he
  clear hX hY hA hB he hd
  obtain ⟨T, hT⟩ : ∃ T, T = D.text := ⟨_, rfl⟩
  rw [← hT] at KT ⊢
  generalize hR : hasText T (chainC C) = R
  have HR := Lib.hid hR
  clear hT hR
  obtain ⟨l, s, r, vs⟩ := D
  simp only at *
  go_enter Tryd.func48, Tryd.ntmps48
  go_wp2_with fail
  refine (KC.out _ (by (repeat (first | with_reducible exact Below.refl _ _ | with_reducible refine bel_set ?_ ?_ | with_reducible refine bel_alloc ?_ ?_ | with_reducible refine Below.drew ?_ | with_reducible refine bel_drewN _ ?_ | with_reducible refine bel_call ?_ (by assumption) ?_)); all_goals (first | (simp; done) | omega | (simp; omega)))).mono ?_
  rintro e w1 ⟨⟨g, cp, ts, rfl, hcs, hot, htk⟩, hb1⟩
  have hbw : Below w.heap.size w w1 := (by (repeat (first | with_reducible exact Below.refl _ _ | with_reducible refine bel_set ?_ ?_ | with_reducible refine bel_alloc ?_ ?_ | with_reducible refine Below.drew ?_ | with_reducible refine bel_drewN _ ?_ | with_reducible refine bel_call ?_ (by assumption) ?_)); all_goals (first | (simp; done) | omega | (simp; omega)))
  have s1 := hbw.size
  obtain ⟨_, hcap, hti⟩ := hot.tags
  have HTI := Lib.hid hti
  have HTK := Lib.hid htk
  have HCS := Lib.hid hcs
  have HERR : Hid (∀ t ∈ ts, t.c.err = 0) := Lib.hid (fun t ht => chainC_err _ C rfl HE.out t.c (by rw [← hcs]; exact List.mem_map_of_mem ht))
  have hlen : ts.length ≤ 6 := by
    have h5 := sizeC_le HE.out
    have hcl := chainC_len _ C rfl
    have : (chainC C).length = ts.length := by rw [← hcs, List.length_map]
    omega
  have HQ : Hid (R = hasText T (ts.map (·.c))) := Lib.hid (by rw [hcs]; exact HR.out.symm)
  clear hti htk hcs hot HR HCS HE
  have d0 : w1.cell? ⟨w.heap.size + 1, 0, none⟩ = some (.string l) := carry hb1 (by go_simp)
  have d1 : w1.cell? ⟨w.heap.size + 1, 1, none⟩ = some (.string s) := carry hb1 (by go_simp)
  have d2 : w1.cell? ⟨w.heap.size + 1, 2, none⟩ = some (.string r) := carry hb1 (by go_simp)
  have d3 : w1.cell? ⟨w.heap.size + 1, 3, none⟩ = some (.slice B vs.length m) := carry hb1 (by go_simp)
  go_wp2_with fail
  refine (KD.out _ hbw).mono ?_
  rintro e w2 ⟨rfl, hb2⟩
  have hbw2 : Below w.heap.size w w2 := (by (repeat (first | with_reducible exact Below.refl _ _ | with_reducible refine bel_set ?_ ?_ | with_reducible refine bel_alloc ?_ ?_ | with_reducible refine Below.drew ?_ | with_reducible refine bel_drewN _ ?_ | with_reducible refine bel_call ?_ (by assumption) ?_)); all_goals (first | (simp; done) | omega | (simp; omega)))
  have s2 := hb2.size
  have c0 := carry hb2 d0
  have c1 := carry hb2 d1
  have c2 := carry hb2 d2
  have c3 := carry hb2 d3
  have HC : Hid (w2.cell? ⟨w.heap.size + 1, 0, none⟩ = some (.string l) ∧ w2.cell? ⟨w.heap.size + 1, 1, none⟩ = some (.string s) ∧ w2.cell? ⟨w.heap.size + 1, 2, none⟩ = some (.string r) ∧ w2.cell? ⟨w.heap.size + 1, 3, none⟩ = some (.slice B vs.length m)) := Lib.hid ⟨c0, c1, c2, c3⟩
  have HB2 := Lib.hid hb2
  have HBW := Lib.hid hbw2
  clear c0 c1 c2 c3 d0 d1 d2 d3 hb1 hb2 hbw hbw2 KC KD
  have z2 : w.heap.size + 1 < w2.heap.size := lt_of_cell HC.out.1
  go_wp2_with fail
  go_loopw [26] (fun i wr => ∃ k : Nat, k ≤ ts.length ∧ i = .int .i64 k ∧ Hid (∀ j t, j < k → ts[j]? = some t → t.c.text ≠ T) ∧ Hid (Below w2.heap.size w2 wr)) (fun i _ => ts.length - (intOf i).toNat)
  case atStart => exact ⟨0, Nat.zero_le _, rfl, Lib.hid (fun j t h => by omega), Lib.hid (Below.refl _ _)⟩
  case round =>
    obtain ⟨k, hk, rfl, HN, HB⟩ := hrel
    have hB2r : Below w.heap.size w wr := HBW.out.trans (HB.out.mono HBW.out.size)
    have sB := HB.out.size
    by_cases hlt : k < ts.length
    · obtain ⟨t, ht⟩ : ∃ t, ts[k]? = some t := ⟨ts[k], List.getElem?_eq_getElem hlt⟩
      have hB1r : Below w1.heap.size w1 wr := HB2.out.trans (HB.out.mono HB2.out.size)
      have ok1 := (HTK.out t (List.mem_of_getElem? ht)).below hB1r
      have hte := HERR.out t (List.mem_of_getElem? ht)
      have hTI := HTI.out.below hB1r
      have a0 := hTI k _ 0 _ ht rfl
      have a1 := hTI k _ 1 _ ht rfl
      have a2 := hTI k _ 2 _ ht rfl
      have a3 := hTI k _ 3 _ ht rfl
      simp only [Nat.add_zero, Nat.zero_add] at a0 a1 a2 a3
      obtain ⟨HC0, HC1, HC2, HC3⟩ := HC.out
      have c0 := carry HB.out HC0
      have c1 := carry HB.out HC1
      have c2 := carry HB.out HC2
      have c3 := carry HB.out HC3
      clear HC0 HC1 HC2 HC3
      have HNS : Hid (t.c.text ≠ T → ∀ j u, j < k + 1 → ts[j]? = some u → u.c.text ≠ T) := Lib.hid (fun hne j u hj hu => by
        by_cases h : j < k
        · exact HN.out j u h hu
        · obtain rfl : j = k := by omega
          rw [ht] at hu
          cases hu
          exact hne)
      have HIN : Hid (t.c.text = T → R = true) := Lib.hid (fun he => by
        rw [HQ.out]
        exact hasText_iff.2 ⟨t.c, List.mem_map_of_mem (f := fun t : TagD => t.c) (List.mem_of_getElem? ht), he⟩)
      have KX := Lib.hid (fun W (hb : Below wr.heap.size wr W) => text_right t.c t.A t.n W hte ((ok1.below hb).1.strs) ok1.2.1)
      obtain ⟨⟨l1, s1, r1, vs1⟩, A1, n1⟩ := t
      simp only at a0 a1 a2 a3 KX HNS HIN
      have i0 : (0 : Int) ≤ (k : Int) := by omega
      have i1 : (k : Int) < (ts.length : Int) := by omega
      have i2 : (k : Int) ≤ (cp : Int) := by omega
      have e1 : IntKind.i64.wrap ((k : Int) + 1) = (k : Int) + 1 := IntWalk.i64_in _ (by omega)
      have HWR := Lib.hid hB2r
      have HRR : Hid (Below wr.heap.size wr (wr.alloc (.cells #[.string l1, .string s1, .string r1, .slice A1 vs1.length n1] 24))) := Lib.hid ((Below.refl _ _).alloc (Nat.le_refl _) _)
      have HWS : Hid (Below w.heap.size w (wr.alloc (.cells #[.string l1, .string s1, .string r1, .slice A1 vs1.length n1] 24))) := Lib.hid (HWR.out.alloc HWR.out.size _)
      obtain ⟨T1, hT1⟩ : ∃ T1, T1 = TagC.text ⟨l1, s1, r1, vs1⟩ := ⟨_, rfl⟩
      rw [← hT1] at KX HNS HIN
      clear hT1 ht hTI ok1 hte hB1r hB2r
      have z3 : w.heap.size + 1 < wr.heap.size := lt_of_cell c0
      by_cases hq : T1 = T
      · subst hq
        obtain rfl := HIN.out rfl
        clear HIN HNS HQ
        go_wp2_with fail
        go_region_held3 (fun w' => w'.cell? ⟨wr.heap.size, 0, none⟩ = some (.string l1) ∧ w'.cell? ⟨wr.heap.size, 1, none⟩ = some (.string s1) ∧ w'.cell? ⟨wr.heap.size, 2, none⟩ = some (.string r1) ∧ w'.cell? ⟨wr.heap.size, 3, none⟩ = some (.slice A1 vs1.length n1) ∧ w'.cell? ⟨w.heap.size + 1, 0, none⟩ = some (.string l) ∧ w'.cell? ⟨w.heap.size + 1, 1, none⟩ = some (.string s) ∧ w'.cell? ⟨w.heap.size + 1, 2, none⟩ = some (.string r) ∧ w'.cell? ⟨w.heap.size + 1, 3, none⟩ = some (.slice B vs.length m)) (first | go_keep | (go_split_ands; refine ⟨?_, ?_, ?_, ?_, ?_, ?_, ?_, ?_⟩ <;> first | assumption | exact carry (by assumption) (by go_simp) | exact carry (by assumption) (carry (by assumption) (by go_simp)) | exact carry (by assumption) (carry (by assumption) (carry (by assumption) (by go_simp))))) (first | (go_at_call 13; ((with_reducible refine (KX.out _ ?_).mono ?_); (first | exact HRR.out | exact HRR.out.drew | exact Hid.out (by assumption) | exact Below.drew (Hid.out (by assumption)) | exact bel_drewN _ (Hid.out (by assumption)))); rintro e wx ⟨rfl, hbx⟩; have HBX : Hid (Below wr.heap.size wr wx) := Lib.hid (by first | exact bel_call HRR.out hbx (by have := HRR.out.size; omega) | exact bel_call HRR.out.drew hbx (by have := HRR.out.size; (first | omega | (simp; done) | (simp; omega))) | exact bel_call (Hid.out (by assumption)) hbx (Below.size (Hid.out (by assumption)))); have HBY : Hid (Below w.heap.size w wx) := Lib.hid (HWR.out.trans (HBX.out.mono HWR.out.size)); have hbz := hbx; clear hbx) | (go_at_call 13; ((with_reducible refine (KT.out _ ?_).mono ?_); (first | exact HWS.out | exact HWS.out.drew | exact Hid.out (by assumption) | exact Below.drew (Hid.out (by assumption)) | exact bel_drewN _ (Hid.out (by assumption)))); rintro e wx ⟨rfl, hbx⟩; have HBX : Hid (Below wr.heap.size wr wx) := Lib.hid (by first | exact bel_call HRR.out hbx (by have := HRR.out.size; omega) | exact bel_call HRR.out.drew hbx (by have := HRR.out.size; (first | omega | (simp; done) | (simp; omega))) | exact bel_call (Hid.out (by assumption)) hbx (Below.size (Hid.out (by assumption)))); have HBY : Hid (Below w.heap.size w wx) := Lib.hid (HWR.out.trans (HBX.out.mono HWR.out.size)); have hbz := hbx; clear hbx))
        all_goals go_wp2_with fail
        all_goals go_ret2
        all_goals exact ⟨rfl, Below.trans HWR.out (Below.mono (Hid.out (by assumption)) HWR.out.size)⟩
      · have nq1 := toList_ne hq
        have HS := Lib.hid (HNS.out hq)
        clear HIN HNS hq
        have nq2 : (T1.toList == T.toList) = false := by rw [beq_eq_false_iff_ne]; exact nq1
        go_wp2_with fail
        go_region_held3 (fun w' => w'.cell? ⟨wr.heap.size, 0, none⟩ = some (.string l1) ∧ w'.cell? ⟨wr.heap.size, 1, none⟩ = some (.string s1) ∧ w'.cell? ⟨wr.heap.size, 2, none⟩ = some (.string r1) ∧ w'.cell? ⟨wr.heap.size, 3, none⟩ = some (.slice A1 vs1.length n1) ∧ w'.cell? ⟨w.heap.size + 1, 0, none⟩ = some (.string l) ∧ w'.cell? ⟨w.heap.size + 1, 1, none⟩ = some (.string s) ∧ w'.cell? ⟨w.heap.size + 1, 2, none⟩ = some (.string r) ∧ w'.cell? ⟨w.heap.size + 1, 3, none⟩ = some (.slice B vs.length m)) (first | go_keep | (go_split_ands; refine ⟨?_, ?_, ?_, ?_, ?_, ?_, ?_, ?_⟩ <;> first | assumption | exact carry (by assumption) (by go_simp) | exact carry (by assumption) (carry (by assumption) (by go_simp)) | exact carry (by assumption) (carry (by assumption) (carry (by assumption) (by go_simp))))) (first | (go_at_call 13; ((with_reducible refine (KX.out _ ?_).mono ?_); (first | exact HRR.out | exact HRR.out.drew | exact Hid.out (by assumption) | exact Below.drew (Hid.out (by assumption)) | exact bel_drewN _ (Hid.out (by assumption)))); rintro e wx ⟨rfl, hbx⟩; have HBX : Hid (Below wr.heap.size wr wx) := Lib.hid (by first | exact bel_call HRR.out hbx (by have := HRR.out.size; omega) | exact bel_call HRR.out.drew hbx (by have := HRR.out.size; (first | omega | (simp; done) | (simp; omega))) | exact bel_call (Hid.out (by assumption)) hbx (Below.size (Hid.out (by assumption)))); have HBY : Hid (Below w.heap.size w wx) := Lib.hid (HWR.out.trans (HBX.out.mono HWR.out.size)); have hbz := hbx; clear hbx) | (go_at_call 13; ((with_reducible refine (KT.out _ ?_).mono ?_); (first | exact HWS.out | exact HWS.out.drew | exact Hid.out (by assumption) | exact Below.drew (Hid.out (by assumption)) | exact bel_drewN _ (Hid.out (by assumption)))); rintro e wx ⟨rfl, hbx⟩; have HBX : Hid (Below wr.heap.size wr wx) := Lib.hid (by first | exact bel_call HRR.out hbx (by have := HRR.out.size; omega) | exact bel_call HRR.out.drew hbx (by have := HRR.out.size; (first | omega | (simp; done) | (simp; omega))) | exact bel_call (Hid.out (by assumption)) hbx (Below.size (Hid.out (by assumption)))); have HBY : Hid (Below w.heap.size w wx) := Lib.hid (HWR.out.trans (HBX.out.mono HWR.out.size)); have hbz := hbx; clear hbx))
        all_goals go_wp2_with fail
        all_goals go_roundw
        case rel => exact ⟨k + 1, by omega, by go_num, HS, Lib.hid (HB.out.trans (Below.mono (Hid.out (by assumption)) sB))⟩
        case measure => simp [intOf]; omega
    · obtain rfl : R = false := by
        cases hR : R
        · rfl
        · rw [HQ.out] at hR
          obtain ⟨c, hc, he⟩ := hasText_iff.1 hR
          obtain ⟨t, ht, rfl⟩ := List.mem_map.1 hc
          obtain ⟨j, hj⟩ := List.mem_iff_getElem?.1 ht
          exact absurd he (HN.out j t (by have := (List.getElem?_eq_some_iff.1 hj).1; omega) hj)
      go_wp2_with fail
      go_ret2
      exact ⟨rfl, hB2r⟩
end Go.Proofs.YtdpdnanjanceeaaDoor
