/- RefTagP5, RefTagP6, RefTagP7, RefTagOf, RefBundle, RefLoad: texts put together. -/
import Derived.Test.YtnhlnhmjnnopaaaDoorFe19
import Derived.Test.YtnhlnhmjnnopaaaDoorFe4
import Derived.Test.YtnhlnhmjnnopaaaDoorFe3
import Derived.Test.YtnhlnhmjnnopaaaDoorFe17
import Derived.Deep.RegionHeld3
import Derived.Deep.QuietTactic
import Derived.BigQuiet
set_option linter.unusedVariables false
set_option linter.unusedSimpArgs false
/- linguisterref1.TagOf: way 5. -/
namespace Go.Proofs.YtnhlnhmjnnopaaaDoor
open Go.RowKit

set_option maxHeartbeats 4000000 in
set_option maxRecDepth 100000 in
theorem tagof_way5 (s L x q : ByteArray) (w : World) (hM : MaxL w) (hs : s.size ≤ 1000000000) (hL : lowerL s.data.toList = L.data.toList) (hps : listsOf (x :: q :: []) = splitD L.data.toList) (hn : q.size ≠ 4) (hq : q.size < 4) :
    Calls Tryd.prog 19 #[.string s] w fun e w' => TagOut s e w' ∧ Below w.heap.size w w' := by
  obtain ⟨hmade, hsz, hcnt⟩ := made_isR hL hps
  have hLs : L.size = s.size := by rw [← tsize, ← tsize, ← hL]; unfold lowerL; simp
  obtain ⟨g, hg⟩ : ∃ g : ByteArray, upperL q.data.toList = g.data.toList := ⟨⟨(upperL q.data.toList).toArray⟩, rfl⟩
  have hgz : g.size ≤ 1000000000 := by have h := hsz q (by simp); rw [← tsize, ← hg, upper_len, tsize]; omega
  have hT : madeR s.data.toList = ⟨x.data.toList, [], g.data.toList, listsOf []⟩ := by
    rw [hmade]
    simp [listsOf, List.map_cons, List.map_nil, scrR, regR, tsize, hn, hg, hq]
  have HT := Lib.hid hT
  have zx : x.size ≤ 1000000000 := by have := hsz x (by simp); omega
  have zq : q.size ≤ 1000000000 := by have := hsz q (by simp); omega
  have HPS := Lib.hid hps
  have HL := Lib.hid hL
  have HM := Lib.hid hM
  have HN := Lib.hid hn
  have HG := Lib.hid hg
  have HQ := Lib.hid hq
  clear hmade hsz hcnt hT hps hL hM hn hg hq
  go_enter Tryd.func19, Tryd.ntmps19
  go_wp2_with fail
  refine (rlow_call s L HL.out (by omega) _).mono ?_
  rintro e w1 ⟨rfl, hb1⟩
  have Hrw1 : C4 w1 (w.heap.size) (.string ⟨#[]⟩) (.string ⟨#[]⟩) (.string ⟨#[]⟩) (.slice none 0 0) := C4.below ⟨by go_simp, by go_simp, by go_simp, by go_simp, by go_simp, by go_simp, by go_simp, by go_simp⟩ hb1
  have Bw1 := Lib.hid hb1
  obtain ⟨r0_w1, r1_w1, r2_w1, r3_w1, r4_w1, r5_w1, r6_w1, r7_w1⟩ := Hrw1
  have qr_w1 := lt_of_cell r0_w1
  have s1 : w.heap.size < w1.heap.size := qr_w1
  go_wp2_with fail
  refine (cut_call L x _ HPS.out _ (by omega)).mono ?_
  rintro e w2 ⟨bk, cd, rfl, hcd, hbk0, hcp, hb2⟩
  have HCP := Lib.hid hcp
  have c0_w2 : w2.cell? ⟨bk, 0, none⟩ = some (.string x) := hcp 0 x rfl
  have c1_w2 : w2.cell? ⟨bk, 1, none⟩ = some (.string q) := hcp 1 q rfl
  have Hrw2 : C4 w2 (w.heap.size) (.string ⟨#[]⟩) (.string ⟨#[]⟩) (.string ⟨#[]⟩) (.slice none 0 0) := C4.below ⟨by go_simp, by go_simp, by go_simp, by go_simp, by go_simp, by go_simp, by go_simp, by go_simp⟩ hb2
  have Bw2 := Lib.hid hb2
  clear hcp hb2 r0_w1 r1_w1 r2_w1 r3_w1 r4_w1 r5_w1 r6_w1 r7_w1 qr_w1
  obtain ⟨r0_w2, r1_w2, r2_w2, r3_w2, r4_w2, r5_w2, r6_w2, r7_w2⟩ := Hrw2
  have qr_w2 := lt_of_cell r0_w2
  have qc_w2 := lt_of_cell c0_w2
  simp only [List.length_cons, List.length_nil, Nat.zero_add] at hcd ⊢
  have hbk1 : w.heap.size < bk := by omega
  have hcd2 : 2 ≤ cd := by omega
  clear hcd hbk0
  have ncd1 : ¬ cd = 1 := by omega
  by_cases hlast : cd - 1 = 1
  · have tp : ((q.size : Int) == 4) = false := by rw [beq_eq_false_iff_ne]; have := HN.out; omega
    have tq : (q.size : Int) < 4 := by have := HQ.out; omega
    go_wp2_with fail
    refine (rup_call q g HG.out (by omega) _).mono ?_
    rintro e w5 ⟨rfl, hb⟩
    have Hrw5 : C4 w5 (w.heap.size) (.string ⟨#[]⟩) (.string ⟨#[]⟩) (.string ⟨#[]⟩) (.slice none 0 0) := C4.below ⟨by go_simp, by go_simp, by go_simp, by go_simp, by go_simp, by go_simp, by go_simp, by go_simp⟩ hb
    have Htw5 : C4 w5 (w2.heap.size) (.string x) (.string ⟨#[]⟩) (.string ⟨#[]⟩) (.slice none 0 0) := C4.below ⟨by go_simp, by go_simp, by go_simp, by go_simp, by go_simp, by go_simp, by go_simp, by go_simp⟩ hb
    have c1_w5 : w5.cell? ⟨bk, 1, none⟩ = some (.string q) := carry hb (by go_simp)
    have D5 : Below w2.heap.size w2 w5 := (by (repeat (first | with_reducible exact Below.refl _ _ | with_reducible refine bel_set ?_ ?_ | with_reducible refine bel_alloc ?_ ?_ | with_reducible refine Below.drew ?_ | with_reducible refine bel_drewN _ ?_ | with_reducible refine bel_call ?_ (by assumption) ?_)); all_goals (first | (simp; done) | omega | (simp; omega)))
    clear hb r0_w2 r1_w2 r2_w2 r3_w2 r4_w2 r5_w2 r6_w2 r7_w2 qr_w2 c0_w2 c1_w2
    obtain ⟨r0_w5, r1_w5, r2_w5, r3_w5, r4_w5, r5_w5, r6_w5, r7_w5⟩ := Hrw5
    have qr_w5 := lt_of_cell r0_w5
    obtain ⟨t0_w5, t1_w5, t2_w5, t3_w5, t4_w5, t5_w5, t6_w5, t7_w5⟩ := Htw5
    have qt_w5 := lt_of_cell t0_w5
    have DC : Below w2.heap.size w2 (w5.setCell ⟨w2.heap.size, 2, none⟩ (.string g)) := (by (repeat (first | with_reducible exact Below.refl _ _ | with_reducible refine bel_set ?_ ?_ | with_reducible refine bel_alloc ?_ ?_ | with_reducible refine Below.drew ?_ | with_reducible refine bel_drewN _ ?_ | with_reducible refine bel_call ?_ (by assumption) ?_)); all_goals (first | (simp; done) | omega | (simp; omega)))
    have SC : w2.heap.size < (w5.setCell ⟨w2.heap.size, 2, none⟩ (.string g)).heap.size := by simpa using qt_w5
    have HCL : Hid (∀ (j : Nat) z, ([] : List ByteArray)[j]? = some z → (w5.setCell ⟨w2.heap.size, 2, none⟩ (.string g)).cell? ⟨bk, 2 + j, none⟩ = some (.string z)) := Lib.hid (fun j z hz => by simp at hz)
    clear DC
    obtain ⟨bz, hbz⟩ : ∃ b, b = (w5.setCell ⟨w2.heap.size, 2, none⟩ (.string g)).heap.size := ⟨_, rfl⟩
    have HBZ := Lib.hid hbz
    have SCZ : w2.heap.size < bz := by rw [hbz]; exact SC
    have HSC := Lib.hid SCZ
    clear hbz SCZ SC
    go_wp2_with (at_builtin; refine wpList_append_many rfl _ _ rfl (ys := ([] : List ByteArray)) rfl rfl (OwnsS.nil _ bz) (.inl rfl) (by intro h; first | (cases h; done) | (split at h <;> cases h)) (by rw [HBZ.out]; exact Nat.le_refl _) (by first | (simp; done) | (simp; omega)) ?_; intro v' w6 ho hoff; have hb := (OwnsS.nil _ bz).grown hoff (by rw [HBZ.out]; exact Nat.le_refl _); rw [HBZ.out] at hb; rw [List.nil_append] at ho; obtain ⟨A, kc, rfl, _⟩ := ho.form; have Hrw6 : C4 w6 (w.heap.size) (.string ⟨#[]⟩) (.string ⟨#[]⟩) (.string ⟨#[]⟩) (.slice none 0 0) := C4.below ⟨by go_simp, by go_simp, by go_simp, by go_simp, by go_simp, by go_simp, by go_simp, by go_simp⟩ hb; have Htw6 : C4 w6 (w2.heap.size) (.string x) (.string ⟨#[]⟩) (.string g) (.slice none 0 0) := C4.below ⟨by go_simp, by go_simp, by go_simp, by go_simp, by go_simp, by go_simp, by go_simp, by go_simp⟩ hb; have D6 : Below w2.heap.size w2 w6 := (by (repeat (first | with_reducible exact Below.refl _ _ | with_reducible refine bel_set ?_ ?_ | with_reducible refine bel_alloc ?_ ?_ | with_reducible refine Below.drew ?_ | with_reducible refine bel_drewN _ ?_ | with_reducible refine bel_call ?_ (by assumption) ?_)); all_goals (first | (simp; done) | omega | (simp; omega))); obtain ⟨hkc, hA⟩ := ho.caps; have HKM := Lib.hid ho.capM; have HST := Lib.hid (ho.set w2.heap.size 3 (.slice A 0 kc) HSC.out); have HA := Lib.hid hA; have HKC := Lib.hid hkc; clear hb ho hoff hA hkc HCL c1_w5 r0_w5 r1_w5 r2_w5 r3_w5 r4_w5 r5_w5 r6_w5 r7_w5 qr_w5 t0_w5 t1_w5 t2_w5 t3_w5 t4_w5 t5_w5 t6_w5 t7_w5 qt_w5 D5; obtain ⟨r0_w6, r1_w6, r2_w6, r3_w6, r4_w6, r5_w6, r6_w6, r7_w6⟩ := Hrw6; have qr_w6 := lt_of_cell r0_w6; obtain ⟨t0_w6, t1_w6, t2_w6, t3_w6, t4_w6, t5_w6, t6_w6, t7_w6⟩ := Htw6; have qt_w6 := lt_of_cell t0_w6)
    obtain ⟨E, hE⟩ : ∃ E, E = tagErr x.data.toList (⟨#[]⟩ : ByteArray).data.toList g.data.toList (listsOf []) := ⟨_, rfl⟩
    have KC := Lib.hid (ref_fault x ⟨#[]⟩ g A kc [] (w6.setCell ⟨w2.heap.size, 3, none⟩ (.slice A 0 kc)) (by omega) (by decide) (by omega) (by simp) (.inl rfl) (Nat.zero_le _) HKM.out)
    rw [← hE] at KC
    have HE := Lib.hid hE
    clear hE
    by_cases h0 : E = 0
    · subst h0
      refine (KC.out).mono ?_
      rintro e w7 ⟨rfl, hb⟩
      have Hrw7 : C4 w7 (w.heap.size) (.string ⟨#[]⟩) (.string ⟨#[]⟩) (.string ⟨#[]⟩) (.slice none 0 0) := C4.below ⟨by go_simp, by go_simp, by go_simp, by go_simp, by go_simp, by go_simp, by go_simp, by go_simp⟩ hb
      have Htw7 : C4 w7 (w2.heap.size) (.string x) (.string ⟨#[]⟩) (.string g) (.slice A 0 kc) := C4.below ⟨by go_simp, by go_simp, by go_simp, by go_simp, by go_simp, by go_simp, by go_simp, by go_simp⟩ hb
      have D7 : Below w2.heap.size w2 w7 := (by (repeat (first | with_reducible exact Below.refl _ _ | with_reducible refine bel_set ?_ ?_ | with_reducible refine bel_alloc ?_ ?_ | with_reducible refine Below.drew ?_ | with_reducible refine bel_drewN _ ?_ | with_reducible refine bel_call ?_ (by assumption) ?_)); all_goals (first | (simp; done) | omega | (simp; omega)))
      have hbk := Lib.hid hb
      clear hb r0_w6 r1_w6 r2_w6 r3_w6 r4_w6 r5_w6 r6_w6 r7_w6 qr_w6 t0_w6 t1_w6 t2_w6 t3_w6 t4_w6 t5_w6 t6_w6 t7_w6 qt_w6 D6
      obtain ⟨r0_w7, r1_w7, r2_w7, r3_w7, r4_w7, r5_w7, r6_w7, r7_w7⟩ := Hrw7
      have qr_w7 := lt_of_cell r0_w7
      obtain ⟨t0_w7, t1_w7, t2_w7, t3_w7, t4_w7, t5_w7, t6_w7, t7_w7⟩ := Htw7
      have qt_w7 := lt_of_cell t0_w7
      have he0 := HE.out.symm
      have hlt := text_len he0
      obtain ⟨t, ht⟩ : ∃ t : ByteArray, t = ⟨(tagText x.data.toList (⟨#[]⟩ : ByteArray).data.toList g.data.toList (listsOf [])).toArray⟩ := ⟨_, rfl⟩
      have htz : t.size ≤ 100 := by rw [← tsize, ht]; exact hlt
      have HST2 := Lib.hid (HST.out.below hbk.out)
      have KT := Lib.hid (ref_tag_text x ⟨#[]⟩ g A kc [] w7 HST2.out.strs HA.out he0)
      rw [← ht] at KT
      obtain ⟨m, hm⟩ : ∃ m : ByteArray, lowerL t.data.toList = m.data.toList := ⟨⟨(lowerL t.data.toList).toArray⟩, rfl⟩
      have HMM := Lib.hid hm
      have HTT := Lib.hid ht
      clear hm ht hlt he0
      go_wp2_with fail
      clear hbk
      refine (KT.out).mono ?_
      rintro e w8 ⟨rfl, hb⟩
      have Hrw8 : C4 w8 (w.heap.size) (.string ⟨#[]⟩) (.string ⟨#[]⟩) (.string ⟨#[]⟩) (.slice none 0 0) := C4.below ⟨by go_simp, by go_simp, by go_simp, by go_simp, by go_simp, by go_simp, by go_simp, by go_simp⟩ hb
      have Htw8 : C4 w8 (w2.heap.size) (.string x) (.string ⟨#[]⟩) (.string g) (.slice A 0 kc) := C4.below ⟨by go_simp, by go_simp, by go_simp, by go_simp, by go_simp, by go_simp, by go_simp, by go_simp⟩ hb
      have D8 : Below w2.heap.size w2 w8 := (by (repeat (first | with_reducible exact Below.refl _ _ | with_reducible refine bel_set ?_ ?_ | with_reducible refine bel_alloc ?_ ?_ | with_reducible refine Below.drew ?_ | with_reducible refine bel_drewN _ ?_ | with_reducible refine bel_call ?_ (by assumption) ?_)); all_goals (first | (simp; done) | omega | (simp; omega)))
      have hbk := Lib.hid hb
      clear hb r0_w7 r1_w7 r2_w7 r3_w7 r4_w7 r5_w7 r6_w7 r7_w7 qr_w7 t0_w7 t1_w7 t2_w7 t3_w7 t4_w7 t5_w7 t6_w7 t7_w7 qt_w7 D7
      obtain ⟨r0_w8, r1_w8, r2_w8, r3_w8, r4_w8, r5_w8, r6_w8, r7_w8⟩ := Hrw8
      have qr_w8 := lt_of_cell r0_w8
      obtain ⟨t0_w8, t1_w8, t2_w8, t3_w8, t4_w8, t5_w8, t6_w8, t7_w8⟩ := Htw8
      have qt_w8 := lt_of_cell t0_w8
      have HST3 := Lib.hid (HST2.out.below hbk.out)
      clear hbk
      go_wp2_with fail
      refine (rlow_call t m HMM.out (by omega) _).mono ?_
      rintro e w9 ⟨rfl, hb⟩
      have Hrw9 : C4 w9 (w.heap.size) (.string ⟨#[]⟩) (.string ⟨#[]⟩) (.string ⟨#[]⟩) (.slice none 0 0) := C4.below ⟨by go_simp, by go_simp, by go_simp, by go_simp, by go_simp, by go_simp, by go_simp, by go_simp⟩ hb
      have Htw9 : C4 w9 (w2.heap.size) (.string x) (.string ⟨#[]⟩) (.string g) (.slice A 0 kc) := C4.below ⟨by go_simp, by go_simp, by go_simp, by go_simp, by go_simp, by go_simp, by go_simp, by go_simp⟩ hb
      have D9 : Below w2.heap.size w2 w9 := (by (repeat (first | with_reducible exact Below.refl _ _ | with_reducible refine bel_set ?_ ?_ | with_reducible refine bel_alloc ?_ ?_ | with_reducible refine Below.drew ?_ | with_reducible refine bel_drewN _ ?_ | with_reducible refine bel_call ?_ (by assumption) ?_)); all_goals (first | (simp; done) | omega | (simp; omega)))
      have hbk := Lib.hid hb
      clear hb r0_w8 r1_w8 r2_w8 r3_w8 r4_w8 r5_w8 r6_w8 r7_w8 qr_w8 t0_w8 t1_w8 t2_w8 t3_w8 t4_w8 t5_w8 t6_w8 t7_w8 qt_w8 D8
      obtain ⟨r0_w9, r1_w9, r2_w9, r3_w9, r4_w9, r5_w9, r6_w9, r7_w9⟩ := Hrw9
      have qr_w9 := lt_of_cell r0_w9
      obtain ⟨t0_w9, t1_w9, t2_w9, t3_w9, t4_w9, t5_w9, t6_w9, t7_w9⟩ := Htw9
      have qt_w9 := lt_of_cell t0_w9
      have HST4 := Lib.hid (HST3.out.below hbk.out)
      clear hbk
      go_wp2_with fail
      refine (rlow_call s L HL.out (by omega) _).mono ?_
      rintro e w10 ⟨rfl, hb⟩
      have Hrw10 : C4 w10 (w.heap.size) (.string ⟨#[]⟩) (.string ⟨#[]⟩) (.string ⟨#[]⟩) (.slice none 0 0) := C4.below ⟨by go_simp, by go_simp, by go_simp, by go_simp, by go_simp, by go_simp, by go_simp, by go_simp⟩ hb
      have Htw10 : C4 w10 (w2.heap.size) (.string x) (.string ⟨#[]⟩) (.string g) (.slice A 0 kc) := C4.below ⟨by go_simp, by go_simp, by go_simp, by go_simp, by go_simp, by go_simp, by go_simp, by go_simp⟩ hb
      have D10 : Below w2.heap.size w2 w10 := (by (repeat (first | with_reducible exact Below.refl _ _ | with_reducible refine bel_set ?_ ?_ | with_reducible refine bel_alloc ?_ ?_ | with_reducible refine Below.drew ?_ | with_reducible refine bel_drewN _ ?_ | with_reducible refine bel_call ?_ (by assumption) ?_)); all_goals (first | (simp; done) | omega | (simp; omega)))
      have hbk := Lib.hid hb
      clear hb r0_w9 r1_w9 r2_w9 r3_w9 r4_w9 r5_w9 r6_w9 r7_w9 qr_w9 t0_w9 t1_w9 t2_w9 t3_w9 t4_w9 t5_w9 t6_w9 t7_w9 qt_w9 D9
      obtain ⟨r0_w10, r1_w10, r2_w10, r3_w10, r4_w10, r5_w10, r6_w10, r7_w10⟩ := Hrw10
      have qr_w10 := lt_of_cell r0_w10
      obtain ⟨t0_w10, t1_w10, t2_w10, t3_w10, t4_w10, t5_w10, t6_w10, t7_w10⟩ := Htw10
      have qt_w10 := lt_of_cell t0_w10
      have HST5 := Lib.hid (HST4.out.below hbk.out)
      clear hbk
      have hb1 := Bw1.out
      have hb2 := Bw2.out
      have b1 := hb1.size
      have b2 := hb2.size
      have hbD := hb2.trans (D10.mono hb2.size)
      cases hq : (m.toList == L.toList)
      · have hne : lowerL (tagText x.data.toList (⟨#[]⟩ : ByteArray).data.toList g.data.toList (listsOf [])) ≠ lowerL s.data.toList := fun h => by
          have h2 := HMM.out
          rw [HTT.out] at h2
          rw [h2, HL.out] at h
          rw [Lib.toList_data, Lib.toList_data, h] at hq
          simp at hq
        have HNE := Lib.hid hne
        clear hne
        have hq2 : (m.toList != L.toList) = true := by rw [bne, hq]; rfl
        go_wp2_with fail
        exact bodyPost_ret (v := .tuple #[tagV ⟨#[]⟩ ⟨#[]⟩ ⟨#[]⟩ none 0 0, .bool false]) (by simp [results, Tryd.results19, go_sem, r0_w10, r1_w10, r2_w10, r3_w10, World.cell?_setCell_same, World.cell?_setCell_other]) rfl ⟨.inr ⟨isTagR_no2 HT.out HNE.out, rfl⟩, (by (repeat (first | with_reducible exact Below.refl _ _ | with_reducible refine bel_set ?_ ?_ | with_reducible refine bel_alloc ?_ ?_ | with_reducible refine Below.drew ?_ | with_reducible refine bel_drewN _ ?_ | with_reducible refine bel_call ?_ (by assumption) ?_)); all_goals (first | (simp; done) | omega | (simp; omega)))⟩
      · have hyes : isTagR s.data.toList = true := isTagR_yes HT.out HE.out.symm (by
          have h2 := HMM.out
          rw [HTT.out] at h2
          have h3 := eq_of_beq hq
          rw [Lib.toList_data, Lib.toList_data] at h3
          rw [HL.out, ← h3]
          exact h2)
        have HYES := Lib.hid hyes
        clear hyes
        have hq2 : m.toList = L.toList := by simpa using hq
        go_wp2_with fail
        refine bodyPost_ret (v := .tuple #[tagV x ⟨#[]⟩ g A ([] : List ByteArray).length kc, .bool true]) (by simp [results, Tryd.results19, go_sem, r0_w10, r1_w10, r2_w10, r3_w10, World.cell?_setCell_same, World.cell?_setCell_other]) rfl ⟨.inl ⟨HYES.out, x, ⟨#[]⟩, g, A, kc, [], rfl, HT.out, ?_, ?_, ?_⟩, (by (repeat (first | with_reducible exact Below.refl _ _ | with_reducible refine bel_set ?_ ?_ | with_reducible refine bel_alloc ?_ ?_ | with_reducible refine Below.drew ?_ | with_reducible refine bel_drewN _ ?_ | with_reducible refine bel_call ?_ (by assumption) ?_)); all_goals (first | (simp; done) | omega | (simp; omega)))⟩
        · have hl : w.heap.size < bz := by have := HSC.out; omega
          exact ((((HST5.out.set _ _ _ hl).set _ _ _ hl).set _ _ _ hl).set _ _ _ hl).strs
        · exact HKC.out
        · exact HA.out
    · have E0 : (E != 0) = true := bne_iff_ne.2 h0
      have HNE : Hid (tagErr x.data.toList (⟨#[]⟩ : ByteArray).data.toList g.data.toList (listsOf []) ≠ 0) := Lib.hid (fun h => h0 (HE.out.trans h))
      clear h0 HE
      refine (KC.out).mono ?_
      rintro e w7 ⟨rfl, hb⟩
      have Hrw7 : C4 w7 (w.heap.size) (.string ⟨#[]⟩) (.string ⟨#[]⟩) (.string ⟨#[]⟩) (.slice none 0 0) := C4.below ⟨by go_simp, by go_simp, by go_simp, by go_simp, by go_simp, by go_simp, by go_simp, by go_simp⟩ hb
      have Htw7 : C4 w7 (w2.heap.size) (.string x) (.string ⟨#[]⟩) (.string g) (.slice A 0 kc) := C4.below ⟨by go_simp, by go_simp, by go_simp, by go_simp, by go_simp, by go_simp, by go_simp, by go_simp⟩ hb
      have D7 : Below w2.heap.size w2 w7 := (by (repeat (first | with_reducible exact Below.refl _ _ | with_reducible refine bel_set ?_ ?_ | with_reducible refine bel_alloc ?_ ?_ | with_reducible refine Below.drew ?_ | with_reducible refine bel_drewN _ ?_ | with_reducible refine bel_call ?_ (by assumption) ?_)); all_goals (first | (simp; done) | omega | (simp; omega)))
      clear hb r0_w6 r1_w6 r2_w6 r3_w6 r4_w6 r5_w6 r6_w6 r7_w6 qr_w6 t0_w6 t1_w6 t2_w6 t3_w6 t4_w6 t5_w6 t6_w6 t7_w6 qt_w6 D6
      obtain ⟨r0_w7, r1_w7, r2_w7, r3_w7, r4_w7, r5_w7, r6_w7, r7_w7⟩ := Hrw7
      have qr_w7 := lt_of_cell r0_w7
      obtain ⟨t0_w7, t1_w7, t2_w7, t3_w7, t4_w7, t5_w7, t6_w7, t7_w7⟩ := Htw7
      have qt_w7 := lt_of_cell t0_w7
      have hb1 := Bw1.out
      have hb2 := Bw2.out
      have b1 := hb1.size
      have b2 := hb2.size
      have hbD := hb2.trans (D7.mono hb2.size)
      go_wp2_with fail
      exact bodyPost_ret (v := .tuple #[tagV ⟨#[]⟩ ⟨#[]⟩ ⟨#[]⟩ none 0 0, .bool false]) (by simp [results, Tryd.results19, go_sem, r0_w7, r1_w7, r2_w7, r3_w7, World.cell?_setCell_same, World.cell?_setCell_other]) rfl ⟨.inr ⟨isTagR_no1 HT.out HNE.out, rfl⟩, (by (repeat (first | with_reducible exact Below.refl _ _ | with_reducible refine bel_set ?_ ?_ | with_reducible refine bel_alloc ?_ ?_ | with_reducible refine Below.drew ?_ | with_reducible refine bel_drewN _ ?_ | with_reducible refine bel_call ?_ (by assumption) ?_)); all_goals (first | (simp; done) | omega | (simp; omega)))⟩
  · have tp : ((q.size : Int) == 4) = false := by rw [beq_eq_false_iff_ne]; have := HN.out; omega
    have tq : (q.size : Int) < 4 := by have := HQ.out; omega
    go_wp2_with fail
    refine (rup_call q g HG.out (by omega) _).mono ?_
    rintro e w5 ⟨rfl, hb⟩
    have Hrw5 : C4 w5 (w.heap.size) (.string ⟨#[]⟩) (.string ⟨#[]⟩) (.string ⟨#[]⟩) (.slice none 0 0) := C4.below ⟨by go_simp, by go_simp, by go_simp, by go_simp, by go_simp, by go_simp, by go_simp, by go_simp⟩ hb
    have Htw5 : C4 w5 (w2.heap.size) (.string x) (.string ⟨#[]⟩) (.string ⟨#[]⟩) (.slice none 0 0) := C4.below ⟨by go_simp, by go_simp, by go_simp, by go_simp, by go_simp, by go_simp, by go_simp, by go_simp⟩ hb
    have c1_w5 : w5.cell? ⟨bk, 1, none⟩ = some (.string q) := carry hb (by go_simp)
    have D5 : Below w2.heap.size w2 w5 := (by (repeat (first | with_reducible exact Below.refl _ _ | with_reducible refine bel_set ?_ ?_ | with_reducible refine bel_alloc ?_ ?_ | with_reducible refine Below.drew ?_ | with_reducible refine bel_drewN _ ?_ | with_reducible refine bel_call ?_ (by assumption) ?_)); all_goals (first | (simp; done) | omega | (simp; omega)))
    clear hb r0_w2 r1_w2 r2_w2 r3_w2 r4_w2 r5_w2 r6_w2 r7_w2 qr_w2 c0_w2 c1_w2
    obtain ⟨r0_w5, r1_w5, r2_w5, r3_w5, r4_w5, r5_w5, r6_w5, r7_w5⟩ := Hrw5
    have qr_w5 := lt_of_cell r0_w5
    obtain ⟨t0_w5, t1_w5, t2_w5, t3_w5, t4_w5, t5_w5, t6_w5, t7_w5⟩ := Htw5
    have qt_w5 := lt_of_cell t0_w5
    have DC : Below w2.heap.size w2 (w5.setCell ⟨w2.heap.size, 2, none⟩ (.string g)) := (by (repeat (first | with_reducible exact Below.refl _ _ | with_reducible refine bel_set ?_ ?_ | with_reducible refine bel_alloc ?_ ?_ | with_reducible refine Below.drew ?_ | with_reducible refine bel_drewN _ ?_ | with_reducible refine bel_call ?_ (by assumption) ?_)); all_goals (first | (simp; done) | omega | (simp; omega)))
    have SC : w2.heap.size < (w5.setCell ⟨w2.heap.size, 2, none⟩ (.string g)).heap.size := by simpa using qt_w5
    have HCL : Hid (∀ (j : Nat) z, ([] : List ByteArray)[j]? = some z → (w5.setCell ⟨w2.heap.size, 2, none⟩ (.string g)).cell? ⟨bk, 2 + j, none⟩ = some (.string z)) := Lib.hid (fun j z hz => by simp at hz)
    clear DC
    obtain ⟨bz, hbz⟩ : ∃ b, b = (w5.setCell ⟨w2.heap.size, 2, none⟩ (.string g)).heap.size := ⟨_, rfl⟩
    have HBZ := Lib.hid hbz
    have SCZ : w2.heap.size < bz := by rw [hbz]; exact SC
    have HSC := Lib.hid SCZ
    clear hbz SCZ SC
    go_wp2_with (at_builtin; refine wpList_append_many rfl _ _ rfl (ys := ([] : List ByteArray)) rfl rfl (OwnsS.nil _ bz) (.inl rfl) (by intro h; first | (cases h; done) | (split at h <;> cases h)) (by rw [HBZ.out]; exact Nat.le_refl _) (by first | (simp; done) | (simp; omega)) ?_; intro v' w6 ho hoff; have hb := (OwnsS.nil _ bz).grown hoff (by rw [HBZ.out]; exact Nat.le_refl _); rw [HBZ.out] at hb; rw [List.nil_append] at ho; obtain ⟨A, kc, rfl, _⟩ := ho.form; have Hrw6 : C4 w6 (w.heap.size) (.string ⟨#[]⟩) (.string ⟨#[]⟩) (.string ⟨#[]⟩) (.slice none 0 0) := C4.below ⟨by go_simp, by go_simp, by go_simp, by go_simp, by go_simp, by go_simp, by go_simp, by go_simp⟩ hb; have Htw6 : C4 w6 (w2.heap.size) (.string x) (.string ⟨#[]⟩) (.string g) (.slice none 0 0) := C4.below ⟨by go_simp, by go_simp, by go_simp, by go_simp, by go_simp, by go_simp, by go_simp, by go_simp⟩ hb; have D6 : Below w2.heap.size w2 w6 := (by (repeat (first | with_reducible exact Below.refl _ _ | with_reducible refine bel_set ?_ ?_ | with_reducible refine bel_alloc ?_ ?_ | with_reducible refine Below.drew ?_ | with_reducible refine bel_drewN _ ?_ | with_reducible refine bel_call ?_ (by assumption) ?_)); all_goals (first | (simp; done) | omega | (simp; omega))); obtain ⟨hkc, hA⟩ := ho.caps; have HKM := Lib.hid ho.capM; have HST := Lib.hid (ho.set w2.heap.size 3 (.slice A 0 kc) HSC.out); have HA := Lib.hid hA; have HKC := Lib.hid hkc; clear hb ho hoff hA hkc HCL c1_w5 r0_w5 r1_w5 r2_w5 r3_w5 r4_w5 r5_w5 r6_w5 r7_w5 qr_w5 t0_w5 t1_w5 t2_w5 t3_w5 t4_w5 t5_w5 t6_w5 t7_w5 qt_w5 D5; obtain ⟨r0_w6, r1_w6, r2_w6, r3_w6, r4_w6, r5_w6, r6_w6, r7_w6⟩ := Hrw6; have qr_w6 := lt_of_cell r0_w6; obtain ⟨t0_w6, t1_w6, t2_w6, t3_w6, t4_w6, t5_w6, t6_w6, t7_w6⟩ := Htw6; have qt_w6 := lt_of_cell t0_w6)
    obtain ⟨E, hE⟩ : ∃ E, E = tagErr x.data.toList (⟨#[]⟩ : ByteArray).data.toList g.data.toList (listsOf []) := ⟨_, rfl⟩
    have KC := Lib.hid (ref_fault x ⟨#[]⟩ g A kc [] (w6.setCell ⟨w2.heap.size, 3, none⟩ (.slice A 0 kc)) (by omega) (by decide) (by omega) (by simp) (.inl rfl) (Nat.zero_le _) HKM.out)
    rw [← hE] at KC
    have HE := Lib.hid hE
    clear hE
    by_cases h0 : E = 0
    · subst h0
      refine (KC.out).mono ?_
      rintro e w7 ⟨rfl, hb⟩
      have Hrw7 : C4 w7 (w.heap.size) (.string ⟨#[]⟩) (.string ⟨#[]⟩) (.string ⟨#[]⟩) (.slice none 0 0) := C4.below ⟨by go_simp, by go_simp, by go_simp, by go_simp, by go_simp, by go_simp, by go_simp, by go_simp⟩ hb
      have Htw7 : C4 w7 (w2.heap.size) (.string x) (.string ⟨#[]⟩) (.string g) (.slice A 0 kc) := C4.below ⟨by go_simp, by go_simp, by go_simp, by go_simp, by go_simp, by go_simp, by go_simp, by go_simp⟩ hb
      have D7 : Below w2.heap.size w2 w7 := (by (repeat (first | with_reducible exact Below.refl _ _ | with_reducible refine bel_set ?_ ?_ | with_reducible refine bel_alloc ?_ ?_ | with_reducible refine Below.drew ?_ | with_reducible refine bel_drewN _ ?_ | with_reducible refine bel_call ?_ (by assumption) ?_)); all_goals (first | (simp; done) | omega | (simp; omega)))
      have hbk := Lib.hid hb
      clear hb r0_w6 r1_w6 r2_w6 r3_w6 r4_w6 r5_w6 r6_w6 r7_w6 qr_w6 t0_w6 t1_w6 t2_w6 t3_w6 t4_w6 t5_w6 t6_w6 t7_w6 qt_w6 D6
      obtain ⟨r0_w7, r1_w7, r2_w7, r3_w7, r4_w7, r5_w7, r6_w7, r7_w7⟩ := Hrw7
      have qr_w7 := lt_of_cell r0_w7
      obtain ⟨t0_w7, t1_w7, t2_w7, t3_w7, t4_w7, t5_w7, t6_w7, t7_w7⟩ := Htw7
      have qt_w7 := lt_of_cell t0_w7
      have he0 := HE.out.symm
      have hlt := text_len he0
      obtain ⟨t, ht⟩ : ∃ t : ByteArray, t = ⟨(tagText x.data.toList (⟨#[]⟩ : ByteArray).data.toList g.data.toList (listsOf [])).toArray⟩ := ⟨_, rfl⟩
      have htz : t.size ≤ 100 := by rw [← tsize, ht]; exact hlt
      have HST2 := Lib.hid (HST.out.below hbk.out)
      have KT := Lib.hid (ref_tag_text x ⟨#[]⟩ g A kc [] w7 HST2.out.strs HA.out he0)
      rw [← ht] at KT
      obtain ⟨m, hm⟩ : ∃ m : ByteArray, lowerL t.data.toList = m.data.toList := ⟨⟨(lowerL t.data.toList).toArray⟩, rfl⟩
      have HMM := Lib.hid hm
      have HTT := Lib.hid ht
      clear hm ht hlt he0
      go_wp2_with fail
      clear hbk
      refine (KT.out).mono ?_
      rintro e w8 ⟨rfl, hb⟩
      have Hrw8 : C4 w8 (w.heap.size) (.string ⟨#[]⟩) (.string ⟨#[]⟩) (.string ⟨#[]⟩) (.slice none 0 0) := C4.below ⟨by go_simp, by go_simp, by go_simp, by go_simp, by go_simp, by go_simp, by go_simp, by go_simp⟩ hb
      have Htw8 : C4 w8 (w2.heap.size) (.string x) (.string ⟨#[]⟩) (.string g) (.slice A 0 kc) := C4.below ⟨by go_simp, by go_simp, by go_simp, by go_simp, by go_simp, by go_simp, by go_simp, by go_simp⟩ hb
      have D8 : Below w2.heap.size w2 w8 := (by (repeat (first | with_reducible exact Below.refl _ _ | with_reducible refine bel_set ?_ ?_ | with_reducible refine bel_alloc ?_ ?_ | with_reducible refine Below.drew ?_ | with_reducible refine bel_drewN _ ?_ | with_reducible refine bel_call ?_ (by assumption) ?_)); all_goals (first | (simp; done) | omega | (simp; omega)))
      have hbk := Lib.hid hb
      clear hb r0_w7 r1_w7 r2_w7 r3_w7 r4_w7 r5_w7 r6_w7 r7_w7 qr_w7 t0_w7 t1_w7 t2_w7 t3_w7 t4_w7 t5_w7 t6_w7 t7_w7 qt_w7 D7
      obtain ⟨r0_w8, r1_w8, r2_w8, r3_w8, r4_w8, r5_w8, r6_w8, r7_w8⟩ := Hrw8
      have qr_w8 := lt_of_cell r0_w8
      obtain ⟨t0_w8, t1_w8, t2_w8, t3_w8, t4_w8, t5_w8, t6_w8, t7_w8⟩ := Htw8
      have qt_w8 := lt_of_cell t0_w8
      have HST3 := Lib.hid (HST2.out.below hbk.out)
      clear hbk
      go_wp2_with fail
      refine (rlow_call t m HMM.out (by omega) _).mono ?_
      rintro e w9 ⟨rfl, hb⟩
      have Hrw9 : C4 w9 (w.heap.size) (.string ⟨#[]⟩) (.string ⟨#[]⟩) (.string ⟨#[]⟩) (.slice none 0 0) := C4.below ⟨by go_simp, by go_simp, by go_simp, by go_simp, by go_simp, by go_simp, by go_simp, by go_simp⟩ hb
      have Htw9 : C4 w9 (w2.heap.size) (.string x) (.string ⟨#[]⟩) (.string g) (.slice A 0 kc) := C4.below ⟨by go_simp, by go_simp, by go_simp, by go_simp, by go_simp, by go_simp, by go_simp, by go_simp⟩ hb
      have D9 : Below w2.heap.size w2 w9 := (by (repeat (first | with_reducible exact Below.refl _ _ | with_reducible refine bel_set ?_ ?_ | with_reducible refine bel_alloc ?_ ?_ | with_reducible refine Below.drew ?_ | with_reducible refine bel_drewN _ ?_ | with_reducible refine bel_call ?_ (by assumption) ?_)); all_goals (first | (simp; done) | omega | (simp; omega)))
      have hbk := Lib.hid hb
      clear hb r0_w8 r1_w8 r2_w8 r3_w8 r4_w8 r5_w8 r6_w8 r7_w8 qr_w8 t0_w8 t1_w8 t2_w8 t3_w8 t4_w8 t5_w8 t6_w8 t7_w8 qt_w8 D8
      obtain ⟨r0_w9, r1_w9, r2_w9, r3_w9, r4_w9, r5_w9, r6_w9, r7_w9⟩ := Hrw9
      have qr_w9 := lt_of_cell r0_w9
      obtain ⟨t0_w9, t1_w9, t2_w9, t3_w9, t4_w9, t5_w9, t6_w9, t7_w9⟩ := Htw9
      have qt_w9 := lt_of_cell t0_w9
      have HST4 := Lib.hid (HST3.out.below hbk.out)
      clear hbk
      go_wp2_with fail
      refine (rlow_call s L HL.out (by omega) _).mono ?_
      rintro e w10 ⟨rfl, hb⟩
      have Hrw10 : C4 w10 (w.heap.size) (.string ⟨#[]⟩) (.string ⟨#[]⟩) (.string ⟨#[]⟩) (.slice none 0 0) := C4.below ⟨by go_simp, by go_simp, by go_simp, by go_simp, by go_simp, by go_simp, by go_simp, by go_simp⟩ hb
      have Htw10 : C4 w10 (w2.heap.size) (.string x) (.string ⟨#[]⟩) (.string g) (.slice A 0 kc) := C4.below ⟨by go_simp, by go_simp, by go_simp, by go_simp, by go_simp, by go_simp, by go_simp, by go_simp⟩ hb
      have D10 : Below w2.heap.size w2 w10 := (by (repeat (first | with_reducible exact Below.refl _ _ | with_reducible refine bel_set ?_ ?_ | with_reducible refine bel_alloc ?_ ?_ | with_reducible refine Below.drew ?_ | with_reducible refine bel_drewN _ ?_ | with_reducible refine bel_call ?_ (by assumption) ?_)); all_goals (first | (simp; done) | omega | (simp; omega)))
      have hbk := Lib.hid hb
      clear hb r0_w9 r1_w9 r2_w9 r3_w9 r4_w9 r5_w9 r6_w9 r7_w9 qr_w9 t0_w9 t1_w9 t2_w9 t3_w9 t4_w9 t5_w9 t6_w9 t7_w9 qt_w9 D9
      obtain ⟨r0_w10, r1_w10, r2_w10, r3_w10, r4_w10, r5_w10, r6_w10, r7_w10⟩ := Hrw10
      have qr_w10 := lt_of_cell r0_w10
      obtain ⟨t0_w10, t1_w10, t2_w10, t3_w10, t4_w10, t5_w10, t6_w10, t7_w10⟩ := Htw10
      have qt_w10 := lt_of_cell t0_w10
      have HST5 := Lib.hid (HST4.out.below hbk.out)
      clear hbk
      have hb1 := Bw1.out
      have hb2 := Bw2.out
      have b1 := hb1.size
      have b2 := hb2.size
      have hbD := hb2.trans (D10.mono hb2.size)
      cases hq : (m.toList == L.toList)
      · have hne : lowerL (tagText x.data.toList (⟨#[]⟩ : ByteArray).data.toList g.data.toList (listsOf [])) ≠ lowerL s.data.toList := fun h => by
          have h2 := HMM.out
          rw [HTT.out] at h2
          rw [h2, HL.out] at h
          rw [Lib.toList_data, Lib.toList_data, h] at hq
          simp at hq
        have HNE := Lib.hid hne
        clear hne
        have hq2 : (m.toList != L.toList) = true := by rw [bne, hq]; rfl
        go_wp2_with fail
        exact bodyPost_ret (v := .tuple #[tagV ⟨#[]⟩ ⟨#[]⟩ ⟨#[]⟩ none 0 0, .bool false]) (by simp [results, Tryd.results19, go_sem, r0_w10, r1_w10, r2_w10, r3_w10, World.cell?_setCell_same, World.cell?_setCell_other]) rfl ⟨.inr ⟨isTagR_no2 HT.out HNE.out, rfl⟩, (by (repeat (first | with_reducible exact Below.refl _ _ | with_reducible refine bel_set ?_ ?_ | with_reducible refine bel_alloc ?_ ?_ | with_reducible refine Below.drew ?_ | with_reducible refine bel_drewN _ ?_ | with_reducible refine bel_call ?_ (by assumption) ?_)); all_goals (first | (simp; done) | omega | (simp; omega)))⟩
      · have hyes : isTagR s.data.toList = true := isTagR_yes HT.out HE.out.symm (by
          have h2 := HMM.out
          rw [HTT.out] at h2
          have h3 := eq_of_beq hq
          rw [Lib.toList_data, Lib.toList_data] at h3
          rw [HL.out, ← h3]
          exact h2)
        have HYES := Lib.hid hyes
        clear hyes
        have hq2 : m.toList = L.toList := by simpa using hq
        go_wp2_with fail
        refine bodyPost_ret (v := .tuple #[tagV x ⟨#[]⟩ g A ([] : List ByteArray).length kc, .bool true]) (by simp [results, Tryd.results19, go_sem, r0_w10, r1_w10, r2_w10, r3_w10, World.cell?_setCell_same, World.cell?_setCell_other]) rfl ⟨.inl ⟨HYES.out, x, ⟨#[]⟩, g, A, kc, [], rfl, HT.out, ?_, ?_, ?_⟩, (by (repeat (first | with_reducible exact Below.refl _ _ | with_reducible refine bel_set ?_ ?_ | with_reducible refine bel_alloc ?_ ?_ | with_reducible refine Below.drew ?_ | with_reducible refine bel_drewN _ ?_ | with_reducible refine bel_call ?_ (by assumption) ?_)); all_goals (first | (simp; done) | omega | (simp; omega)))⟩
        · have hl : w.heap.size < bz := by have := HSC.out; omega
          exact ((((HST5.out.set _ _ _ hl).set _ _ _ hl).set _ _ _ hl).set _ _ _ hl).strs
        · exact HKC.out
        · exact HA.out
    · have E0 : (E != 0) = true := bne_iff_ne.2 h0
      have HNE : Hid (tagErr x.data.toList (⟨#[]⟩ : ByteArray).data.toList g.data.toList (listsOf []) ≠ 0) := Lib.hid (fun h => h0 (HE.out.trans h))
      clear h0 HE
      refine (KC.out).mono ?_
      rintro e w7 ⟨rfl, hb⟩
      have Hrw7 : C4 w7 (w.heap.size) (.string ⟨#[]⟩) (.string ⟨#[]⟩) (.string ⟨#[]⟩) (.slice none 0 0) := C4.below ⟨by go_simp, by go_simp, by go_simp, by go_simp, by go_simp, by go_simp, by go_simp, by go_simp⟩ hb
      have Htw7 : C4 w7 (w2.heap.size) (.string x) (.string ⟨#[]⟩) (.string g) (.slice A 0 kc) := C4.below ⟨by go_simp, by go_simp, by go_simp, by go_simp, by go_simp, by go_simp, by go_simp, by go_simp⟩ hb
      have D7 : Below w2.heap.size w2 w7 := (by (repeat (first | with_reducible exact Below.refl _ _ | with_reducible refine bel_set ?_ ?_ | with_reducible refine bel_alloc ?_ ?_ | with_reducible refine Below.drew ?_ | with_reducible refine bel_drewN _ ?_ | with_reducible refine bel_call ?_ (by assumption) ?_)); all_goals (first | (simp; done) | omega | (simp; omega)))
      clear hb r0_w6 r1_w6 r2_w6 r3_w6 r4_w6 r5_w6 r6_w6 r7_w6 qr_w6 t0_w6 t1_w6 t2_w6 t3_w6 t4_w6 t5_w6 t6_w6 t7_w6 qt_w6 D6
      obtain ⟨r0_w7, r1_w7, r2_w7, r3_w7, r4_w7, r5_w7, r6_w7, r7_w7⟩ := Hrw7
      have qr_w7 := lt_of_cell r0_w7
      obtain ⟨t0_w7, t1_w7, t2_w7, t3_w7, t4_w7, t5_w7, t6_w7, t7_w7⟩ := Htw7
      have qt_w7 := lt_of_cell t0_w7
      have hb1 := Bw1.out
      have hb2 := Bw2.out
      have b1 := hb1.size
      have b2 := hb2.size
      have hbD := hb2.trans (D7.mono hb2.size)
      go_wp2_with fail
      exact bodyPost_ret (v := .tuple #[tagV ⟨#[]⟩ ⟨#[]⟩ ⟨#[]⟩ none 0 0, .bool false]) (by simp [results, Tryd.results19, go_sem, r0_w7, r1_w7, r2_w7, r3_w7, World.cell?_setCell_same, World.cell?_setCell_other]) rfl ⟨.inr ⟨isTagR_no1 HT.out HNE.out, rfl⟩, (by (repeat (first | with_reducible exact Below.refl _ _ | with_reducible refine bel_set ?_ ?_ | with_reducible refine bel_alloc ?_ ?_ | with_reducible refine Below.drew ?_ | with_reducible refine bel_drewN _ ?_ | with_reducible refine bel_call ?_ (by assumption) ?_)); all_goals (first | (simp; done) | omega | (simp; omega)))⟩
end Go.Proofs.YtnhlnhmjnnopaaaDoor

/- linguisterref1.TagOf: way 6. -/
namespace Go.Proofs.YtnhlnhmjnnopaaaDoor
open Go.RowKit

set_option maxHeartbeats 4000000 in
set_option maxRecDepth 100000 in
theorem tagof_way6 (s L x q y : ByteArray) (r : List ByteArray) (w : World) (hM : MaxL w) (hs : s.size ≤ 1000000000) (hL : lowerL s.data.toList = L.data.toList) (hps : listsOf (x :: q :: y :: r) = splitD L.data.toList) (hn : q.size ≠ 4) (hq : q.size < 4) :
    Calls Tryd.prog 19 #[.string s] w fun e w' => TagOut s e w' ∧ Below w.heap.size w w' := by
  obtain ⟨hmade, hsz, hcnt⟩ := made_isR hL hps
  have hLs : L.size = s.size := by rw [← tsize, ← tsize, ← hL]; unfold lowerL; simp
  obtain ⟨g, hg⟩ : ∃ g : ByteArray, upperL q.data.toList = g.data.toList := ⟨⟨(upperL q.data.toList).toArray⟩, rfl⟩
  have hgz : g.size ≤ 1000000000 := by have h := hsz q (by simp); rw [← tsize, ← hg, upper_len, tsize]; omega
  have hT : madeR s.data.toList = ⟨x.data.toList, [], g.data.toList, listsOf (y :: r)⟩ := by
    rw [hmade]
    simp [listsOf, List.map_cons, List.map_nil, scrR, regR, tsize, hn, hg, hq]
  have HT := Lib.hid hT
  have zx : x.size ≤ 1000000000 := by have := hsz x (by simp); omega
  have zq : q.size ≤ 1000000000 := by have := hsz q (by simp); omega
  have zy : y.size ≤ 1000000000 := by have := hsz y (by simp); omega
  have hrl : r.length ≤ 1000000000 := by simp at hcnt; omega
  have HZ : Hid (∀ v ∈ (y :: r), v.size ≤ 1000000000) := Lib.hid (fun v hv => by have := hsz v (List.mem_cons_of_mem _ (List.mem_cons_of_mem _ hv)); omega)
  have HPS := Lib.hid hps
  have HL := Lib.hid hL
  have HM := Lib.hid hM
  have HN := Lib.hid hn
  have HG := Lib.hid hg
  have HQ := Lib.hid hq
  clear hmade hsz hcnt hT hps hL hM hn hg hq
  go_enter Tryd.func19, Tryd.ntmps19
  go_wp2_with fail
  refine (rlow_call s L HL.out (by omega) _).mono ?_
  rintro e w1 ⟨rfl, hb1⟩
  have Hrw1 : C4 w1 (w.heap.size) (.string ⟨#[]⟩) (.string ⟨#[]⟩) (.string ⟨#[]⟩) (.slice none 0 0) := C4.below ⟨by go_simp, by go_simp, by go_simp, by go_simp, by go_simp, by go_simp, by go_simp, by go_simp⟩ hb1
  have Bw1 := Lib.hid hb1
  obtain ⟨r0_w1, r1_w1, r2_w1, r3_w1, r4_w1, r5_w1, r6_w1, r7_w1⟩ := Hrw1
  have qr_w1 := lt_of_cell r0_w1
  have s1 : w.heap.size < w1.heap.size := qr_w1
  go_wp2_with fail
  refine (cut_call L x _ HPS.out _ (by omega)).mono ?_
  rintro e w2 ⟨bk, cd, rfl, hcd, hbk0, hcp, hb2⟩
  have HCP := Lib.hid hcp
  have c0_w2 : w2.cell? ⟨bk, 0, none⟩ = some (.string x) := hcp 0 x rfl
  have c1_w2 : w2.cell? ⟨bk, 1, none⟩ = some (.string q) := hcp 1 q rfl
  have c2_w2 : w2.cell? ⟨bk, 2, none⟩ = some (.string y) := hcp 2 y rfl
  have Hrw2 : C4 w2 (w.heap.size) (.string ⟨#[]⟩) (.string ⟨#[]⟩) (.string ⟨#[]⟩) (.slice none 0 0) := C4.below ⟨by go_simp, by go_simp, by go_simp, by go_simp, by go_simp, by go_simp, by go_simp, by go_simp⟩ hb2
  have Bw2 := Lib.hid hb2
  clear hcp hb2 r0_w1 r1_w1 r2_w1 r3_w1 r4_w1 r5_w1 r6_w1 r7_w1 qr_w1
  obtain ⟨r0_w2, r1_w2, r2_w2, r3_w2, r4_w2, r5_w2, r6_w2, r7_w2⟩ := Hrw2
  have qr_w2 := lt_of_cell r0_w2
  have qc_w2 := lt_of_cell c0_w2
  simp only [List.length_cons, List.length_nil, Nat.zero_add] at hcd ⊢
  have hbk1 : w.heap.size < bk := by omega
  have hcd2 : r.length + 3 ≤ cd := by omega
  clear hcd hbk0
  have ncd1 : ¬ cd = 1 := by omega
  have ncd2 : ¬ cd - 1 = 1 := by omega
  have tp : ((q.size : Int) == 4) = false := by rw [beq_eq_false_iff_ne]; have := HN.out; omega
  have tq : (q.size : Int) < 4 := by have := HQ.out; omega
  have l1 : (0 : Int) < (r.length : Int) + 2 := by omega
  have l2 : (0 : Int) < (r.length : Int) + 1 := by omega
  go_wp2_with fail
  refine (rup_call q g HG.out (by omega) _).mono ?_
  rintro e w5 ⟨rfl, hb⟩
  have Hrw5 : C4 w5 (w.heap.size) (.string ⟨#[]⟩) (.string ⟨#[]⟩) (.string ⟨#[]⟩) (.slice none 0 0) := C4.below ⟨by go_simp, by go_simp, by go_simp, by go_simp, by go_simp, by go_simp, by go_simp, by go_simp⟩ hb
  have Htw5 : C4 w5 (w2.heap.size) (.string x) (.string ⟨#[]⟩) (.string ⟨#[]⟩) (.slice none 0 0) := C4.below ⟨by go_simp, by go_simp, by go_simp, by go_simp, by go_simp, by go_simp, by go_simp, by go_simp⟩ hb
  have c1_w5 : w5.cell? ⟨bk, 1, none⟩ = some (.string q) := carry hb (by go_simp)
  have c2_w5 : w5.cell? ⟨bk, 2, none⟩ = some (.string y) := carry hb (by go_simp)
  have D5 : Below w2.heap.size w2 w5 := (by (repeat (first | with_reducible exact Below.refl _ _ | with_reducible refine bel_set ?_ ?_ | with_reducible refine bel_alloc ?_ ?_ | with_reducible refine Below.drew ?_ | with_reducible refine bel_drewN _ ?_ | with_reducible refine bel_call ?_ (by assumption) ?_)); all_goals (first | (simp; done) | omega | (simp; omega)))
  clear hb r0_w2 r1_w2 r2_w2 r3_w2 r4_w2 r5_w2 r6_w2 r7_w2 qr_w2 c0_w2 c1_w2 c2_w2
  obtain ⟨r0_w5, r1_w5, r2_w5, r3_w5, r4_w5, r5_w5, r6_w5, r7_w5⟩ := Hrw5
  have qr_w5 := lt_of_cell r0_w5
  obtain ⟨t0_w5, t1_w5, t2_w5, t3_w5, t4_w5, t5_w5, t6_w5, t7_w5⟩ := Htw5
  have qt_w5 := lt_of_cell t0_w5
  have DC : Below w2.heap.size w2 (w5.setCell ⟨w2.heap.size, 2, none⟩ (.string g)) := (by (repeat (first | with_reducible exact Below.refl _ _ | with_reducible refine bel_set ?_ ?_ | with_reducible refine bel_alloc ?_ ?_ | with_reducible refine Below.drew ?_ | with_reducible refine bel_drewN _ ?_ | with_reducible refine bel_call ?_ (by assumption) ?_)); all_goals (first | (simp; done) | omega | (simp; omega)))
  have SC : w2.heap.size < (w5.setCell ⟨w2.heap.size, 2, none⟩ (.string g)).heap.size := by simpa using qt_w5
  have HCL : Hid (∀ (j : Nat) z, (y :: r)[j]? = some z → (w5.setCell ⟨w2.heap.size, 2, none⟩ (.string g)).cell? ⟨bk, 2 + j, none⟩ = some (.string z)) := Lib.hid (fun j z hz => carry DC (HCP.out (2 + j) z (by rw [Nat.add_comm]; exact hz)))
  clear DC
  obtain ⟨bz, hbz⟩ : ∃ b, b = (w5.setCell ⟨w2.heap.size, 2, none⟩ (.string g)).heap.size := ⟨_, rfl⟩
  have HBZ := Lib.hid hbz
  have SCZ : w2.heap.size < bz := by rw [hbz]; exact SC
  have HSC := Lib.hid SCZ
  clear hbz SCZ SC
  go_wp2_with (at_builtin; refine wpList_append_many rfl _ _ rfl (ys := (y :: r)) rfl rfl (OwnsS.nil _ bz) (.inr ⟨bk, 2, rfl, HCL.out⟩) (by intro h; first | (cases h; done) | (split at h <;> cases h)) (by rw [HBZ.out]; exact Nat.le_refl _) (by first | (simp; done) | (simp; omega)) ?_; intro v' w6 ho hoff; have hb := (OwnsS.nil _ bz).grown hoff (by rw [HBZ.out]; exact Nat.le_refl _); rw [HBZ.out] at hb; rw [List.nil_append] at ho; obtain ⟨A, kc, rfl, _⟩ := ho.form; have Hrw6 : C4 w6 (w.heap.size) (.string ⟨#[]⟩) (.string ⟨#[]⟩) (.string ⟨#[]⟩) (.slice none 0 0) := C4.below ⟨by go_simp, by go_simp, by go_simp, by go_simp, by go_simp, by go_simp, by go_simp, by go_simp⟩ hb; have Htw6 : C4 w6 (w2.heap.size) (.string x) (.string ⟨#[]⟩) (.string g) (.slice none 0 0) := C4.below ⟨by go_simp, by go_simp, by go_simp, by go_simp, by go_simp, by go_simp, by go_simp, by go_simp⟩ hb; have D6 : Below w2.heap.size w2 w6 := (by (repeat (first | with_reducible exact Below.refl _ _ | with_reducible refine bel_set ?_ ?_ | with_reducible refine bel_alloc ?_ ?_ | with_reducible refine Below.drew ?_ | with_reducible refine bel_drewN _ ?_ | with_reducible refine bel_call ?_ (by assumption) ?_)); all_goals (first | (simp; done) | omega | (simp; omega))); obtain ⟨hkc, hA⟩ := ho.caps; have HKM := Lib.hid ho.capM; have HST := Lib.hid (ho.set w2.heap.size 3 (.slice A (r.length + 1) kc) HSC.out); have HA := Lib.hid hA; have HKC := Lib.hid hkc; clear hb ho hoff hA hkc HCL c1_w5 c2_w5 r0_w5 r1_w5 r2_w5 r3_w5 r4_w5 r5_w5 r6_w5 r7_w5 qr_w5 t0_w5 t1_w5 t2_w5 t3_w5 t4_w5 t5_w5 t6_w5 t7_w5 qt_w5 D5; obtain ⟨r0_w6, r1_w6, r2_w6, r3_w6, r4_w6, r5_w6, r6_w6, r7_w6⟩ := Hrw6; have qr_w6 := lt_of_cell r0_w6; obtain ⟨t0_w6, t1_w6, t2_w6, t3_w6, t4_w6, t5_w6, t6_w6, t7_w6⟩ := Htw6; have qt_w6 := lt_of_cell t0_w6)
  obtain ⟨E, hE⟩ : ∃ E, E = tagErr x.data.toList (⟨#[]⟩ : ByteArray).data.toList g.data.toList (listsOf (y :: r)) := ⟨_, rfl⟩
  have KC := Lib.hid (ref_fault x ⟨#[]⟩ g A kc (y :: r) (w6.setCell ⟨w2.heap.size, 3, none⟩ (.slice A (r.length + 1) kc)) (by omega) (by decide) (by omega) (fun v hv => by have := HZ.out v hv; omega) HST.out.strs HKC.out HKM.out)
  rw [← hE] at KC
  have HE := Lib.hid hE
  clear hE
  by_cases h0 : E = 0
  · subst h0
    refine (KC.out).mono ?_
    rintro e w7 ⟨rfl, hb⟩
    have Hrw7 : C4 w7 (w.heap.size) (.string ⟨#[]⟩) (.string ⟨#[]⟩) (.string ⟨#[]⟩) (.slice none 0 0) := C4.below ⟨by go_simp, by go_simp, by go_simp, by go_simp, by go_simp, by go_simp, by go_simp, by go_simp⟩ hb
    have Htw7 : C4 w7 (w2.heap.size) (.string x) (.string ⟨#[]⟩) (.string g) (.slice A (r.length + 1) kc) := C4.below ⟨by go_simp, by go_simp, by go_simp, by go_simp, by go_simp, by go_simp, by go_simp, by go_simp⟩ hb
    have D7 : Below w2.heap.size w2 w7 := (by (repeat (first | with_reducible exact Below.refl _ _ | with_reducible refine bel_set ?_ ?_ | with_reducible refine bel_alloc ?_ ?_ | with_reducible refine Below.drew ?_ | with_reducible refine bel_drewN _ ?_ | with_reducible refine bel_call ?_ (by assumption) ?_)); all_goals (first | (simp; done) | omega | (simp; omega)))
    have hbk := Lib.hid hb
    clear hb r0_w6 r1_w6 r2_w6 r3_w6 r4_w6 r5_w6 r6_w6 r7_w6 qr_w6 t0_w6 t1_w6 t2_w6 t3_w6 t4_w6 t5_w6 t6_w6 t7_w6 qt_w6 D6
    obtain ⟨r0_w7, r1_w7, r2_w7, r3_w7, r4_w7, r5_w7, r6_w7, r7_w7⟩ := Hrw7
    have qr_w7 := lt_of_cell r0_w7
    obtain ⟨t0_w7, t1_w7, t2_w7, t3_w7, t4_w7, t5_w7, t6_w7, t7_w7⟩ := Htw7
    have qt_w7 := lt_of_cell t0_w7
    have he0 := HE.out.symm
    have hlt := text_len he0
    obtain ⟨t, ht⟩ : ∃ t : ByteArray, t = ⟨(tagText x.data.toList (⟨#[]⟩ : ByteArray).data.toList g.data.toList (listsOf (y :: r))).toArray⟩ := ⟨_, rfl⟩
    have htz : t.size ≤ 100 := by rw [← tsize, ht]; exact hlt
    have HST2 := Lib.hid (HST.out.below hbk.out)
    have KT := Lib.hid (ref_tag_text x ⟨#[]⟩ g A kc (y :: r) w7 HST2.out.strs HA.out he0)
    rw [← ht] at KT
    obtain ⟨m, hm⟩ : ∃ m : ByteArray, lowerL t.data.toList = m.data.toList := ⟨⟨(lowerL t.data.toList).toArray⟩, rfl⟩
    have HMM := Lib.hid hm
    have HTT := Lib.hid ht
    clear hm ht hlt he0
    go_wp2_with fail
    clear hbk
    refine (KT.out).mono ?_
    rintro e w8 ⟨rfl, hb⟩
    have Hrw8 : C4 w8 (w.heap.size) (.string ⟨#[]⟩) (.string ⟨#[]⟩) (.string ⟨#[]⟩) (.slice none 0 0) := C4.below ⟨by go_simp, by go_simp, by go_simp, by go_simp, by go_simp, by go_simp, by go_simp, by go_simp⟩ hb
    have Htw8 : C4 w8 (w2.heap.size) (.string x) (.string ⟨#[]⟩) (.string g) (.slice A (r.length + 1) kc) := C4.below ⟨by go_simp, by go_simp, by go_simp, by go_simp, by go_simp, by go_simp, by go_simp, by go_simp⟩ hb
    have D8 : Below w2.heap.size w2 w8 := (by (repeat (first | with_reducible exact Below.refl _ _ | with_reducible refine bel_set ?_ ?_ | with_reducible refine bel_alloc ?_ ?_ | with_reducible refine Below.drew ?_ | with_reducible refine bel_drewN _ ?_ | with_reducible refine bel_call ?_ (by assumption) ?_)); all_goals (first | (simp; done) | omega | (simp; omega)))
    have hbk := Lib.hid hb
    clear hb r0_w7 r1_w7 r2_w7 r3_w7 r4_w7 r5_w7 r6_w7 r7_w7 qr_w7 t0_w7 t1_w7 t2_w7 t3_w7 t4_w7 t5_w7 t6_w7 t7_w7 qt_w7 D7
    obtain ⟨r0_w8, r1_w8, r2_w8, r3_w8, r4_w8, r5_w8, r6_w8, r7_w8⟩ := Hrw8
    have qr_w8 := lt_of_cell r0_w8
    obtain ⟨t0_w8, t1_w8, t2_w8, t3_w8, t4_w8, t5_w8, t6_w8, t7_w8⟩ := Htw8
    have qt_w8 := lt_of_cell t0_w8
    have HST3 := Lib.hid (HST2.out.below hbk.out)
    clear hbk
    go_wp2_with fail
    refine (rlow_call t m HMM.out (by omega) _).mono ?_
    rintro e w9 ⟨rfl, hb⟩
    have Hrw9 : C4 w9 (w.heap.size) (.string ⟨#[]⟩) (.string ⟨#[]⟩) (.string ⟨#[]⟩) (.slice none 0 0) := C4.below ⟨by go_simp, by go_simp, by go_simp, by go_simp, by go_simp, by go_simp, by go_simp, by go_simp⟩ hb
    have Htw9 : C4 w9 (w2.heap.size) (.string x) (.string ⟨#[]⟩) (.string g) (.slice A (r.length + 1) kc) := C4.below ⟨by go_simp, by go_simp, by go_simp, by go_simp, by go_simp, by go_simp, by go_simp, by go_simp⟩ hb
    have D9 : Below w2.heap.size w2 w9 := (by (repeat (first | with_reducible exact Below.refl _ _ | with_reducible refine bel_set ?_ ?_ | with_reducible refine bel_alloc ?_ ?_ | with_reducible refine Below.drew ?_ | with_reducible refine bel_drewN _ ?_ | with_reducible refine bel_call ?_ (by assumption) ?_)); all_goals (first | (simp; done) | omega | (simp; omega)))
    have hbk := Lib.hid hb
    clear hb r0_w8 r1_w8 r2_w8 r3_w8 r4_w8 r5_w8 r6_w8 r7_w8 qr_w8 t0_w8 t1_w8 t2_w8 t3_w8 t4_w8 t5_w8 t6_w8 t7_w8 qt_w8 D8
    obtain ⟨r0_w9, r1_w9, r2_w9, r3_w9, r4_w9, r5_w9, r6_w9, r7_w9⟩ := Hrw9
    have qr_w9 := lt_of_cell r0_w9
    obtain ⟨t0_w9, t1_w9, t2_w9, t3_w9, t4_w9, t5_w9, t6_w9, t7_w9⟩ := Htw9
    have qt_w9 := lt_of_cell t0_w9
    have HST4 := Lib.hid (HST3.out.below hbk.out)
    clear hbk
    go_wp2_with fail
    refine (rlow_call s L HL.out (by omega) _).mono ?_
    rintro e w10 ⟨rfl, hb⟩
    have Hrw10 : C4 w10 (w.heap.size) (.string ⟨#[]⟩) (.string ⟨#[]⟩) (.string ⟨#[]⟩) (.slice none 0 0) := C4.below ⟨by go_simp, by go_simp, by go_simp, by go_simp, by go_simp, by go_simp, by go_simp, by go_simp⟩ hb
    have Htw10 : C4 w10 (w2.heap.size) (.string x) (.string ⟨#[]⟩) (.string g) (.slice A (r.length + 1) kc) := C4.below ⟨by go_simp, by go_simp, by go_simp, by go_simp, by go_simp, by go_simp, by go_simp, by go_simp⟩ hb
    have D10 : Below w2.heap.size w2 w10 := (by (repeat (first | with_reducible exact Below.refl _ _ | with_reducible refine bel_set ?_ ?_ | with_reducible refine bel_alloc ?_ ?_ | with_reducible refine Below.drew ?_ | with_reducible refine bel_drewN _ ?_ | with_reducible refine bel_call ?_ (by assumption) ?_)); all_goals (first | (simp; done) | omega | (simp; omega)))
    have hbk := Lib.hid hb
    clear hb r0_w9 r1_w9 r2_w9 r3_w9 r4_w9 r5_w9 r6_w9 r7_w9 qr_w9 t0_w9 t1_w9 t2_w9 t3_w9 t4_w9 t5_w9 t6_w9 t7_w9 qt_w9 D9
    obtain ⟨r0_w10, r1_w10, r2_w10, r3_w10, r4_w10, r5_w10, r6_w10, r7_w10⟩ := Hrw10
    have qr_w10 := lt_of_cell r0_w10
    obtain ⟨t0_w10, t1_w10, t2_w10, t3_w10, t4_w10, t5_w10, t6_w10, t7_w10⟩ := Htw10
    have qt_w10 := lt_of_cell t0_w10
    have HST5 := Lib.hid (HST4.out.below hbk.out)
    clear hbk
    have hb1 := Bw1.out
    have hb2 := Bw2.out
    have b1 := hb1.size
    have b2 := hb2.size
    have hbD := hb2.trans (D10.mono hb2.size)
    cases hq : (m.toList == L.toList)
    · have hne : lowerL (tagText x.data.toList (⟨#[]⟩ : ByteArray).data.toList g.data.toList (listsOf (y :: r))) ≠ lowerL s.data.toList := fun h => by
        have h2 := HMM.out
        rw [HTT.out] at h2
        rw [h2, HL.out] at h
        rw [Lib.toList_data, Lib.toList_data, h] at hq
        simp at hq
      have HNE := Lib.hid hne
      clear hne
      have hq2 : (m.toList != L.toList) = true := by rw [bne, hq]; rfl
      go_wp2_with fail
      exact bodyPost_ret (v := .tuple #[tagV ⟨#[]⟩ ⟨#[]⟩ ⟨#[]⟩ none 0 0, .bool false]) (by simp [results, Tryd.results19, go_sem, r0_w10, r1_w10, r2_w10, r3_w10, World.cell?_setCell_same, World.cell?_setCell_other]) rfl ⟨.inr ⟨isTagR_no2 HT.out HNE.out, rfl⟩, (by (repeat (first | with_reducible exact Below.refl _ _ | with_reducible refine bel_set ?_ ?_ | with_reducible refine bel_alloc ?_ ?_ | with_reducible refine Below.drew ?_ | with_reducible refine bel_drewN _ ?_ | with_reducible refine bel_call ?_ (by assumption) ?_)); all_goals (first | (simp; done) | omega | (simp; omega)))⟩
    · have hyes : isTagR s.data.toList = true := isTagR_yes HT.out HE.out.symm (by
        have h2 := HMM.out
        rw [HTT.out] at h2
        have h3 := eq_of_beq hq
        rw [Lib.toList_data, Lib.toList_data] at h3
        rw [HL.out, ← h3]
        exact h2)
      have HYES := Lib.hid hyes
      clear hyes
      have hq2 : m.toList = L.toList := by simpa using hq
      go_wp2_with fail
      refine bodyPost_ret (v := .tuple #[tagV x ⟨#[]⟩ g A (y :: r).length kc, .bool true]) (by simp [results, Tryd.results19, go_sem, r0_w10, r1_w10, r2_w10, r3_w10, World.cell?_setCell_same, World.cell?_setCell_other]) rfl ⟨.inl ⟨HYES.out, x, ⟨#[]⟩, g, A, kc, (y :: r), rfl, HT.out, ?_, ?_, ?_⟩, (by (repeat (first | with_reducible exact Below.refl _ _ | with_reducible refine bel_set ?_ ?_ | with_reducible refine bel_alloc ?_ ?_ | with_reducible refine Below.drew ?_ | with_reducible refine bel_drewN _ ?_ | with_reducible refine bel_call ?_ (by assumption) ?_)); all_goals (first | (simp; done) | omega | (simp; omega)))⟩
      · have hl : w.heap.size < bz := by have := HSC.out; omega
        exact ((((HST5.out.set _ _ _ hl).set _ _ _ hl).set _ _ _ hl).set _ _ _ hl).strs
      · exact HKC.out
      · exact HA.out
  · have E0 : (E != 0) = true := bne_iff_ne.2 h0
    have HNE : Hid (tagErr x.data.toList (⟨#[]⟩ : ByteArray).data.toList g.data.toList (listsOf (y :: r)) ≠ 0) := Lib.hid (fun h => h0 (HE.out.trans h))
    clear h0 HE
    refine (KC.out).mono ?_
    rintro e w7 ⟨rfl, hb⟩
    have Hrw7 : C4 w7 (w.heap.size) (.string ⟨#[]⟩) (.string ⟨#[]⟩) (.string ⟨#[]⟩) (.slice none 0 0) := C4.below ⟨by go_simp, by go_simp, by go_simp, by go_simp, by go_simp, by go_simp, by go_simp, by go_simp⟩ hb
    have Htw7 : C4 w7 (w2.heap.size) (.string x) (.string ⟨#[]⟩) (.string g) (.slice A (r.length + 1) kc) := C4.below ⟨by go_simp, by go_simp, by go_simp, by go_simp, by go_simp, by go_simp, by go_simp, by go_simp⟩ hb
    have D7 : Below w2.heap.size w2 w7 := (by (repeat (first | with_reducible exact Below.refl _ _ | with_reducible refine bel_set ?_ ?_ | with_reducible refine bel_alloc ?_ ?_ | with_reducible refine Below.drew ?_ | with_reducible refine bel_drewN _ ?_ | with_reducible refine bel_call ?_ (by assumption) ?_)); all_goals (first | (simp; done) | omega | (simp; omega)))
    clear hb r0_w6 r1_w6 r2_w6 r3_w6 r4_w6 r5_w6 r6_w6 r7_w6 qr_w6 t0_w6 t1_w6 t2_w6 t3_w6 t4_w6 t5_w6 t6_w6 t7_w6 qt_w6 D6
    obtain ⟨r0_w7, r1_w7, r2_w7, r3_w7, r4_w7, r5_w7, r6_w7, r7_w7⟩ := Hrw7
    have qr_w7 := lt_of_cell r0_w7
    obtain ⟨t0_w7, t1_w7, t2_w7, t3_w7, t4_w7, t5_w7, t6_w7, t7_w7⟩ := Htw7
    have qt_w7 := lt_of_cell t0_w7
    have hb1 := Bw1.out
    have hb2 := Bw2.out
    have b1 := hb1.size
    have b2 := hb2.size
    have hbD := hb2.trans (D7.mono hb2.size)
    go_wp2_with fail
    exact bodyPost_ret (v := .tuple #[tagV ⟨#[]⟩ ⟨#[]⟩ ⟨#[]⟩ none 0 0, .bool false]) (by simp [results, Tryd.results19, go_sem, r0_w7, r1_w7, r2_w7, r3_w7, World.cell?_setCell_same, World.cell?_setCell_other]) rfl ⟨.inr ⟨isTagR_no1 HT.out HNE.out, rfl⟩, (by (repeat (first | with_reducible exact Below.refl _ _ | with_reducible refine bel_set ?_ ?_ | with_reducible refine bel_alloc ?_ ?_ | with_reducible refine Below.drew ?_ | with_reducible refine bel_drewN _ ?_ | with_reducible refine bel_call ?_ (by assumption) ?_)); all_goals (first | (simp; done) | omega | (simp; omega)))⟩
end Go.Proofs.YtnhlnhmjnnopaaaDoor

/- linguisterref1.TagOf: way 7. -/
namespace Go.Proofs.YtnhlnhmjnnopaaaDoor
open Go.RowKit

set_option maxHeartbeats 4000000 in
set_option maxRecDepth 100000 in
theorem tagof_way7 (s L x y : ByteArray) (r : List ByteArray) (w : World) (hM : MaxL w) (hs : s.size ≤ 1000000000) (hL : lowerL s.data.toList = L.data.toList) (hps : listsOf (x :: y :: r) = splitD L.data.toList) (hn : y.size ≠ 4) (hm : ¬ y.size < 4) :
    Calls Tryd.prog 19 #[.string s] w fun e w' => TagOut s e w' ∧ Below w.heap.size w w' := by
  obtain ⟨hmade, hsz, hcnt⟩ := made_isR hL hps
  have hLs : L.size = s.size := by rw [← tsize, ← tsize, ← hL]; unfold lowerL; simp
  obtain ⟨g, hg⟩ : ∃ g : ByteArray, upperL y.data.toList = g.data.toList := ⟨⟨(upperL y.data.toList).toArray⟩, rfl⟩
  have hgz : g.size ≤ 1000000000 := by have h := hsz y (by simp); rw [← tsize, ← hg, upper_len, tsize]; omega
  have hT : madeR s.data.toList = ⟨x.data.toList, [], [], listsOf (y :: r)⟩ := by
    rw [hmade]
    simp [listsOf, List.map_cons, List.map_nil, scrR, regR, tsize, hn, hg, hm]
  have HT := Lib.hid hT
  have zx : x.size ≤ 1000000000 := by have := hsz x (by simp); omega
  have zy : y.size ≤ 1000000000 := by have := hsz y (by simp); omega
  have hrl : r.length ≤ 1000000000 := by simp at hcnt; omega
  have HZ : Hid (∀ v ∈ (y :: r), v.size ≤ 1000000000) := Lib.hid (fun v hv => by have := hsz v (List.mem_cons_of_mem _ hv); omega)
  have HPS := Lib.hid hps
  have HL := Lib.hid hL
  have HM := Lib.hid hM
  have HN := Lib.hid hn
  have HG := Lib.hid hg
  have HQ := Lib.hid hm
  clear hmade hsz hcnt hT hps hL hM hn hg hm
  go_enter Tryd.func19, Tryd.ntmps19
  go_wp2_with fail
  refine (rlow_call s L HL.out (by omega) _).mono ?_
  rintro e w1 ⟨rfl, hb1⟩
  have Hrw1 : C4 w1 (w.heap.size) (.string ⟨#[]⟩) (.string ⟨#[]⟩) (.string ⟨#[]⟩) (.slice none 0 0) := C4.below ⟨by go_simp, by go_simp, by go_simp, by go_simp, by go_simp, by go_simp, by go_simp, by go_simp⟩ hb1
  have Bw1 := Lib.hid hb1
  obtain ⟨r0_w1, r1_w1, r2_w1, r3_w1, r4_w1, r5_w1, r6_w1, r7_w1⟩ := Hrw1
  have qr_w1 := lt_of_cell r0_w1
  have s1 : w.heap.size < w1.heap.size := qr_w1
  go_wp2_with fail
  refine (cut_call L x _ HPS.out _ (by omega)).mono ?_
  rintro e w2 ⟨bk, cd, rfl, hcd, hbk0, hcp, hb2⟩
  have HCP := Lib.hid hcp
  have c0_w2 : w2.cell? ⟨bk, 0, none⟩ = some (.string x) := hcp 0 x rfl
  have c1_w2 : w2.cell? ⟨bk, 1, none⟩ = some (.string y) := hcp 1 y rfl
  have Hrw2 : C4 w2 (w.heap.size) (.string ⟨#[]⟩) (.string ⟨#[]⟩) (.string ⟨#[]⟩) (.slice none 0 0) := C4.below ⟨by go_simp, by go_simp, by go_simp, by go_simp, by go_simp, by go_simp, by go_simp, by go_simp⟩ hb2
  have Bw2 := Lib.hid hb2
  clear hcp hb2 r0_w1 r1_w1 r2_w1 r3_w1 r4_w1 r5_w1 r6_w1 r7_w1 qr_w1
  obtain ⟨r0_w2, r1_w2, r2_w2, r3_w2, r4_w2, r5_w2, r6_w2, r7_w2⟩ := Hrw2
  have qr_w2 := lt_of_cell r0_w2
  have qc_w2 := lt_of_cell c0_w2
  simp only [List.length_cons, List.length_nil, Nat.zero_add] at hcd ⊢
  have hbk1 : w.heap.size < bk := by omega
  have hcd2 : r.length + 2 ≤ cd := by omega
  clear hcd hbk0
  have ncd1 : ¬ cd = 1 := by omega
  have tp : ((y.size : Int) == 4) = false := by rw [beq_eq_false_iff_ne]; have := HN.out; omega
  have tq : ¬ (y.size : Int) < 4 := by have := HQ.out; omega
  have l1 : (0 : Int) < (r.length : Int) + 1 := by omega
  have DC : Below w2.heap.size w2 (w2.alloc (.cells #[.string x, .string ⟨#[]⟩, .string ⟨#[]⟩, .slice none 0 0] 47)) := (by (repeat (first | with_reducible exact Below.refl _ _ | with_reducible refine bel_set ?_ ?_ | with_reducible refine bel_alloc ?_ ?_ | with_reducible refine Below.drew ?_ | with_reducible refine bel_drewN _ ?_ | with_reducible refine bel_call ?_ (by assumption) ?_)); all_goals (first | (simp; done) | omega | (simp; omega)))
  have SC : w2.heap.size < (w2.alloc (.cells #[.string x, .string ⟨#[]⟩, .string ⟨#[]⟩, .slice none 0 0] 47)).heap.size := by simp
  have HCL : Hid (∀ (j : Nat) z, (y :: r)[j]? = some z → (w2.alloc (.cells #[.string x, .string ⟨#[]⟩, .string ⟨#[]⟩, .slice none 0 0] 47)).cell? ⟨bk, 1 + j, none⟩ = some (.string z)) := Lib.hid (fun j z hz => carry DC (HCP.out (1 + j) z (by rw [Nat.add_comm]; exact hz)))
  clear DC
  obtain ⟨bz, hbz⟩ : ∃ b, b = (w2.alloc (.cells #[.string x, .string ⟨#[]⟩, .string ⟨#[]⟩, .slice none 0 0] 47)).heap.size := ⟨_, rfl⟩
  have HBZ := Lib.hid hbz
  have SCZ : w2.heap.size < bz := by rw [hbz]; exact SC
  have HSC := Lib.hid SCZ
  clear hbz SCZ SC
  go_wp2_with (at_builtin; refine wpList_append_many rfl _ _ rfl (ys := (y :: r)) rfl rfl (OwnsS.nil _ bz) (.inr ⟨bk, 1, rfl, HCL.out⟩) (by intro h; first | (cases h; done) | (split at h <;> cases h)) (by rw [HBZ.out]; exact Nat.le_refl _) (by first | (simp; done) | (simp; omega)) ?_; intro v' w5 ho hoff; have hb := (OwnsS.nil _ bz).grown hoff (by rw [HBZ.out]; exact Nat.le_refl _); rw [HBZ.out] at hb; rw [List.nil_append] at ho; obtain ⟨A, kc, rfl, _⟩ := ho.form; have Hrw5 : C4 w5 (w.heap.size) (.string ⟨#[]⟩) (.string ⟨#[]⟩) (.string ⟨#[]⟩) (.slice none 0 0) := C4.below ⟨by go_simp, by go_simp, by go_simp, by go_simp, by go_simp, by go_simp, by go_simp, by go_simp⟩ hb; have Htw5 : C4 w5 (w2.heap.size) (.string x) (.string ⟨#[]⟩) (.string ⟨#[]⟩) (.slice none 0 0) := C4.below ⟨by go_simp, by go_simp, by go_simp, by go_simp, by go_simp, by go_simp, by go_simp, by go_simp⟩ hb; have D5 : Below w2.heap.size w2 w5 := (by (repeat (first | with_reducible exact Below.refl _ _ | with_reducible refine bel_set ?_ ?_ | with_reducible refine bel_alloc ?_ ?_ | with_reducible refine Below.drew ?_ | with_reducible refine bel_drewN _ ?_ | with_reducible refine bel_call ?_ (by assumption) ?_)); all_goals (first | (simp; done) | omega | (simp; omega))); obtain ⟨hkc, hA⟩ := ho.caps; have HKM := Lib.hid ho.capM; have HST := Lib.hid (ho.set w2.heap.size 3 (.slice A (r.length + 1) kc) HSC.out); have HA := Lib.hid hA; have HKC := Lib.hid hkc; clear hb ho hoff hA hkc HCL r0_w2 r1_w2 r2_w2 r3_w2 r4_w2 r5_w2 r6_w2 r7_w2 qr_w2 c0_w2 c1_w2; obtain ⟨r0_w5, r1_w5, r2_w5, r3_w5, r4_w5, r5_w5, r6_w5, r7_w5⟩ := Hrw5; have qr_w5 := lt_of_cell r0_w5; obtain ⟨t0_w5, t1_w5, t2_w5, t3_w5, t4_w5, t5_w5, t6_w5, t7_w5⟩ := Htw5; have qt_w5 := lt_of_cell t0_w5)
  obtain ⟨E, hE⟩ : ∃ E, E = tagErr x.data.toList (⟨#[]⟩ : ByteArray).data.toList (⟨#[]⟩ : ByteArray).data.toList (listsOf (y :: r)) := ⟨_, rfl⟩
  have KC := Lib.hid (ref_fault x ⟨#[]⟩ ⟨#[]⟩ A kc (y :: r) (w5.setCell ⟨w2.heap.size, 3, none⟩ (.slice A (r.length + 1) kc)) (by omega) (by decide) (by decide) (fun v hv => by have := HZ.out v hv; omega) HST.out.strs HKC.out HKM.out)
  rw [← hE] at KC
  have HE := Lib.hid hE
  clear hE
  by_cases h0 : E = 0
  · subst h0
    refine (KC.out).mono ?_
    rintro e w6 ⟨rfl, hb⟩
    have Hrw6 : C4 w6 (w.heap.size) (.string ⟨#[]⟩) (.string ⟨#[]⟩) (.string ⟨#[]⟩) (.slice none 0 0) := C4.below ⟨by go_simp, by go_simp, by go_simp, by go_simp, by go_simp, by go_simp, by go_simp, by go_simp⟩ hb
    have Htw6 : C4 w6 (w2.heap.size) (.string x) (.string ⟨#[]⟩) (.string ⟨#[]⟩) (.slice A (r.length + 1) kc) := C4.below ⟨by go_simp, by go_simp, by go_simp, by go_simp, by go_simp, by go_simp, by go_simp, by go_simp⟩ hb
    have D6 : Below w2.heap.size w2 w6 := (by (repeat (first | with_reducible exact Below.refl _ _ | with_reducible refine bel_set ?_ ?_ | with_reducible refine bel_alloc ?_ ?_ | with_reducible refine Below.drew ?_ | with_reducible refine bel_drewN _ ?_ | with_reducible refine bel_call ?_ (by assumption) ?_)); all_goals (first | (simp; done) | omega | (simp; omega)))
    have hbk := Lib.hid hb
    clear hb r0_w5 r1_w5 r2_w5 r3_w5 r4_w5 r5_w5 r6_w5 r7_w5 qr_w5 t0_w5 t1_w5 t2_w5 t3_w5 t4_w5 t5_w5 t6_w5 t7_w5 qt_w5 D5
    obtain ⟨r0_w6, r1_w6, r2_w6, r3_w6, r4_w6, r5_w6, r6_w6, r7_w6⟩ := Hrw6
    have qr_w6 := lt_of_cell r0_w6
    obtain ⟨t0_w6, t1_w6, t2_w6, t3_w6, t4_w6, t5_w6, t6_w6, t7_w6⟩ := Htw6
    have qt_w6 := lt_of_cell t0_w6
    have he0 := HE.out.symm
    have hlt := text_len he0
    obtain ⟨t, ht⟩ : ∃ t : ByteArray, t = ⟨(tagText x.data.toList (⟨#[]⟩ : ByteArray).data.toList (⟨#[]⟩ : ByteArray).data.toList (listsOf (y :: r))).toArray⟩ := ⟨_, rfl⟩
    have htz : t.size ≤ 100 := by rw [← tsize, ht]; exact hlt
    have HST2 := Lib.hid (HST.out.below hbk.out)
    have KT := Lib.hid (ref_tag_text x ⟨#[]⟩ ⟨#[]⟩ A kc (y :: r) w6 HST2.out.strs HA.out he0)
    rw [← ht] at KT
    obtain ⟨m, hm⟩ : ∃ m : ByteArray, lowerL t.data.toList = m.data.toList := ⟨⟨(lowerL t.data.toList).toArray⟩, rfl⟩
    have HMM := Lib.hid hm
    have HTT := Lib.hid ht
    clear hm ht hlt he0
    go_wp2_with fail
    clear hbk
    refine (KT.out).mono ?_
    rintro e w7 ⟨rfl, hb⟩
    have Hrw7 : C4 w7 (w.heap.size) (.string ⟨#[]⟩) (.string ⟨#[]⟩) (.string ⟨#[]⟩) (.slice none 0 0) := C4.below ⟨by go_simp, by go_simp, by go_simp, by go_simp, by go_simp, by go_simp, by go_simp, by go_simp⟩ hb
    have Htw7 : C4 w7 (w2.heap.size) (.string x) (.string ⟨#[]⟩) (.string ⟨#[]⟩) (.slice A (r.length + 1) kc) := C4.below ⟨by go_simp, by go_simp, by go_simp, by go_simp, by go_simp, by go_simp, by go_simp, by go_simp⟩ hb
    have D7 : Below w2.heap.size w2 w7 := (by (repeat (first | with_reducible exact Below.refl _ _ | with_reducible refine bel_set ?_ ?_ | with_reducible refine bel_alloc ?_ ?_ | with_reducible refine Below.drew ?_ | with_reducible refine bel_drewN _ ?_ | with_reducible refine bel_call ?_ (by assumption) ?_)); all_goals (first | (simp; done) | omega | (simp; omega)))
    have hbk := Lib.hid hb
    clear hb r0_w6 r1_w6 r2_w6 r3_w6 r4_w6 r5_w6 r6_w6 r7_w6 qr_w6 t0_w6 t1_w6 t2_w6 t3_w6 t4_w6 t5_w6 t6_w6 t7_w6 qt_w6 D6
    obtain ⟨r0_w7, r1_w7, r2_w7, r3_w7, r4_w7, r5_w7, r6_w7, r7_w7⟩ := Hrw7
    have qr_w7 := lt_of_cell r0_w7
    obtain ⟨t0_w7, t1_w7, t2_w7, t3_w7, t4_w7, t5_w7, t6_w7, t7_w7⟩ := Htw7
    have qt_w7 := lt_of_cell t0_w7
    have HST3 := Lib.hid (HST2.out.below hbk.out)
    clear hbk
    go_wp2_with fail
    refine (rlow_call t m HMM.out (by omega) _).mono ?_
    rintro e w8 ⟨rfl, hb⟩
    have Hrw8 : C4 w8 (w.heap.size) (.string ⟨#[]⟩) (.string ⟨#[]⟩) (.string ⟨#[]⟩) (.slice none 0 0) := C4.below ⟨by go_simp, by go_simp, by go_simp, by go_simp, by go_simp, by go_simp, by go_simp, by go_simp⟩ hb
    have Htw8 : C4 w8 (w2.heap.size) (.string x) (.string ⟨#[]⟩) (.string ⟨#[]⟩) (.slice A (r.length + 1) kc) := C4.below ⟨by go_simp, by go_simp, by go_simp, by go_simp, by go_simp, by go_simp, by go_simp, by go_simp⟩ hb
    have D8 : Below w2.heap.size w2 w8 := (by (repeat (first | with_reducible exact Below.refl _ _ | with_reducible refine bel_set ?_ ?_ | with_reducible refine bel_alloc ?_ ?_ | with_reducible refine Below.drew ?_ | with_reducible refine bel_drewN _ ?_ | with_reducible refine bel_call ?_ (by assumption) ?_)); all_goals (first | (simp; done) | omega | (simp; omega)))
    have hbk := Lib.hid hb
    clear hb r0_w7 r1_w7 r2_w7 r3_w7 r4_w7 r5_w7 r6_w7 r7_w7 qr_w7 t0_w7 t1_w7 t2_w7 t3_w7 t4_w7 t5_w7 t6_w7 t7_w7 qt_w7 D7
    obtain ⟨r0_w8, r1_w8, r2_w8, r3_w8, r4_w8, r5_w8, r6_w8, r7_w8⟩ := Hrw8
    have qr_w8 := lt_of_cell r0_w8
    obtain ⟨t0_w8, t1_w8, t2_w8, t3_w8, t4_w8, t5_w8, t6_w8, t7_w8⟩ := Htw8
    have qt_w8 := lt_of_cell t0_w8
    have HST4 := Lib.hid (HST3.out.below hbk.out)
    clear hbk
    go_wp2_with fail
    refine (rlow_call s L HL.out (by omega) _).mono ?_
    rintro e w9 ⟨rfl, hb⟩
    have Hrw9 : C4 w9 (w.heap.size) (.string ⟨#[]⟩) (.string ⟨#[]⟩) (.string ⟨#[]⟩) (.slice none 0 0) := C4.below ⟨by go_simp, by go_simp, by go_simp, by go_simp, by go_simp, by go_simp, by go_simp, by go_simp⟩ hb
    have Htw9 : C4 w9 (w2.heap.size) (.string x) (.string ⟨#[]⟩) (.string ⟨#[]⟩) (.slice A (r.length + 1) kc) := C4.below ⟨by go_simp, by go_simp, by go_simp, by go_simp, by go_simp, by go_simp, by go_simp, by go_simp⟩ hb
    have D9 : Below w2.heap.size w2 w9 := (by (repeat (first | with_reducible exact Below.refl _ _ | with_reducible refine bel_set ?_ ?_ | with_reducible refine bel_alloc ?_ ?_ | with_reducible refine Below.drew ?_ | with_reducible refine bel_drewN _ ?_ | with_reducible refine bel_call ?_ (by assumption) ?_)); all_goals (first | (simp; done) | omega | (simp; omega)))
    have hbk := Lib.hid hb
    clear hb r0_w8 r1_w8 r2_w8 r3_w8 r4_w8 r5_w8 r6_w8 r7_w8 qr_w8 t0_w8 t1_w8 t2_w8 t3_w8 t4_w8 t5_w8 t6_w8 t7_w8 qt_w8 D8
    obtain ⟨r0_w9, r1_w9, r2_w9, r3_w9, r4_w9, r5_w9, r6_w9, r7_w9⟩ := Hrw9
    have qr_w9 := lt_of_cell r0_w9
    obtain ⟨t0_w9, t1_w9, t2_w9, t3_w9, t4_w9, t5_w9, t6_w9, t7_w9⟩ := Htw9
    have qt_w9 := lt_of_cell t0_w9
    have HST5 := Lib.hid (HST4.out.below hbk.out)
    clear hbk
    have hb1 := Bw1.out
    have hb2 := Bw2.out
    have b1 := hb1.size
    have b2 := hb2.size
    have hbD := hb2.trans (D9.mono hb2.size)
    cases hq : (m.toList == L.toList)
    · have hne : lowerL (tagText x.data.toList (⟨#[]⟩ : ByteArray).data.toList (⟨#[]⟩ : ByteArray).data.toList (listsOf (y :: r))) ≠ lowerL s.data.toList := fun h => by
        have h2 := HMM.out
        rw [HTT.out] at h2
        rw [h2, HL.out] at h
        rw [Lib.toList_data, Lib.toList_data, h] at hq
        simp at hq
      have HNE := Lib.hid hne
      clear hne
      have hq2 : (m.toList != L.toList) = true := by rw [bne, hq]; rfl
      go_wp2_with fail
      exact bodyPost_ret (v := .tuple #[tagV ⟨#[]⟩ ⟨#[]⟩ ⟨#[]⟩ none 0 0, .bool false]) (by simp [results, Tryd.results19, go_sem, r0_w9, r1_w9, r2_w9, r3_w9, World.cell?_setCell_same, World.cell?_setCell_other]) rfl ⟨.inr ⟨isTagR_no2 HT.out HNE.out, rfl⟩, (by (repeat (first | with_reducible exact Below.refl _ _ | with_reducible refine bel_set ?_ ?_ | with_reducible refine bel_alloc ?_ ?_ | with_reducible refine Below.drew ?_ | with_reducible refine bel_drewN _ ?_ | with_reducible refine bel_call ?_ (by assumption) ?_)); all_goals (first | (simp; done) | omega | (simp; omega)))⟩
    · have hyes : isTagR s.data.toList = true := isTagR_yes HT.out HE.out.symm (by
        have h2 := HMM.out
        rw [HTT.out] at h2
        have h3 := eq_of_beq hq
        rw [Lib.toList_data, Lib.toList_data] at h3
        rw [HL.out, ← h3]
        exact h2)
      have HYES := Lib.hid hyes
      clear hyes
      have hq2 : m.toList = L.toList := by simpa using hq
      go_wp2_with fail
      refine bodyPost_ret (v := .tuple #[tagV x ⟨#[]⟩ ⟨#[]⟩ A (y :: r).length kc, .bool true]) (by simp [results, Tryd.results19, go_sem, r0_w9, r1_w9, r2_w9, r3_w9, World.cell?_setCell_same, World.cell?_setCell_other]) rfl ⟨.inl ⟨HYES.out, x, ⟨#[]⟩, ⟨#[]⟩, A, kc, (y :: r), rfl, HT.out, ?_, ?_, ?_⟩, (by (repeat (first | with_reducible exact Below.refl _ _ | with_reducible refine bel_set ?_ ?_ | with_reducible refine bel_alloc ?_ ?_ | with_reducible refine Below.drew ?_ | with_reducible refine bel_drewN _ ?_ | with_reducible refine bel_call ?_ (by assumption) ?_)); all_goals (first | (simp; done) | omega | (simp; omega)))⟩
      · have hl : w.heap.size < bz := by have := HSC.out; omega
        exact ((((HST5.out.set _ _ _ hl).set _ _ _ hl).set _ _ _ hl).set _ _ _ hl).strs
      · exact HKC.out
      · exact HA.out
  · have E0 : (E != 0) = true := bne_iff_ne.2 h0
    have HNE : Hid (tagErr x.data.toList (⟨#[]⟩ : ByteArray).data.toList (⟨#[]⟩ : ByteArray).data.toList (listsOf (y :: r)) ≠ 0) := Lib.hid (fun h => h0 (HE.out.trans h))
    clear h0 HE
    refine (KC.out).mono ?_
    rintro e w6 ⟨rfl, hb⟩
    have Hrw6 : C4 w6 (w.heap.size) (.string ⟨#[]⟩) (.string ⟨#[]⟩) (.string ⟨#[]⟩) (.slice none 0 0) := C4.below ⟨by go_simp, by go_simp, by go_simp, by go_simp, by go_simp, by go_simp, by go_simp, by go_simp⟩ hb
    have Htw6 : C4 w6 (w2.heap.size) (.string x) (.string ⟨#[]⟩) (.string ⟨#[]⟩) (.slice A (r.length + 1) kc) := C4.below ⟨by go_simp, by go_simp, by go_simp, by go_simp, by go_simp, by go_simp, by go_simp, by go_simp⟩ hb
    have D6 : Below w2.heap.size w2 w6 := (by (repeat (first | with_reducible exact Below.refl _ _ | with_reducible refine bel_set ?_ ?_ | with_reducible refine bel_alloc ?_ ?_ | with_reducible refine Below.drew ?_ | with_reducible refine bel_drewN _ ?_ | with_reducible refine bel_call ?_ (by assumption) ?_)); all_goals (first | (simp; done) | omega | (simp; omega)))
    clear hb r0_w5 r1_w5 r2_w5 r3_w5 r4_w5 r5_w5 r6_w5 r7_w5 qr_w5 t0_w5 t1_w5 t2_w5 t3_w5 t4_w5 t5_w5 t6_w5 t7_w5 qt_w5 D5
    obtain ⟨r0_w6, r1_w6, r2_w6, r3_w6, r4_w6, r5_w6, r6_w6, r7_w6⟩ := Hrw6
    have qr_w6 := lt_of_cell r0_w6
    obtain ⟨t0_w6, t1_w6, t2_w6, t3_w6, t4_w6, t5_w6, t6_w6, t7_w6⟩ := Htw6
    have qt_w6 := lt_of_cell t0_w6
    have hb1 := Bw1.out
    have hb2 := Bw2.out
    have b1 := hb1.size
    have b2 := hb2.size
    have hbD := hb2.trans (D6.mono hb2.size)
    go_wp2_with fail
    exact bodyPost_ret (v := .tuple #[tagV ⟨#[]⟩ ⟨#[]⟩ ⟨#[]⟩ none 0 0, .bool false]) (by simp [results, Tryd.results19, go_sem, r0_w6, r1_w6, r2_w6, r3_w6, World.cell?_setCell_same, World.cell?_setCell_other]) rfl ⟨.inr ⟨isTagR_no1 HT.out HNE.out, rfl⟩, (by (repeat (first | with_reducible exact Below.refl _ _ | with_reducible refine bel_set ?_ ?_ | with_reducible refine bel_alloc ?_ ?_ | with_reducible refine Below.drew ?_ | with_reducible refine bel_drewN _ ?_ | with_reducible refine bel_call ?_ (by assumption) ?_)); all_goals (first | (simp; done) | omega | (simp; omega)))⟩
end Go.Proofs.YtnhlnhmjnnopaaaDoor

/- linguisterref1.TagOf of any text; linguisterref2.TagFault. -/
namespace Go.Proofs.YtnhlnhmjnnopaaaDoor
open Go.RowKit

theorem ref_tagof (s : ByteArray) (w : World) (hM : MaxL w) (hs : s.size ≤ 1000000000) :
    Calls Tryd.prog 19 #[.string s] w fun e w' => TagOut s e w' ∧ Below w.heap.size w w' := by
  obtain ⟨L, hL⟩ : ∃ L : ByteArray, lowerL s.data.toList = L.data.toList := ⟨⟨(lowerL s.data.toList).toArray⟩, rfl⟩
  obtain ⟨ps0, hps⟩ : ∃ ps : List ByteArray, listsOf ps = splitD L.data.toList := ⟨(splitD L.data.toList).map (fun x => ⟨x.toArray⟩), by
    unfold listsOf
    rw [List.map_map]
    exact List.map_id' _⟩
  cases ps0 with
  | nil => exact absurd hps.symm (splitD_ne _)
  | cons x ps =>
    cases ps with
    | nil => exact tagof_way0 s L x w hM hs hL hps
    | cons p ps =>
      by_cases hp : p.size = 4
      · cases ps with
        | nil => exact tagof_way1 s L x p w hM hs hL hps hp
        | cons q ps =>
          by_cases hq : q.size < 4
          · cases ps with
            | nil => exact tagof_way2 s L x p q w hM hs hL hps hp hq
            | cons y r => exact tagof_way3 s L x p q y r w hM hs hL hps hp hq
          · exact tagof_way4 s L x p q ps w hM hs hL hps hp hq
      · by_cases hq : p.size < 4
        · cases ps with
          | nil => exact tagof_way5 s L x p w hM hs hL hps hp hq
          | cons y r => exact tagof_way6 s L x p y r w hM hs hL hps hp hq
        · exact tagof_way7 s L x p ps w hM hs hL hps hp hq
set_option maxHeartbeats 1000000 in
/-- no tag's text -/
theorem ref_no_tag (s : ByteArray) (w : World) (hM : MaxL w) (hs : s.size ≤ 1000000000) :
    Calls Tryd.prog 7 #[.string s] w fun e w' => e = .returned (.bool (!ownTag s.data.toList)) ∧ Below w.heap.size w w' := by
  have KP := Lib.hid (fun W (hb : Below w.heap.size w W) => ref_tagof s W (hM.below hb) hs)
  obtain ⟨R, hR⟩ : ∃ R, R = !ownTag s.data.toList := ⟨_, rfl⟩
  rw [← hR]
  obtain ⟨e1, e2⟩ := ref_tag s.data.toList
  go_enter Tryd.func7, Tryd.ntmps7
  go_wp2_with fail
  refine (KP.out _ (by (repeat (first | with_reducible exact Below.refl _ _ | with_reducible refine bel_set ?_ ?_ | with_reducible refine bel_alloc ?_ ?_ | with_reducible refine Below.drew ?_ | with_reducible refine bel_drewN _ ?_ | with_reducible refine bel_call ?_ (by assumption) ?_)); all_goals (first | (simp; done) | omega | (simp; omega)))).mono ?_
  rintro e w1 ⟨ho, hb1⟩
  have HB1 := Lib.hid ((show Below w.heap.size w _ from (by (repeat (first | with_reducible exact Below.refl _ _ | with_reducible refine bel_set ?_ ?_ | with_reducible refine bel_alloc ?_ ?_ | with_reducible refine Below.drew ?_ | with_reducible refine bel_drewN _ ?_ | with_reducible refine bel_call ?_ (by assumption) ?_)); all_goals (first | (simp; done) | omega | (simp; omega)))).trans (hb1.mono (by simp)))
  rcases ho with ⟨hi, l, sc, rg, A, c, vs, rfl, hm, hS, hc, hA⟩ | ⟨hi, rfl⟩
  · have he : tagErr l.data.toList sc.data.toList rg.data.toList (listsOf vs) = 0 := by
      unfold isTagR TagS.err at hi
      rw [hm] at hi
      simp only [Bool.and_eq_true, beq_iff_eq] at hi
      exact hi.1
    have hown : ownTag s.data.toList = (tagText l.data.toList sc.data.toList rg.data.toList (listsOf vs) == s.data.toList) := by
      unfold ownTag TagS.text
      rw [← e2 (e1 ▸ hi), ← e1, hi, hm, Bool.true_and]
    have KT := Lib.hid (fun W (hb : Below w1.heap.size w1 W) => ref_tag_text l sc rg A c vs W (hS.below hb) hA he)
    obtain ⟨t, ht⟩ : ∃ t : ByteArray, t = ⟨(tagText l.data.toList sc.data.toList rg.data.toList (listsOf vs)).toArray⟩ := ⟨_, rfl⟩
    rw [← ht] at KT
    have hcmp : R = !(t.toList == s.toList) := by rw [hR, hown, Lib.toList_data, Lib.toList_data, ht]
    clear ht hown he hm hi hS hb1 hR e1 e2
    cases hq : (t.toList == s.toList)
    · rw [hq] at hcmp
      subst hcmp
      have hq2 : (t.toList != s.toList) = true := by rw [bne, hq]; rfl
      go_wp2_with fail
      refine (KT.out _ (by (repeat (first | with_reducible exact Below.refl _ _ | with_reducible refine bel_set ?_ ?_ | with_reducible refine bel_alloc ?_ ?_ | with_reducible refine Below.drew ?_ | with_reducible refine bel_drewN _ ?_ | with_reducible refine bel_call ?_ (by assumption) ?_)); all_goals (first | (simp; done) | omega | (simp; omega)))).mono ?_
      rintro e w2 ⟨rfl, hb2⟩
      have HB2 := Lib.hid (HB1.out.trans (Below.trans (show Below w1.heap.size w1 _ from (by (repeat (first | with_reducible exact Below.refl _ _ | with_reducible refine bel_set ?_ ?_ | with_reducible refine bel_alloc ?_ ?_ | with_reducible refine Below.drew ?_ | with_reducible refine bel_drewN _ ?_ | with_reducible refine bel_call ?_ (by assumption) ?_)); all_goals (first | (simp; done) | omega | (simp; omega)))) (hb2.mono (by simp)) |>.mono HB1.out.size))
      go_wp2_with fail
      go_ret
      exact ⟨rfl, HB2.out⟩
    · rw [hq] at hcmp
      subst hcmp
      have hq2 : t.toList = s.toList := by simpa using hq
      go_wp2_with fail
      refine (KT.out _ (by (repeat (first | with_reducible exact Below.refl _ _ | with_reducible refine bel_set ?_ ?_ | with_reducible refine bel_alloc ?_ ?_ | with_reducible refine Below.drew ?_ | with_reducible refine bel_drewN _ ?_ | with_reducible refine bel_call ?_ (by assumption) ?_)); all_goals (first | (simp; done) | omega | (simp; omega)))).mono ?_
      rintro e w2 ⟨rfl, hb2⟩
      have HB2 := Lib.hid (HB1.out.trans (Below.trans (show Below w1.heap.size w1 _ from (by (repeat (first | with_reducible exact Below.refl _ _ | with_reducible refine bel_set ?_ ?_ | with_reducible refine bel_alloc ?_ ?_ | with_reducible refine Below.drew ?_ | with_reducible refine bel_drewN _ ?_ | with_reducible refine bel_call ?_ (by assumption) ?_)); all_goals (first | (simp; done) | omega | (simp; omega)))) (hb2.mono (by simp)) |>.mono HB1.out.size))
      go_wp2_with fail
      go_ret
      exact ⟨rfl, HB2.out⟩
  · have hown : R = true := by rw [hR]; unfold ownTag; rw [← e1, hi, Bool.false_and]; rfl
    subst hown
    clear hi hb1 hR e1 e2
    go_wp2_with fail
    go_ret
    exact ⟨rfl, HB1.out.alloc HB1.out.size _⟩
end Go.Proofs.YtnhlnhmjnnopaaaDoor

/- linguisterref2.BundleFault. -/
namespace Go.Proofs.YtnhlnhmjnnopaaaDoor
open Go.RowKit

theorem only_key (k : ByteArray) : onlyB k.data.toList keySet.data.toList 1 40 = keyOk k := by
  unfold onlyB keyOk
  rw [keySet_all, tsize]
  have a : decide ((1 : Int) ≤ (k.size : Int)) = decide (k.size ≠ 0) := by rw [decide_eq_decide]; omega
  have b : decide ((k.size : Int) ≤ 40) = decide (k.size ≤ 40) := by rw [decide_eq_decide]; omega
  rw [a, b]
  cases k.data.toList.all keyC
  · rw [Bool.false_and, Bool.false_and, Bool.and_false, Bool.and_false]
  · rw [Bool.true_and, Bool.and_true]
theorem entAt_mem (l : List EntC) (key : ByteArray) : decide (0 ≤ entAtI l key) = memB (l.map (·.key)) key := by
  unfold entAtI
  cases h : entAtN l key with
  | none =>
    unfold entAtN at h
    rw [List.findIdx?_eq_none_iff] at h
    rw [memB_not]
    · rfl
    · intro hm
      obtain ⟨b, hb, e⟩ := List.mem_map.1 hm
      have := h b hb
      rw [e] at this
      simp at this
  | some i =>
    unfold entAtN at h
    obtain ⟨hi, h2, _⟩ := List.findIdx?_eq_some_iff_getElem.1 h
    have : memB (l.map (·.key)) key = true := memB_iff.2 (List.mem_map.2 ⟨l[i], List.getElem_mem hi, by
      have := eq_of_beq h2
      rw [Lib.toList_data, Lib.toList_data] at this
      exact ByteArray.ext (Array.ext' this)⟩)
    rw [this]
    exact decide_eq_true (Int.natCast_nonneg i)

set_option maxHeartbeats 4000000 in
set_option maxRecDepth 100000 in
theorem ref_bundle (b : BunC) (A : Option Addr) (c : Nat) (w : World) (hM : MaxL w) (hF : BunFine w b A c) (hs : b.small) :
    Calls Tryd.prog 18 #[bunV b A c] w fun e w' => e = .returned (.int .i64 b.err) ∧ Below w.heap.size w w' := by
  obtain ⟨tg, es⟩ := b
  obtain ⟨hE, hc, hc2, _⟩ := hF
  obtain ⟨z1, z2, z3⟩ := hs
  simp only at hE hc z1 z2 z3
  have KT := Lib.hid (fun W (hb : Below w.heap.size w W) => ref_no_tag tg W (hM.below hb) (by omega))
  have HE := Lib.hid hE
  have HZ := Lib.hid z3
  obtain ⟨R, hR⟩ : ∃ R, R = (BunC.mk tg es).err := ⟨_, rfl⟩
  rw [← hR]
  unfold BunC.err at hR
  clear hE hM z3
  simp only at hR
  unfold bunV
  simp only
  have hb0 : Below w.heap.size w (w.alloc (.cells #[.string tg, .slice A es.length c] 31)) := (by (repeat (first | with_reducible exact Below.refl _ _ | with_reducible refine bel_set ?_ ?_ | with_reducible refine bel_alloc ?_ ?_ | with_reducible refine Below.drew ?_ | with_reducible refine bel_drewN _ ?_ | with_reducible refine bel_call ?_ (by assumption) ?_)); all_goals (first | (simp; done) | omega | (simp; omega)))
  have HB0 := Lib.hid hb0
  clear hb0
  go_enter Tryd.func18, Tryd.ntmps18
  cases hT : ownTag tg.data.toList
  · rw [hT, if_pos rfl] at hR
    rw [hT] at KT
    subst hR
    go_wp2_with fail
    refine (KT.out _ HB0.out).mono ?_
    rintro e w1 ⟨rfl, hb1⟩
    have HB1 := Lib.hid (HB0.out.trans (hb1.mono HB0.out.size))
    clear hb1
    go_wp2_with fail
    go_ret
    exact ⟨rfl, HB1.out⟩
  · rw [hT, if_neg (by decide)] at hR
    rw [hT] at KT
    by_cases h100 : 100 < es.length
    · rw [if_pos h100] at hR
      subst hR
      have i100 : (100 : Int) < (es.length : Int) := by omega
      go_wp2_with fail
      refine (KT.out _ HB0.out).mono ?_
      rintro e w1 ⟨rfl, hb1⟩
      have c1 : w1.cell? ⟨w.heap.size, 1, none⟩ = some (.slice A es.length c) := carry hb1 (by go_simp)
      have HB1 := Lib.hid (HB0.out.trans (hb1.mono HB0.out.size))
      clear hb1
      go_wp2_with fail
      go_ret
      exact ⟨rfl, HB1.out⟩
    · rw [if_neg h100] at hR
      have HR := Lib.hid hR
      have i100 : ¬ (100 : Int) < (es.length : Int) := by omega
      clear hR
      go_wp2_with fail
      refine (KT.out _ HB0.out).mono ?_
      rintro e w1 ⟨rfl, hb1⟩
      have c1 : w1.cell? ⟨w.heap.size, 1, none⟩ = some (.slice A es.length c) := carry hb1 (by go_simp)
      have HB1 := Lib.hid (HB0.out.trans (hb1.mono HB0.out.size))
      clear hb1
      have q1 := lt_of_cell c1
      have C1 := Lib.hid c1
      go_wp2_with fail
      go_loopw [3] (fun i wr => ∃ k : Nat, k ≤ es.length ∧ i = .int .i64 k ∧ Hid (entErr [] es = entErr ((es.take k).map (·.key)) (es.drop k)) ∧ Hid (Below w1.heap.size w1 wr)) (fun i _ => es.length - (intOf i).toNat)
      case atStart => exact ⟨0, Nat.zero_le _, rfl, Lib.hid rfl, Lib.hid (Below.refl _ _)⟩
      case round =>
        obtain ⟨k, hk, rfl, HX, HBk⟩ := hrel
        have sk := HBk.out.size
        have c1r := carry HBk.out C1.out
        have HBW := Lib.hid (HB1.out.trans (HBk.out.mono HB1.out.size))
        by_cases hlt : k < es.length
        · have HEr := Lib.hid (HE.out.below HBW.out)
          obtain ⟨bE, oE, rfl, hat⟩ := HEr.out.at (by omega)
          obtain ⟨x, hx⟩ : ∃ x, es[k]? = some x := ⟨es[k], List.getElem?_eq_getElem hlt⟩
          obtain ⟨n0, n1⟩ := hat k x hx
          obtain ⟨xz1, xz2⟩ := HZ.out x (List.mem_of_getElem? hx)
          have hst := entErr_step es k x hx
          have HX2 := Lib.hid (HX.out.trans hst)
          have i0 : (0 : Int) ≤ (k : Int) := by omega
          have i1 : (k : Int) < (es.length : Int) := by omega
          have i2 : (k : Int) ≤ (c : Int) := by omega
          have e1 : IntKind.i64.wrap ((k : Int) + 1) = (k : Int) + 1 := IntWalk.i64_in _ (by omega)
          have KK := Lib.hid (fun W => ref_only x.key keySet 1 40 W (by omega) (by decide))
          rw [only_key] at KK
          have KE := Lib.hid (fun m => entry_at (some ⟨bE, oE, none⟩) k c es x.key (wr.drewN m) HEr.out hk (by omega) hc2)
          clear hat hx hst HX
          cases hq : keyOk x.key
          · have HD : Hid (R = 3) := Lib.hid (by rw [HR.out, HX2.out, if_pos hq])
            rw [hq] at KK
            clear hq
            go_wp2_with fail
            refine (KK.out _).mono ?_
            rintro e w2 ⟨rfl, nd, rfl⟩
            go_wp2_with fail
            go_ret
            exact ⟨by rw [HD.out]; rfl, bel_drewN _ HBW.out⟩
          · rw [hq] at KK
            have HX3 : Hid (entErr [] es = if memB ((es.take k).map (·.key)) x.key = true then 5 else if 2000 < x.text.size then 4 else entErr ((es.take (k + 1)).map (·.key)) (es.drop (k + 1))) := Lib.hid (by rw [HX2.out, hq]; simp)
            clear hq HX2
            have hmem := entAt_mem (es.take k) x.key
            obtain ⟨q, hqq⟩ : ∃ q, q = entAtI (es.take k) x.key := ⟨_, rfl⟩
            rw [← hqq] at hmem
            rw [← hqq] at KE
            clear hqq
            cases hm : memB ((es.take k).map (·.key)) x.key
            · have HX4 : Hid (entErr [] es = if 2000 < x.text.size then 4 else entErr ((es.take (k + 1)).map (·.key)) (es.drop (k + 1))) := Lib.hid (by rw [HX3.out, hm]; simp)
              have hq0 : ¬ (0 : Int) ≤ q := by rw [hm] at hmem; exact of_decide_eq_false hmem
              clear hm HX3 hmem
              by_cases h2 : 2000 < x.text.size
              · have HD : Hid (R = 4) := Lib.hid (by rw [HR.out, HX4.out, if_pos h2])
                have j2 : (2000 : Int) < (x.text.size : Int) := by omega
                clear h2
                go_wp2_with fail
                refine (KK.out _).mono ?_
                rintro e w2 ⟨rfl, nd, rfl⟩
                go_wp2_with fail
                go_region_held3 (fun w' => w'.cell? ⟨w.heap.size, 1, none⟩ = some (.slice (some ⟨bE, oE, none⟩) es.length c) ∧ w'.cell? ⟨bE, oE + k * 2, none⟩ = some (.string x.key)) (first | go_keep | exact ⟨c1r, n0⟩ | assumption) (first | (go_at_call 9; refine (KE.out _).mono ?_; rintro e w3 ⟨rfl, rfl⟩))
                go_wp2_with fail
                go_ret
                exact ⟨by rw [HD.out]; rfl, bel_drewN _ HBW.out⟩
              · have HX5 : Hid (entErr [] es = entErr ((es.take (k + 1)).map (·.key)) (es.drop (k + 1))) := Lib.hid (by rw [HX4.out, if_neg h2])
                have j2 : ¬ (2000 : Int) < (x.text.size : Int) := by omega
                clear h2
                go_wp2_with fail
                refine (KK.out _).mono ?_
                rintro e w2 ⟨rfl, nd, rfl⟩
                go_wp2_with fail
                go_region_held3 (fun w' => w'.cell? ⟨w.heap.size, 1, none⟩ = some (.slice (some ⟨bE, oE, none⟩) es.length c) ∧ w'.cell? ⟨bE, oE + k * 2, none⟩ = some (.string x.key)) (first | go_keep | exact ⟨c1r, n0⟩ | assumption) (first | (go_at_call 9; refine (KE.out _).mono ?_; rintro e w3 ⟨rfl, rfl⟩))
                go_wp2_with fail
                go_roundw
                case rel => exact ⟨k + 1, by omega, by go_num, HX5, Lib.hid (bel_drewN _ HBk.out)⟩
                case measure => simp [intOf]; omega
            · have HD : Hid (R = 5) := Lib.hid (by rw [HR.out, HX3.out, if_pos hm])
              have hq0 : (0 : Int) ≤ q := by rw [hm] at hmem; exact of_decide_eq_true hmem
              clear hm HX3 hmem
              go_wp2_with fail
              refine (KK.out _).mono ?_
              rintro e w2 ⟨rfl, nd, rfl⟩
              go_wp2_with fail
              go_region_held3 (fun w' => w'.cell? ⟨w.heap.size, 1, none⟩ = some (.slice (some ⟨bE, oE, none⟩) es.length c) ∧ w'.cell? ⟨bE, oE + k * 2, none⟩ = some (.string x.key)) (first | go_keep | exact ⟨c1r, n0⟩ | assumption) (first | (go_at_call 9; refine (KE.out _).mono ?_; rintro e w3 ⟨rfl, rfl⟩))
              go_wp2_with fail
              go_ret
              exact ⟨by rw [HD.out]; rfl, bel_drewN _ HBW.out⟩
        · obtain rfl : k = es.length := by omega
          have HD : Hid (R = 0) := Lib.hid (by rw [HR.out, HX.out, List.drop_length]; rfl)
          go_wp2_with fail
          go_ret
          exact ⟨by rw [HD.out]; rfl, HBW.out⟩
end Go.Proofs.YtnhlnhmjnnopaaaDoor

/- linguisterref2.LoadFault. -/
namespace Go.Proofs.YtnhlnhmjnnopaaaDoor
open Go.RowKit

theorem loadErr_step (l : List BunC) (k : Nat) (b : BunC) (h : l[k]? = some b) : loadErr ((l.take k).map (·.tag)) (l.drop k) = if b.err = 0 then (if memB ((l.take k).map (·.tag)) b.tag = true then 5 else loadErr ((l.take (k + 1)).map (·.tag)) (l.drop (k + 1))) else b.err := by
  obtain ⟨hk, rfl⟩ := List.getElem?_eq_some_iff.1 h
  rw [List.drop_eq_getElem_cons hk, loadErr, List.take_succ_eq_append_getElem hk, List.map_append]
  rfl
theorem tags_no {l : List BunC} {t : ByteArray} (h : ∀ y ∈ l, (y.tag.toList == t.toList) = false) : memB (l.map (·.tag)) t = false := memB_not (fun hm => by
  obtain ⟨y, hy, e⟩ := List.mem_map.1 hm
  have := h y hy
  rw [e] at this
  simp at this)
theorem tags_yes {l : List BunC} {t : ByteArray} {j : Nat} {y : BunC} (hj : l[j]? = some y) (h : (y.tag.toList == t.toList) = true) : memB (l.map (·.tag)) t = true := memB_iff.2 (List.mem_map.2 ⟨y, List.mem_of_getElem? hj, by
  have := eq_of_beq h
  rw [Lib.toList_data, Lib.toList_data] at this
  exact ByteArray.ext (Array.ext' this)⟩)
set_option maxHeartbeats 4000000 in
set_option maxRecDepth 100000 in
theorem ref_load (A : Option Addr) (c : Nat) (l : List BunC) (w : World) (hM : MaxL w) (hL : BunsIn w A l) (hc : l.length ≤ c) (hc2 : c ≤ 9223372036854775807) (hs : ∀ b ∈ l, b.small) :
    Calls Tryd.prog 6 #[.slice A l.length c] w fun e w' => e = .returned (.int .i64 (loadErr [] l)) ∧ Below w.heap.size w w' := by
  obtain ⟨R, hR⟩ : ∃ R, R = loadErr [] l := ⟨_, rfl⟩
  rw [← hR]
  have HR := Lib.hid hR
  have HL := Lib.hid hL
  have HM := Lib.hid hM
  have HS := Lib.hid hs
  clear hR hL hM hs
  go_enter Tryd.func6, Tryd.ntmps6
  go_wp2_with fail
  go_loopw [3] (fun i wr => ∃ k : Nat, k ≤ l.length ∧ i = .int .i64 k ∧ Hid (loadErr [] l = loadErr ((l.take k).map (·.tag)) (l.drop k)) ∧ Hid (Below w.heap.size w wr)) (fun i _ => l.length - (intOf i).toNat)
  case atStart => exact ⟨0, Nat.zero_le _, rfl, Lib.hid rfl, Lib.hid (Below.refl _ _)⟩
  case round =>
    obtain ⟨k, hk, rfl, HX, HB⟩ := hrel
    have sk := HB.out.size
    by_cases hlt : k < l.length
    · have HLr := Lib.hid (HL.out.below HB.out)
      obtain ⟨g, o, rfl, hat⟩ := HLr.out.at (by omega)
      obtain ⟨x, hx⟩ : ∃ x, l[k]? = some x := ⟨l[k], List.getElem?_eq_getElem hlt⟩
      obtain ⟨B, d, n0, n1, hF⟩ := hat k x hx
      have hxs := HS.out x (List.mem_of_getElem? hx)
      have KB := Lib.hid (fun W (hb : Below wr.heap.size wr W) => ref_bundle x B d W (HM.out.below (HB.out.trans (hb.mono sk))) (hF.below hb) hxs)
      have HX2 := Lib.hid (HX.out.trans (loadErr_step l k x hx))
      have HXX := Lib.hid hx
      have i0 : (0 : Int) ≤ (k : Int) := by omega
      have i1 : (k : Int) < (l.length : Int) := by omega
      have e1 : IntKind.i64.wrap ((k : Int) + 1) = (k : Int) + 1 := IntWalk.i64_in _ (by omega)
      clear hat hx hF hxs HX
      by_cases he : x.err = 0
      · have HX3 : Hid (loadErr [] l = if memB ((l.take k).map (·.tag)) x.tag = true then 5 else loadErr ((l.take (k + 1)).map (·.tag)) (l.drop (k + 1))) := Lib.hid (by rw [HX2.out, if_pos he])
        rw [he] at KB
        clear he HX2
        go_wp2_with fail
        refine (KB.out _ (Below.refl _ _)).mono ?_
        rintro e w2 ⟨rfl, hb2⟩
        have HB2 := Lib.hid (HB.out.trans (hb2.mono sk))
        have n0' := carry hb2 n0
        have N0 := Lib.hid n0'
        clear hb2 n0' n0 n1
        go_wp2_with fail
        go_loopw [4] (fun i wr => ∃ j : Nat, j ≤ k ∧ i = .int .i64 j ∧ Hid (∀ y ∈ l.take j, (y.tag.toList == x.tag.toList) = false) ∧ Hid (Below w2.heap.size w2 wr)) (fun i _ => k - (intOf i).toNat)
        case atStart => exact ⟨0, Nat.zero_le _, rfl, Lib.hid (by simp), Lib.hid (Below.refl _ _)⟩
        case round =>
          obtain ⟨j, hj, rfl, HF, HBj⟩ := hrel
          have HBW := Lib.hid (HB2.out.trans (HBj.out.mono HB2.out.size))
          by_cases hjl : j < k
          · obtain ⟨y, hy⟩ : ∃ y, l[j]? = some y := ⟨l[j], List.getElem?_eq_getElem (by omega)⟩
            obtain ⟨g2, o2, hg2, hat2⟩ := (HL.out.below HBW.out).at (by omega)
            obtain ⟨e1', e2'⟩ : g2 = g ∧ o2 = o := by injection hg2 with h; injection h with h1 h2; exact ⟨h1.symm, h2.symm⟩
            subst e1' e2'
            obtain ⟨B2, d2, m0, _⟩ := hat2 j y hy
            have n0r := carry HBj.out N0.out
            have j0 : (0 : Int) ≤ (j : Int) := by omega
            have j1 : (j : Int) < (k : Int) := by omega
            have j2 : (j : Int) < (l.length : Int) := by omega
            have f1 : IntKind.i64.wrap ((j : Int) + 1) = (j : Int) + 1 := IntWalk.i64_in _ (by omega)
            have HYY := Lib.hid hy
            clear hat2 hy hg2
            cases hq : (y.tag.toList == x.tag.toList)
            · have HF2 : Hid (∀ z ∈ l.take (j + 1), (z.tag.toList == x.tag.toList) = false) := Lib.hid fun z hz => by
                rw [List.take_add_one, HYY.out, Option.toList_some, List.mem_append, List.mem_singleton] at hz
                rcases hz with hz | rfl
                · exact HF.out z hz
                · exact hq
              go_wp2_with fail
              go_quiet (fail)
              go_wp2_with fail
              go_roundw
              case rel => exact ⟨j + 1, by omega, by go_num, HF2, Lib.hid (by first | exact bel_drewN _ HBj.out | exact HBj.out)⟩
              case measure => simp [intOf]; omega
            · have HD : Hid (R = 5) := Lib.hid (by rw [HR.out, HX3.out, if_pos (tags_yes (j := j) (by rw [List.getElem?_take, if_pos hjl]; exact HYY.out) hq)])
              have hq2 : y.tag.toList = x.tag.toList := by simpa using hq
              go_wp2_with fail
              go_quiet (fail)
              go_wp2_with fail
              go_ret
              exact ⟨by rw [HD.out]; rfl, by first | exact bel_drewN _ HBW.out | exact HBW.out⟩
          · obtain rfl : j = k := by omega
            have HX4 : Hid (loadErr [] l = loadErr ((l.take (j + 1)).map (·.tag)) (l.drop (j + 1))) := Lib.hid (by rw [HX3.out, tags_no HF.out]; simp)
            go_wp2_with fail
            go_roundw
            case rel => exact ⟨j + 1, by omega, by go_num, HX4, HBW⟩
            case measure => simp [intOf]; omega
      · have HD : Hid (R = x.err) := Lib.hid (by rw [HR.out, HX2.out, if_neg he])
        have he2 : (x.err != 0) = true := bne_iff_ne.2 he
        clear he HX2
        generalize x.err = E at *
        go_wp2_with fail
        refine (KB.out _ (Below.refl _ _)).mono ?_
        rintro e w2 ⟨rfl, hb2⟩
        have HB2 := Lib.hid (HB.out.trans (hb2.mono sk))
        have HBB := Lib.hid hb2
        have n0' := carry hb2 n0
        have n1' := carry hb2 n1
        clear hb2
        go_wp2_with fail
        refine (KB.out _ HBB.out).mono ?_
        rintro e w3 ⟨rfl, hb3⟩
        go_wp2_with fail
        go_ret
        exact ⟨by rw [HD.out]; rfl, HB2.out.trans (hb3.mono HB2.out.size)⟩
    · obtain rfl : k = l.length := by omega
      have HD : Hid (R = 0) := Lib.hid (by rw [HR.out, HX.out, List.drop_length]; rfl)
      go_wp2_with fail
      go_ret
      exact ⟨by rw [HD.out]; rfl, HB.out⟩
end Go.Proofs.YtnhlnhmjnnopaaaDoor
