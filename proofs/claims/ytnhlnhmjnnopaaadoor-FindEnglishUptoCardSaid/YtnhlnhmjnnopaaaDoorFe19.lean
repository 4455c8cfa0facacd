/- RefTagA, RefTagP0, RefTagP1, RefTagP2, RefTagP3, RefTagP4: texts put together. -/
import Derived.Test.YtnhlnhmjnnopaaaDoorFe11
import Derived.Test.YtnhlnhmjnnopaaaDoorFe14
import Derived.Test.YtnhlnhmjnnopaaaDoorFe10
import Derived.Test.YtnhlnhmjnnopaaaDoorFe16
import Derived.Test.YtnhlnhmjnnopaaaDoorFe18
set_option linter.unusedVariables false
set_option linter.unusedSimpArgs false
/- linguisterref1.TagOf of any text: what its ways share. -/
namespace Go.Proofs.YtnhlnhmjnnopaaaDoor
open Go.RowKit

/-- what TagOf tells of a text -/
def TagOut (s : ByteArray) (e : Ending) (w' : World) : Prop :=
  (isTagR s.data.toList = true ∧ ∃ (l sc rg : ByteArray) (A : Option Addr) (c : Nat) (vs : List ByteArray), e = .returned (.tuple #[tagV l sc rg A vs.length c, .bool true]) ∧ madeR s.data.toList = ⟨l.data.toList, sc.data.toList, rg.data.toList, listsOf vs⟩ ∧ StrsIn w' A vs ∧ vs.length ≤ c ∧ (A = none → c = 0)) ∨
  (isTagR s.data.toList = false ∧ e = .returned (.tuple #[tagV ⟨#[]⟩ ⟨#[]⟩ ⟨#[]⟩ none 0 0, .bool false]))
theorem lists_inj : ∀ (a b : List ByteArray), listsOf a = listsOf b → a = b
  | [], [], _ => rfl
  | [], _ :: _, h => by cases h
  | _ :: _, [], h => by cases h
  | x :: r, y :: q, h => by
    unfold listsOf at h
    rw [List.map_cons, List.map_cons] at h
    injection h with h1 h2
    rw [lists_inj r q h2, ByteArray.ext (Array.ext' h1)]
theorem OwnsS.block0 {w : World} {base : Nat} {v : Value} {x : ByteArray} {r : List ByteArray} (h : OwnsS w base v (x :: r)) : ∃ g d, v = .slice (some ⟨g, 0, none⟩) (x :: r).length d ∧ (x :: r).length ≤ d ∧ base ≤ g ∧ (∀ (j : Nat) z, (x :: r)[j]? = some z → w.cell? ⟨g, j, none⟩ = some (.string z)) := by
  have hf := h.form
  obtain ⟨A, c, rfl, _, hst, hg⟩ := hf
  have hcap := h.cap.2
  rcases h.2 with ⟨h1, h2⟩ | ⟨g, cap, cur, h1, h3, _⟩
  · simp at h2
  · injection h1 with e1 e2 e3
    subst e1 e3
    rcases hst with h0 | ⟨bk, o, e, hc⟩
    · cases h0
    · injection e with e
      injection e with e1 e2
      subst e1 e2
      exact ⟨g, c, rfl, hcap, (hg g rfl).1, fun j z hz => by have := hc j z hz; rwa [Nat.zero_add] at this⟩
theorem cut_call (s x : ByteArray) (ps : List ByteArray) (hps : listsOf (x :: ps) = splitD s.data.toList) (w : World) (hs : s.size ≤ 1000000000) :
    Calls Tryd.prog 43 #[.string s, .string ⟨#[45]⟩] w fun e w' => ∃ g d, e = .returned (.slice (some ⟨g, 0, none⟩) (x :: ps).length d) ∧ (x :: ps).length ≤ d ∧ w.heap.size ≤ g ∧ (∀ (j : Nat) z, (x :: ps)[j]? = some z → w'.cell? ⟨g, j, none⟩ = some (.string z)) ∧ Below w.heap.size w w' := by
  refine (ref_cut s ⟨#[45]⟩ w rfl hs).mono ?_
  rintro e w' ⟨⟨v, qs, rfl, ho, hq⟩, hb⟩
  obtain rfl := lists_inj qs (x :: ps) (hq.trans hps.symm)
  obtain ⟨g, d, rfl, h1, h2, h3⟩ := ho.block0
  exact ⟨g, d, rfl, h1, h2, h3, hb⟩
theorem rlow_call (a b : ByteArray) (h : lowerL a.data.toList = b.data.toList) (hs : a.size ≤ 9223372036854775807) (w : World) : Calls Tryd.prog 44 #[.string a] w fun e w' => e = .returned (.string b) ∧ Below w.heap.size w w' := by
  refine (ref_lower a w hs).mono ?_
  rintro e w' ⟨rfl, hb⟩
  rw [h]
  exact ⟨rfl, hb⟩
theorem rup_call (a b : ByteArray) (h : upperL a.data.toList = b.data.toList) (hs : a.size ≤ 9223372036854775807) (w : World) : Calls Tryd.prog 45 #[.string a] w fun e w' => e = .returned (.string b) ∧ Below w.heap.size w w' := by
  refine (ref_upper a w hs).mono ?_
  rintro e w' ⟨rfl, hb⟩
  rw [h]
  exact ⟨rfl, hb⟩
theorem OwnsS.capM {w : World} {base : Nat} {A : Option Addr} {n c : Nat} {xs : List ByteArray} (h : OwnsS w base (.slice A n c) xs) : c ≤ 9223372036854775807 := by
  rcases h.2 with ⟨h1, h2⟩ | ⟨g, cap, cur, h1, _, _, _, h5, _⟩
  · injection h1 with _ _ e; subst e; omega
  · injection h1 with _ _ e; subst e; exact h5
theorem isTagR_yes {s : Bs} {T : TagS} (hT : madeR s = T) (he : T.err = 0) (hl : lowerL T.text = lowerL s) : isTagR s = true := by
  unfold isTagR
  rw [hT, he, hl]
  simp
theorem isTagR_no1 {s : Bs} {T : TagS} (hT : madeR s = T) (he : T.err ≠ 0) : isTagR s = false := by
  unfold isTagR
  rw [hT, beq_eq_false_iff_ne.2 he, Bool.false_and]
theorem isTagR_no2 {s : Bs} {T : TagS} (hT : madeR s = T) (hl : lowerL T.text ≠ lowerL s) : isTagR s = false := by
  unfold isTagR
  rw [hT, beq_eq_false_iff_ne.2 hl, Bool.and_false]
/-- the tag that was made, given the text's pieces -/
theorem made_isR {s L : ByteArray} {x : ByteArray} {ps : List ByteArray} (hL : lowerL s.data.toList = L.data.toList) (hps : listsOf (x :: ps) = splitD L.data.toList) :
    madeR s.data.toList = ⟨x.data.toList, (scrR (listsOf ps)).1, (regR (scrR (listsOf ps)).2).1, (regR (scrR (listsOf ps)).2).2⟩ ∧ (∀ p ∈ x :: ps, p.size ≤ s.size) ∧ ps.length ≤ s.size := by
  have hl : L.size = s.size := by rw [← tsize, ← tsize, ← hL]; unfold lowerL; simp
  refine ⟨?_, fun p hp => ?_, ?_⟩
  · unfold madeR
    rw [hL, ← hps]
    rfl
  · have := splitD_len L.data.toList p.data.toList (by rw [← hps]; exact List.mem_map_of_mem hp)
    rw [tsize, tsize, hl] at this
    exact this
  · have := splitD_cnt L.data.toList
    rw [← hps, tsize, hl] at this
    unfold listsOf at this
    simp at this
    omega
end Go.Proofs.YtnhlnhmjnnopaaaDoor

/- linguisterref1.TagOf: way 0. -/
namespace Go.Proofs.YtnhlnhmjnnopaaaDoor
open Go.RowKit

set_option maxHeartbeats 4000000 in
set_option maxRecDepth 100000 in
theorem tagof_way0 (s L x : ByteArray) (w : World) (hM : MaxL w) (hs : s.size ≤ 1000000000) (hL : lowerL s.data.toList = L.data.toList) (hps : listsOf ([x]) = splitD L.data.toList)  :
    Calls Tryd.prog 19 #[.string s] w fun e w' => TagOut s e w' ∧ Below w.heap.size w w' := by
  obtain ⟨hmade, hsz, hcnt⟩ := made_isR hL hps
  have hLs : L.size = s.size := by rw [← tsize, ← tsize, ← hL]; unfold lowerL; simp
  have hT : madeR s.data.toList = ⟨x.data.toList, [], [], listsOf []⟩ := by
    rw [hmade]
    simp [listsOf, List.map_cons, List.map_nil, scrR, regR, tsize]
  have HT := Lib.hid hT
  have zx : x.size ≤ 1000000000 := by have := hsz x (by simp); omega
  have HPS := Lib.hid hps
  have HL := Lib.hid hL
  have HM := Lib.hid hM
  clear hmade hsz hcnt hT hps hL hM
  go_enter Tryd.func19, Tryd.ntmps19
  go_wp2_with fail
  refine (rlow_call s L HL.out (by omega) _).mono ?_
  rintro e w1 ⟨rfl, hb1⟩
  have Hrw1 : C4 w1 (w.heap.size) (.string ⟨#[]⟩) (.string ⟨#[]⟩) (.string ⟨#[]⟩) (.slice none 0 0) := C4.below ⟨by go_simp, by go_simp, by go_simp, by go_simp, by go_simp, by go_simp, by go_simp, by go_simp⟩ hb1
  have Bw1 := Lib.hid hb1
  obtain ⟨r0_w1, r1_w1, r2_w1, r3_w1, r4_w1, r5_w1, r6_w1, r7_w1⟩ := Hrw1
  have qr_w1 := lt_of_cell r0_w1
  have s1 : w.heap.size < w1.heap.size := qr_w1
  go_wp2_with fail
  refine (cut_call L x _ HPS.out _ (by omega)).mono ?_
  rintro e w2 ⟨bk, cd, rfl, hcd, hbk0, hcp, hb2⟩
  have HCP := Lib.hid hcp
  have c0_w2 : w2.cell? ⟨bk, 0, none⟩ = some (.string x) := hcp 0 x rfl
  have Hrw2 : C4 w2 (w.heap.size) (.string ⟨#[]⟩) (.string ⟨#[]⟩) (.string ⟨#[]⟩) (.slice none 0 0) := C4.below ⟨by go_simp, by go_simp, by go_simp, by go_simp, by go_simp, by go_simp, by go_simp, by go_simp⟩ hb2
  have Bw2 := Lib.hid hb2
  clear hcp hb2 r0_w1 r1_w1 r2_w1 r3_w1 r4_w1 r5_w1 r6_w1 r7_w1 qr_w1
  obtain ⟨r0_w2, r1_w2, r2_w2, r3_w2, r4_w2, r5_w2, r6_w2, r7_w2⟩ := Hrw2
  have qr_w2 := lt_of_cell r0_w2
  have qc_w2 := lt_of_cell c0_w2
  simp only [List.length_cons, List.length_nil, Nat.zero_add] at hcd ⊢
  have hbk1 : w.heap.size < bk := by omega
  have hcd2 : 1 ≤ cd := by omega
  clear hcd hbk0
  by_cases hlast : cd = 1
  · have DC : Below w2.heap.size w2 (w2.alloc (.cells #[.string x, .string ⟨#[]⟩, .string ⟨#[]⟩, .slice none 0 0] 47)) := (by (repeat (first | with_reducible exact Below.refl _ _ | with_reducible refine bel_set ?_ ?_ | with_reducible refine bel_alloc ?_ ?_ | with_reducible refine Below.drew ?_ | with_reducible refine bel_drewN _ ?_ | with_reducible refine bel_call ?_ (by assumption) ?_)); all_goals (first | (simp; done) | omega | (simp; omega)))
    have SC : w2.heap.size < (w2.alloc (.cells #[.string x, .string ⟨#[]⟩, .string ⟨#[]⟩, .slice none 0 0] 47)).heap.size := by simp
    have HCL : Hid (∀ (j : Nat) z, ([] : List ByteArray)[j]? = some z → (w2.alloc (.cells #[.string x, .string ⟨#[]⟩, .string ⟨#[]⟩, .slice none 0 0] 47)).cell? ⟨bk, 1 + j, none⟩ = some (.string z)) := Lib.hid (fun j z hz => by simp at hz)
    clear DC
    obtain ⟨bz, hbz⟩ : ∃ b, b = (w2.alloc (.cells #[.string x, .string ⟨#[]⟩, .string ⟨#[]⟩, .slice none 0 0] 47)).heap.size := ⟨_, rfl⟩
    have HBZ := Lib.hid hbz
    have SCZ : w2.heap.size < bz := by rw [hbz]; exact SC
    have HSC := Lib.hid SCZ
    clear hbz SCZ SC
    go_wp2_with (at_builtin; refine wpList_append_many rfl _ _ rfl (ys := ([] : List ByteArray)) rfl rfl (OwnsS.nil _ bz) (.inl rfl) (by intro h; first | (cases h; done) | (split at h <;> cases h)) (by rw [HBZ.out]; exact Nat.le_refl _) (by first | (simp; done) | (simp; omega)) ?_; intro v' w5 ho hoff; have hb := (OwnsS.nil _ bz).grown hoff (by rw [HBZ.out]; exact Nat.le_refl _); rw [HBZ.out] at hb; rw [List.nil_append] at ho; obtain ⟨A, kc, rfl, _⟩ := ho.form; have Hrw5 : C4 w5 (w.heap.size) (.string ⟨#[]⟩) (.string ⟨#[]⟩) (.string ⟨#[]⟩) (.slice none 0 0) := C4.below ⟨by go_simp, by go_simp, by go_simp, by go_simp, by go_simp, by go_simp, by go_simp, by go_simp⟩ hb; have Htw5 : C4 w5 (w2.heap.size) (.string x) (.string ⟨#[]⟩) (.string ⟨#[]⟩) (.slice none 0 0) := C4.below ⟨by go_simp, by go_simp, by go_simp, by go_simp, by go_simp, by go_simp, by go_simp, by go_simp⟩ hb; have D5 : Below w2.heap.size w2 w5 := (by (repeat (first | with_reducible exact Below.refl _ _ | with_reducible refine bel_set ?_ ?_ | with_reducible refine bel_alloc ?_ ?_ | with_reducible refine Below.drew ?_ | with_reducible refine bel_drewN _ ?_ | with_reducible refine bel_call ?_ (by assumption) ?_)); all_goals (first | (simp; done) | omega | (simp; omega))); obtain ⟨hkc, hA⟩ := ho.caps; have HKM := Lib.hid ho.capM; have HST := Lib.hid (ho.set w2.heap.size 3 (.slice A 0 kc) HSC.out); have HA := Lib.hid hA; have HKC := Lib.hid hkc; clear hb ho hoff hA hkc HCL r0_w2 r1_w2 r2_w2 r3_w2 r4_w2 r5_w2 r6_w2 r7_w2 qr_w2 c0_w2; obtain ⟨r0_w5, r1_w5, r2_w5, r3_w5, r4_w5, r5_w5, r6_w5, r7_w5⟩ := Hrw5; have qr_w5 := lt_of_cell r0_w5; obtain ⟨t0_w5, t1_w5, t2_w5, t3_w5, t4_w5, t5_w5, t6_w5, t7_w5⟩ := Htw5; have qt_w5 := lt_of_cell t0_w5)
    obtain ⟨E, hE⟩ : ∃ E, E = tagErr x.data.toList (⟨#[]⟩ : ByteArray).data.toList (⟨#[]⟩ : ByteArray).data.toList (listsOf []) := ⟨_, rfl⟩
    have KC := Lib.hid (ref_fault x ⟨#[]⟩ ⟨#[]⟩ A kc [] (w5.setCell ⟨w2.heap.size, 3, none⟩ (.slice A 0 kc)) (by omega) (by decide) (by decide) (by simp) (.inl rfl) (Nat.zero_le _) HKM.out)
    rw [← hE] at KC
    have HE := Lib.hid hE
    clear hE
    by_cases h0 : E = 0
    · subst h0
      refine (KC.out).mono ?_
      rintro e w6 ⟨rfl, hb⟩
      have Hrw6 : C4 w6 (w.heap.size) (.string ⟨#[]⟩) (.string ⟨#[]⟩) (.string ⟨#[]⟩) (.slice none 0 0) := C4.below ⟨by go_simp, by go_simp, by go_simp, by go_simp, by go_simp, by go_simp, by go_simp, by go_simp⟩ hb
      have Htw6 : C4 w6 (w2.heap.size) (.string x) (.string ⟨#[]⟩) (.string ⟨#[]⟩) (.slice A 0 kc) := C4.below ⟨by go_simp, by go_simp, by go_simp, by go_simp, by go_simp, by go_simp, by go_simp, by go_simp⟩ hb
      have D6 : Below w2.heap.size w2 w6 := (by (repeat (first | with_reducible exact Below.refl _ _ | with_reducible refine bel_set ?_ ?_ | with_reducible refine bel_alloc ?_ ?_ | with_reducible refine Below.drew ?_ | with_reducible refine bel_drewN _ ?_ | with_reducible refine bel_call ?_ (by assumption) ?_)); all_goals (first | (simp; done) | omega | (simp; omega)))
      have hbk := Lib.hid hb
      clear hb r0_w5 r1_w5 r2_w5 r3_w5 r4_w5 r5_w5 r6_w5 r7_w5 qr_w5 t0_w5 t1_w5 t2_w5 t3_w5 t4_w5 t5_w5 t6_w5 t7_w5 qt_w5 D5
      obtain ⟨r0_w6, r1_w6, r2_w6, r3_w6, r4_w6, r5_w6, r6_w6, r7_w6⟩ := Hrw6
      have qr_w6 := lt_of_cell r0_w6
      obtain ⟨t0_w6, t1_w6, t2_w6, t3_w6, t4_w6, t5_w6, t6_w6, t7_w6⟩ := Htw6
      have qt_w6 := lt_of_cell t0_w6
      have he0 := HE.out.symm
      have hlt := text_len he0
      obtain ⟨t, ht⟩ : ∃ t : ByteArray, t = ⟨(tagText x.data.toList (⟨#[]⟩ : ByteArray).data.toList (⟨#[]⟩ : ByteArray).data.toList (listsOf [])).toArray⟩ := ⟨_, rfl⟩
      have htz : t.size ≤ 100 := by rw [← tsize, ht]; exact hlt
      have HST2 := Lib.hid (HST.out.below hbk.out)
      have KT := Lib.hid (ref_tag_text x ⟨#[]⟩ ⟨#[]⟩ A kc [] w6 HST2.out.strs HA.out he0)
      rw [← ht] at KT
      obtain ⟨m, hm⟩ : ∃ m : ByteArray, lowerL t.data.toList = m.data.toList := ⟨⟨(lowerL t.data.toList).toArray⟩, rfl⟩
      have HMM := Lib.hid hm
      have HTT := Lib.hid ht
      clear hm ht hlt he0
      go_wp2_with fail
      clear hbk
      refine (KT.out).mono ?_
      rintro e w7 ⟨rfl, hb⟩
      have Hrw7 : C4 w7 (w.heap.size) (.string ⟨#[]⟩) (.string ⟨#[]⟩) (.string ⟨#[]⟩) (.slice none 0 0) := C4.below ⟨by go_simp, by go_simp, by go_simp, by go_simp, by go_simp, by go_simp, by go_simp, by go_simp⟩ hb
      have Htw7 : C4 w7 (w2.heap.size) (.string x) (.string ⟨#[]⟩) (.string ⟨#[]⟩) (.slice A 0 kc) := C4.below ⟨by go_simp, by go_simp, by go_simp, by go_simp, by go_simp, by go_simp, by go_simp, by go_simp⟩ hb
      have D7 : Below w2.heap.size w2 w7 := (by (repeat (first | with_reducible exact Below.refl _ _ | with_reducible refine bel_set ?_ ?_ | with_reducible refine bel_alloc ?_ ?_ | with_reducible refine Below.drew ?_ | with_reducible refine bel_drewN _ ?_ | with_reducible refine bel_call ?_ (by assumption) ?_)); all_goals (first | (simp; done) | omega | (simp; omega)))
      have hbk := Lib.hid hb
      clear hb r0_w6 r1_w6 r2_w6 r3_w6 r4_w6 r5_w6 r6_w6 r7_w6 qr_w6 t0_w6 t1_w6 t2_w6 t3_w6 t4_w6 t5_w6 t6_w6 t7_w6 qt_w6 D6
      obtain ⟨r0_w7, r1_w7, r2_w7, r3_w7, r4_w7, r5_w7, r6_w7, r7_w7⟩ := Hrw7
      have qr_w7 := lt_of_cell r0_w7
      obtain ⟨t0_w7, t1_w7, t2_w7, t3_w7, t4_w7, t5_w7, t6_w7, t7_w7⟩ := Htw7
      have qt_w7 := lt_of_cell t0_w7
      have HST3 := Lib.hid (HST2.out.below hbk.out)
      clear hbk
      go_wp2_with fail
      refine (rlow_call t m HMM.out (by omega) _).mono ?_
      rintro e w8 ⟨rfl, hb⟩
      have Hrw8 : C4 w8 (w.heap.size) (.string ⟨#[]⟩) (.string ⟨#[]⟩) (.string ⟨#[]⟩) (.slice none 0 0) := C4.below ⟨by go_simp, by go_simp, by go_simp, by go_simp, by go_simp, by go_simp, by go_simp, by go_simp⟩ hb
      have Htw8 : C4 w8 (w2.heap.size) (.string x) (.string ⟨#[]⟩) (.string ⟨#[]⟩) (.slice A 0 kc) := C4.below ⟨by go_simp, by go_simp, by go_simp, by go_simp, by go_simp, by go_simp, by go_simp, by go_simp⟩ hb
      have D8 : Below w2.heap.size w2 w8 := (by (repeat (first | with_reducible exact Below.refl _ _ | with_reducible refine bel_set ?_ ?_ | with_reducible refine bel_alloc ?_ ?_ | with_reducible refine Below.drew ?_ | with_reducible refine bel_drewN _ ?_ | with_reducible refine bel_call ?_ (by assumption) ?_)); all_goals (first | (simp; done) | omega | (simp; omega)))
      have hbk := Lib.hid hb
      clear hb r0_w7 r1_w7 r2_w7 r3_w7 r4_w7 r5_w7 r6_w7 r7_w7 qr_w7 t0_w7 t1_w7 t2_w7 t3_w7 t4_w7 t5_w7 t6_w7 t7_w7 qt_w7 D7
      obtain ⟨r0_w8, r1_w8, r2_w8, r3_w8, r4_w8, r5_w8, r6_w8, r7_w8⟩ := Hrw8
      have qr_w8 := lt_of_cell r0_w8
      obtain ⟨t0_w8, t1_w8, t2_w8, t3_w8, t4_w8, t5_w8, t6_w8, t7_w8⟩ := Htw8
      have qt_w8 := lt_of_cell t0_w8
      have HST4 := Lib.hid (HST3.out.below hbk.out)
      clear hbk
      go_wp2_with fail
      refine (rlow_call s L HL.out (by omega) _).mono ?_
      rintro e w9 ⟨rfl, hb⟩
      have Hrw9 : C4 w9 (w.heap.size) (.string ⟨#[]⟩) (.string ⟨#[]⟩) (.string ⟨#[]⟩) (.slice none 0 0) := C4.below ⟨by go_simp, by go_simp, by go_simp, by go_simp, by go_simp, by go_simp, by go_simp, by go_simp⟩ hb
      have Htw9 : C4 w9 (w2.heap.size) (.string x) (.string ⟨#[]⟩) (.string ⟨#[]⟩) (.slice A 0 kc) := C4.below ⟨by go_simp, by go_simp, by go_simp, by go_simp, by go_simp, by go_simp, by go_simp, by go_simp⟩ hb
      have D9 : Below w2.heap.size w2 w9 := (by (repeat (first | with_reducible exact Below.refl _ _ | with_reducible refine bel_set ?_ ?_ | with_reducible refine bel_alloc ?_ ?_ | with_reducible refine Below.drew ?_ | with_reducible refine bel_drewN _ ?_ | with_reducible refine bel_call ?_ (by assumption) ?_)); all_goals (first | (simp; done) | omega | (simp; omega)))
      have hbk := Lib.hid hb
      clear hb r0_w8 r1_w8 r2_w8 r3_w8 r4_w8 r5_w8 r6_w8 r7_w8 qr_w8 t0_w8 t1_w8 t2_w8 t3_w8 t4_w8 t5_w8 t6_w8 t7_w8 qt_w8 D8
      obtain ⟨r0_w9, r1_w9, r2_w9, r3_w9, r4_w9, r5_w9, r6_w9, r7_w9⟩ := Hrw9
      have qr_w9 := lt_of_cell r0_w9
      obtain ⟨t0_w9, t1_w9, t2_w9, t3_w9, t4_w9, t5_w9, t6_w9, t7_w9⟩ := Htw9
      have qt_w9 := lt_of_cell t0_w9
      have HST5 := Lib.hid (HST4.out.below hbk.out)
      clear hbk
      have hb1 := Bw1.out
      have hb2 := Bw2.out
      have b1 := hb1.size
      have b2 := hb2.size
      have hbD := hb2.trans (D9.mono hb2.size)
      cases hq : (m.toList == L.toList)
      · have hne : lowerL (tagText x.data.toList (⟨#[]⟩ : ByteArray).data.toList (⟨#[]⟩ : ByteArray).data.toList (listsOf [])) ≠ lowerL s.data.toList := fun h => by
          have h2 := HMM.out
          rw [HTT.out] at h2
          rw [h2, HL.out] at h
          rw [Lib.toList_data, Lib.toList_data, h] at hq
          simp at hq
        have HNE := Lib.hid hne
        clear hne
        have hq2 : (m.toList != L.toList) = true := by rw [bne, hq]; rfl
        go_wp2_with fail
        exact bodyPost_ret (v := .tuple #[tagV ⟨#[]⟩ ⟨#[]⟩ ⟨#[]⟩ none 0 0, .bool false]) (by simp [results, Tryd.results19, go_sem, r0_w9, r1_w9, r2_w9, r3_w9, World.cell?_setCell_same, World.cell?_setCell_other]) rfl ⟨.inr ⟨isTagR_no2 HT.out HNE.out, rfl⟩, (by (repeat (first | with_reducible exact Below.refl _ _ | with_reducible refine bel_set ?_ ?_ | with_reducible refine bel_alloc ?_ ?_ | with_reducible refine Below.drew ?_ | with_reducible refine bel_drewN _ ?_ | with_reducible refine bel_call ?_ (by assumption) ?_)); all_goals (first | (simp; done) | omega | (simp; omega)))⟩
      · have hyes : isTagR s.data.toList = true := isTagR_yes HT.out HE.out.symm (by
          have h2 := HMM.out
          rw [HTT.out] at h2
          have h3 := eq_of_beq hq
          rw [Lib.toList_data, Lib.toList_data] at h3
          rw [HL.out, ← h3]
          exact h2)
        have HYES := Lib.hid hyes
        clear hyes
        have hq2 : m.toList = L.toList := by simpa using hq
        go_wp2_with fail
        refine bodyPost_ret (v := .tuple #[tagV x ⟨#[]⟩ ⟨#[]⟩ A ([] : List ByteArray).length kc, .bool true]) (by simp [results, Tryd.results19, go_sem, r0_w9, r1_w9, r2_w9, r3_w9, World.cell?_setCell_same, World.cell?_setCell_other]) rfl ⟨.inl ⟨HYES.out, x, ⟨#[]⟩, ⟨#[]⟩, A, kc, [], rfl, HT.out, ?_, ?_, ?_⟩, (by (repeat (first | with_reducible exact Below.refl _ _ | with_reducible refine bel_set ?_ ?_ | with_reducible refine bel_alloc ?_ ?_ | with_reducible refine Below.drew ?_ | with_reducible refine bel_drewN _ ?_ | with_reducible refine bel_call ?_ (by assumption) ?_)); all_goals (first | (simp; done) | omega | (simp; omega)))⟩
        · have hl : w.heap.size < bz := by have := HSC.out; omega
          exact ((((HST5.out.set _ _ _ hl).set _ _ _ hl).set _ _ _ hl).set _ _ _ hl).strs
        · exact HKC.out
        · exact HA.out
    · have E0 : (E != 0) = true := bne_iff_ne.2 h0
      have HNE : Hid (tagErr x.data.toList (⟨#[]⟩ : ByteArray).data.toList (⟨#[]⟩ : ByteArray).data.toList (listsOf []) ≠ 0) := Lib.hid (fun h => h0 (HE.out.trans h))
      clear h0 HE
      refine (KC.out).mono ?_
      rintro e w6 ⟨rfl, hb⟩
      have Hrw6 : C4 w6 (w.heap.size) (.string ⟨#[]⟩) (.string ⟨#[]⟩) (.string ⟨#[]⟩) (.slice none 0 0) := C4.below ⟨by go_simp, by go_simp, by go_simp, by go_simp, by go_simp, by go_simp, by go_simp, by go_simp⟩ hb
      have Htw6 : C4 w6 (w2.heap.size) (.string x) (.string ⟨#[]⟩) (.string ⟨#[]⟩) (.slice A 0 kc) := C4.below ⟨by go_simp, by go_simp, by go_simp, by go_simp, by go_simp, by go_simp, by go_simp, by go_simp⟩ hb
      have D6 : Below w2.heap.size w2 w6 := (by (repeat (first | with_reducible exact Below.refl _ _ | with_reducible refine bel_set ?_ ?_ | with_reducible refine bel_alloc ?_ ?_ | with_reducible refine Below.drew ?_ | with_reducible refine bel_drewN _ ?_ | with_reducible refine bel_call ?_ (by assumption) ?_)); all_goals (first | (simp; done) | omega | (simp; omega)))
      clear hb r0_w5 r1_w5 r2_w5 r3_w5 r4_w5 r5_w5 r6_w5 r7_w5 qr_w5 t0_w5 t1_w5 t2_w5 t3_w5 t4_w5 t5_w5 t6_w5 t7_w5 qt_w5 D5
      obtain ⟨r0_w6, r1_w6, r2_w6, r3_w6, r4_w6, r5_w6, r6_w6, r7_w6⟩ := Hrw6
      have qr_w6 := lt_of_cell r0_w6
      obtain ⟨t0_w6, t1_w6, t2_w6, t3_w6, t4_w6, t5_w6, t6_w6, t7_w6⟩ := Htw6
      have qt_w6 := lt_of_cell t0_w6
      have hb1 := Bw1.out
      have hb2 := Bw2.out
      have b1 := hb1.size
      have b2 := hb2.size
      have hbD := hb2.trans (D6.mono hb2.size)
      go_wp2_with fail
      exact bodyPost_ret (v := .tuple #[tagV ⟨#[]⟩ ⟨#[]⟩ ⟨#[]⟩ none 0 0, .bool false]) (by simp [results, Tryd.results19, go_sem, r0_w6, r1_w6, r2_w6, r3_w6, World.cell?_setCell_same, World.cell?_setCell_other]) rfl ⟨.inr ⟨isTagR_no1 HT.out HNE.out, rfl⟩, (by (repeat (first | with_reducible exact Below.refl _ _ | with_reducible refine bel_set ?_ ?_ | with_reducible refine bel_alloc ?_ ?_ | with_reducible refine Below.drew ?_ | with_reducible refine bel_drewN _ ?_ | with_reducible refine bel_call ?_ (by assumption) ?_)); all_goals (first | (simp; done) | omega | (simp; omega)))⟩
  · have DC : Below w2.heap.size w2 (w2.alloc (.cells #[.string x, .string ⟨#[]⟩, .string ⟨#[]⟩, .slice none 0 0] 47)) := (by (repeat (first | with_reducible exact Below.refl _ _ | with_reducible refine bel_set ?_ ?_ | with_reducible refine bel_alloc ?_ ?_ | with_reducible refine Below.drew ?_ | with_reducible refine bel_drewN _ ?_ | with_reducible refine bel_call ?_ (by assumption) ?_)); all_goals (first | (simp; done) | omega | (simp; omega)))
    have SC : w2.heap.size < (w2.alloc (.cells #[.string x, .string ⟨#[]⟩, .string ⟨#[]⟩, .slice none 0 0] 47)).heap.size := by simp
    have HCL : Hid (∀ (j : Nat) z, ([] : List ByteArray)[j]? = some z → (w2.alloc (.cells #[.string x, .string ⟨#[]⟩, .string ⟨#[]⟩, .slice none 0 0] 47)).cell? ⟨bk, 1 + j, none⟩ = some (.string z)) := Lib.hid (fun j z hz => by simp at hz)
    clear DC
    obtain ⟨bz, hbz⟩ : ∃ b, b = (w2.alloc (.cells #[.string x, .string ⟨#[]⟩, .string ⟨#[]⟩, .slice none 0 0] 47)).heap.size := ⟨_, rfl⟩
    have HBZ := Lib.hid hbz
    have SCZ : w2.heap.size < bz := by rw [hbz]; exact SC
    have HSC := Lib.hid SCZ
    clear hbz SCZ SC
    go_wp2_with (at_builtin; refine wpList_append_many rfl _ _ rfl (ys := ([] : List ByteArray)) rfl rfl (OwnsS.nil _ bz) (.inl rfl) (by intro h; first | (cases h; done) | (split at h <;> cases h)) (by rw [HBZ.out]; exact Nat.le_refl _) (by first | (simp; done) | (simp; omega)) ?_; intro v' w5 ho hoff; have hb := (OwnsS.nil _ bz).grown hoff (by rw [HBZ.out]; exact Nat.le_refl _); rw [HBZ.out] at hb; rw [List.nil_append] at ho; obtain ⟨A, kc, rfl, _⟩ := ho.form; have Hrw5 : C4 w5 (w.heap.size) (.string ⟨#[]⟩) (.string ⟨#[]⟩) (.string ⟨#[]⟩) (.slice none 0 0) := C4.below ⟨by go_simp, by go_simp, by go_simp, by go_simp, by go_simp, by go_simp, by go_simp, by go_simp⟩ hb; have Htw5 : C4 w5 (w2.heap.size) (.string x) (.string ⟨#[]⟩) (.string ⟨#[]⟩) (.slice none 0 0) := C4.below ⟨by go_simp, by go_simp, by go_simp, by go_simp, by go_simp, by go_simp, by go_simp, by go_simp⟩ hb; have D5 : Below w2.heap.size w2 w5 := (by (repeat (first | with_reducible exact Below.refl _ _ | with_reducible refine bel_set ?_ ?_ | with_reducible refine bel_alloc ?_ ?_ | with_reducible refine Below.drew ?_ | with_reducible refine bel_drewN _ ?_ | with_reducible refine bel_call ?_ (by assumption) ?_)); all_goals (first | (simp; done) | omega | (simp; omega))); obtain ⟨hkc, hA⟩ := ho.caps; have HKM := Lib.hid ho.capM; have HST := Lib.hid (ho.set w2.heap.size 3 (.slice A 0 kc) HSC.out); have HA := Lib.hid hA; have HKC := Lib.hid hkc; clear hb ho hoff hA hkc HCL r0_w2 r1_w2 r2_w2 r3_w2 r4_w2 r5_w2 r6_w2 r7_w2 qr_w2 c0_w2; obtain ⟨r0_w5, r1_w5, r2_w5, r3_w5, r4_w5, r5_w5, r6_w5, r7_w5⟩ := Hrw5; have qr_w5 := lt_of_cell r0_w5; obtain ⟨t0_w5, t1_w5, t2_w5, t3_w5, t4_w5, t5_w5, t6_w5, t7_w5⟩ := Htw5; have qt_w5 := lt_of_cell t0_w5)
    obtain ⟨E, hE⟩ : ∃ E, E = tagErr x.data.toList (⟨#[]⟩ : ByteArray).data.toList (⟨#[]⟩ : ByteArray).data.toList (listsOf []) := ⟨_, rfl⟩
    have KC := Lib.hid (ref_fault x ⟨#[]⟩ ⟨#[]⟩ A kc [] (w5.setCell ⟨w2.heap.size, 3, none⟩ (.slice A 0 kc)) (by omega) (by decide) (by decide) (by simp) (.inl rfl) (Nat.zero_le _) HKM.out)
    rw [← hE] at KC
    have HE := Lib.hid hE
    clear hE
    by_cases h0 : E = 0
    · subst h0
      refine (KC.out).mono ?_
      rintro e w6 ⟨rfl, hb⟩
      have Hrw6 : C4 w6 (w.heap.size) (.string ⟨#[]⟩) (.string ⟨#[]⟩) (.string ⟨#[]⟩) (.slice none 0 0) := C4.below ⟨by go_simp, by go_simp, by go_simp, by go_simp, by go_simp, by go_simp, by go_simp, by go_simp⟩ hb
      have Htw6 : C4 w6 (w2.heap.size) (.string x) (.string ⟨#[]⟩) (.string ⟨#[]⟩) (.slice A 0 kc) := C4.below ⟨by go_simp, by go_simp, by go_simp, by go_simp, by go_simp, by go_simp, by go_simp, by go_simp⟩ hb
      have D6 : Below w2.heap.size w2 w6 := (by (repeat (first | with_reducible exact Below.refl _ _ | with_reducible refine bel_set ?_ ?_ | with_reducible refine bel_alloc ?_ ?_ | with_reducible refine Below.drew ?_ | with_reducible refine bel_drewN _ ?_ | with_reducible refine bel_call ?_ (by assumption) ?_)); all_goals (first | (simp; done) | omega | (simp; omega)))
      have hbk := Lib.hid hb
      clear hb r0_w5 r1_w5 r2_w5 r3_w5 r4_w5 r5_w5 r6_w5 r7_w5 qr_w5 t0_w5 t1_w5 t2_w5 t3_w5 t4_w5 t5_w5 t6_w5 t7_w5 qt_w5 D5
      obtain ⟨r0_w6, r1_w6, r2_w6, r3_w6, r4_w6, r5_w6, r6_w6, r7_w6⟩ := Hrw6
      have qr_w6 := lt_of_cell r0_w6
      obtain ⟨t0_w6, t1_w6, t2_w6, t3_w6, t4_w6, t5_w6, t6_w6, t7_w6⟩ := Htw6
      have qt_w6 := lt_of_cell t0_w6
      have he0 := HE.out.symm
      have hlt := text_len he0
      obtain ⟨t, ht⟩ : ∃ t : ByteArray, t = ⟨(tagText x.data.toList (⟨#[]⟩ : ByteArray).data.toList (⟨#[]⟩ : ByteArray).data.toList (listsOf [])).toArray⟩ := ⟨_, rfl⟩
      have htz : t.size ≤ 100 := by rw [← tsize, ht]; exact hlt
      have HST2 := Lib.hid (HST.out.below hbk.out)
      have KT := Lib.hid (ref_tag_text x ⟨#[]⟩ ⟨#[]⟩ A kc [] w6 HST2.out.strs HA.out he0)
      rw [← ht] at KT
      obtain ⟨m, hm⟩ : ∃ m : ByteArray, lowerL t.data.toList = m.data.toList := ⟨⟨(lowerL t.data.toList).toArray⟩, rfl⟩
      have HMM := Lib.hid hm
      have HTT := Lib.hid ht
      clear hm ht hlt he0
      go_wp2_with fail
      clear hbk
      refine (KT.out).mono ?_
      rintro e w7 ⟨rfl, hb⟩
      have Hrw7 : C4 w7 (w.heap.size) (.string ⟨#[]⟩) (.string ⟨#[]⟩) (.string ⟨#[]⟩) (.slice none 0 0) := C4.below ⟨by go_simp, by go_simp, by go_simp, by go_simp, by go_simp, by go_simp, by go_simp, by go_simp⟩ hb
      have Htw7 : C4 w7 (w2.heap.size) (.string x) (.string ⟨#[]⟩) (.string ⟨#[]⟩) (.slice A 0 kc) := C4.below ⟨by go_simp, by go_simp, by go_simp, by go_simp, by go_simp, by go_simp, by go_simp, by go_simp⟩ hb
      have D7 : Below w2.heap.size w2 w7 := (by (repeat (first | with_reducible exact Below.refl _ _ | with_reducible refine bel_set ?_ ?_ | with_reducible refine bel_alloc ?_ ?_ | with_reducible refine Below.drew ?_ | with_reducible refine bel_drewN _ ?_ | with_reducible refine bel_call ?_ (by assumption) ?_)); all_goals (first | (simp; done) | omega | (simp; omega)))
      have hbk := Lib.hid hb
      clear hb r0_w6 r1_w6 r2_w6 r3_w6 r4_w6 r5_w6 r6_w6 r7_w6 qr_w6 t0_w6 t1_w6 t2_w6 t3_w6 t4_w6 t5_w6 t6_w6 t7_w6 qt_w6 D6
      obtain ⟨r0_w7, r1_w7, r2_w7, r3_w7, r4_w7, r5_w7, r6_w7, r7_w7⟩ := Hrw7
      have qr_w7 := lt_of_cell r0_w7
      obtain ⟨t0_w7, t1_w7, t2_w7, t3_w7, t4_w7, t5_w7, t6_w7, t7_w7⟩ := Htw7
      have qt_w7 := lt_of_cell t0_w7
      have HST3 := Lib.hid (HST2.out.below hbk.out)
      clear hbk
      go_wp2_with fail
      refine (rlow_call t m HMM.out (by omega) _).mono ?_
      rintro e w8 ⟨rfl, hb⟩
      have Hrw8 : C4 w8 (w.heap.size) (.string ⟨#[]⟩) (.string ⟨#[]⟩) (.string ⟨#[]⟩) (.slice none 0 0) := C4.below ⟨by go_simp, by go_simp, by go_simp, by go_simp, by go_simp, by go_simp, by go_simp, by go_simp⟩ hb
      have Htw8 : C4 w8 (w2.heap.size) (.string x) (.string ⟨#[]⟩) (.string ⟨#[]⟩) (.slice A 0 kc) := C4.below ⟨by go_simp, by go_simp, by go_simp, by go_simp, by go_simp, by go_simp, by go_simp, by go_simp⟩ hb
      have D8 : Below w2.heap.size w2 w8 := (by (repeat (first | with_reducible exact Below.refl _ _ | with_reducible refine bel_set ?_ ?_ | with_reducible refine bel_alloc ?_ ?_ | with_reducible refine Below.drew ?_ | with_reducible refine bel_drewN _ ?_ | with_reducible refine bel_call ?_ (by assumption) ?_)); all_goals (first | (simp; done) | omega | (simp; omega)))
      have hbk := Lib.hid hb
      clear hb r0_w7 r1_w7 r2_w7 r3_w7 r4_w7 r5_w7 r6_w7 r7_w7 qr_w7 t0_w7 t1_w7 t2_w7 t3_w7 t4_w7 t5_w7 t6_w7 t7_w7 qt_w7 D7
      obtain ⟨r0_w8, r1_w8, r2_w8, r3_w8, r4_w8, r5_w8, r6_w8, r7_w8⟩ := Hrw8
      have qr_w8 := lt_of_cell r0_w8
      obtain ⟨t0_w8, t1_w8, t2_w8, t3_w8, t4_w8, t5_w8, t6_w8, t7_w8⟩ := Htw8
      have qt_w8 := lt_of_cell t0_w8
      have HST4 := Lib.hid (HST3.out.below hbk.out)
      clear hbk
      go_wp2_with fail
      refine (rlow_call s L HL.out (by omega) _).mono ?_
      rintro e w9 ⟨rfl, hb⟩
      have Hrw9 : C4 w9 (w.heap.size) (.string ⟨#[]⟩) (.string ⟨#[]⟩) (.string ⟨#[]⟩) (.slice none 0 0) := C4.below ⟨by go_simp, by go_simp, by go_simp, by go_simp, by go_simp, by go_simp, by go_simp, by go_simp⟩ hb
      have Htw9 : C4 w9 (w2.heap.size) (.string x) (.string ⟨#[]⟩) (.string ⟨#[]⟩) (.slice A 0 kc) := C4.below ⟨by go_simp, by go_simp, by go_simp, by go_simp, by go_simp, by go_simp, by go_simp, by go_simp⟩ hb
      have D9 : Below w2.heap.size w2 w9 := (by (repeat (first | with_reducible exact Below.refl _ _ | with_reducible refine bel_set ?_ ?_ | with_reducible refine bel_alloc ?_ ?_ | with_reducible refine Below.drew ?_ | with_reducible refine bel_drewN _ ?_ | with_reducible refine bel_call ?_ (by assumption) ?_)); all_goals (first | (simp; done) | omega | (simp; omega)))
      have hbk := Lib.hid hb
      clear hb r0_w8 r1_w8 r2_w8 r3_w8 r4_w8 r5_w8 r6_w8 r7_w8 qr_w8 t0_w8 t1_w8 t2_w8 t3_w8 t4_w8 t5_w8 t6_w8 t7_w8 qt_w8 D8
      obtain ⟨r0_w9, r1_w9, r2_w9, r3_w9, r4_w9, r5_w9, r6_w9, r7_w9⟩ := Hrw9
      have qr_w9 := lt_of_cell r0_w9
      obtain ⟨t0_w9, t1_w9, t2_w9, t3_w9, t4_w9, t5_w9, t6_w9, t7_w9⟩ := Htw9
      have qt_w9 := lt_of_cell t0_w9
      have HST5 := Lib.hid (HST4.out.below hbk.out)
      clear hbk
      have hb1 := Bw1.out
      have hb2 := Bw2.out
      have b1 := hb1.size
      have b2 := hb2.size
      have hbD := hb2.trans (D9.mono hb2.size)
      cases hq : (m.toList == L.toList)
      · have hne : lowerL (tagText x.data.toList (⟨#[]⟩ : ByteArray).data.toList (⟨#[]⟩ : ByteArray).data.toList (listsOf [])) ≠ lowerL s.data.toList := fun h => by
          have h2 := HMM.out
          rw [HTT.out] at h2
          rw [h2, HL.out] at h
          rw [Lib.toList_data, Lib.toList_data, h] at hq
          simp at hq
        have HNE := Lib.hid hne
        clear hne
        have hq2 : (m.toList != L.toList) = true := by rw [bne, hq]; rfl
        go_wp2_with fail
        exact bodyPost_ret (v := .tuple #[tagV ⟨#[]⟩ ⟨#[]⟩ ⟨#[]⟩ none 0 0, .bool false]) (by simp [results, Tryd.results19, go_sem, r0_w9, r1_w9, r2_w9, r3_w9, World.cell?_setCell_same, World.cell?_setCell_other]) rfl ⟨.inr ⟨isTagR_no2 HT.out HNE.out, rfl⟩, (by (repeat (first | with_reducible exact Below.refl _ _ | with_reducible refine bel_set ?_ ?_ | with_reducible refine bel_alloc ?_ ?_ | with_reducible refine Below.drew ?_ | with_reducible refine bel_drewN _ ?_ | with_reducible refine bel_call ?_ (by assumption) ?_)); all_goals (first | (simp; done) | omega | (simp; omega)))⟩
      · have hyes : isTagR s.data.toList = true := isTagR_yes HT.out HE.out.symm (by
          have h2 := HMM.out
          rw [HTT.out] at h2
          have h3 := eq_of_beq hq
          rw [Lib.toList_data, Lib.toList_data] at h3
          rw [HL.out, ← h3]
          exact h2)
        have HYES := Lib.hid hyes
        clear hyes
        have hq2 : m.toList = L.toList := by simpa using hq
        go_wp2_with fail
        refine bodyPost_ret (v := .tuple #[tagV x ⟨#[]⟩ ⟨#[]⟩ A ([] : List ByteArray).length kc, .bool true]) (by simp [results, Tryd.results19, go_sem, r0_w9, r1_w9, r2_w9, r3_w9, World.cell?_setCell_same, World.cell?_setCell_other]) rfl ⟨.inl ⟨HYES.out, x, ⟨#[]⟩, ⟨#[]⟩, A, kc, [], rfl, HT.out, ?_, ?_, ?_⟩, (by (repeat (first | with_reducible exact Below.refl _ _ | with_reducible refine bel_set ?_ ?_ | with_reducible refine bel_alloc ?_ ?_ | with_reducible refine Below.drew ?_ | with_reducible refine bel_drewN _ ?_ | with_reducible refine bel_call ?_ (by assumption) ?_)); all_goals (first | (simp; done) | omega | (simp; omega)))⟩
        · have hl : w.heap.size < bz := by have := HSC.out; omega
          exact ((((HST5.out.set _ _ _ hl).set _ _ _ hl).set _ _ _ hl).set _ _ _ hl).strs
        · exact HKC.out
        · exact HA.out
    · have E0 : (E != 0) = true := bne_iff_ne.2 h0
      have HNE : Hid (tagErr x.data.toList (⟨#[]⟩ : ByteArray).data.toList (⟨#[]⟩ : ByteArray).data.toList (listsOf []) ≠ 0) := Lib.hid (fun h => h0 (HE.out.trans h))
      clear h0 HE
      refine (KC.out).mono ?_
      rintro e w6 ⟨rfl, hb⟩
      have Hrw6 : C4 w6 (w.heap.size) (.string ⟨#[]⟩) (.string ⟨#[]⟩) (.string ⟨#[]⟩) (.slice none 0 0) := C4.below ⟨by go_simp, by go_simp, by go_simp, by go_simp, by go_simp, by go_simp, by go_simp, by go_simp⟩ hb
      have Htw6 : C4 w6 (w2.heap.size) (.string x) (.string ⟨#[]⟩) (.string ⟨#[]⟩) (.slice A 0 kc) := C4.below ⟨by go_simp, by go_simp, by go_simp, by go_simp, by go_simp, by go_simp, by go_simp, by go_simp⟩ hb
      have D6 : Below w2.heap.size w2 w6 := (by (repeat (first | with_reducible exact Below.refl _ _ | with_reducible refine bel_set ?_ ?_ | with_reducible refine bel_alloc ?_ ?_ | with_reducible refine Below.drew ?_ | with_reducible refine bel_drewN _ ?_ | with_reducible refine bel_call ?_ (by assumption) ?_)); all_goals (first | (simp; done) | omega | (simp; omega)))
      clear hb r0_w5 r1_w5 r2_w5 r3_w5 r4_w5 r5_w5 r6_w5 r7_w5 qr_w5 t0_w5 t1_w5 t2_w5 t3_w5 t4_w5 t5_w5 t6_w5 t7_w5 qt_w5 D5
      obtain ⟨r0_w6, r1_w6, r2_w6, r3_w6, r4_w6, r5_w6, r6_w6, r7_w6⟩ := Hrw6
      have qr_w6 := lt_of_cell r0_w6
      obtain ⟨t0_w6, t1_w6, t2_w6, t3_w6, t4_w6, t5_w6, t6_w6, t7_w6⟩ := Htw6
      have qt_w6 := lt_of_cell t0_w6
      have hb1 := Bw1.out
      have hb2 := Bw2.out
      have b1 := hb1.size
      have b2 := hb2.size
      have hbD := hb2.trans (D6.mono hb2.size)
      go_wp2_with fail
      exact bodyPost_ret (v := .tuple #[tagV ⟨#[]⟩ ⟨#[]⟩ ⟨#[]⟩ none 0 0, .bool false]) (by simp [results, Tryd.results19, go_sem, r0_w6, r1_w6, r2_w6, r3_w6, World.cell?_setCell_same, World.cell?_setCell_other]) rfl ⟨.inr ⟨isTagR_no1 HT.out HNE.out, rfl⟩, (by (repeat (first | with_reducible exact Below.refl _ _ | with_reducible refine bel_set ?_ ?_ | with_reducible refine bel_alloc ?_ ?_ | with_reducible refine Below.drew ?_ | with_reducible refine bel_drewN _ ?_ | with_reducible refine bel_call ?_ (by assumption) ?_)); all_goals (first | (simp; done) | omega | (simp; omega)))⟩
end Go.Proofs.YtnhlnhmjnnopaaaDoor

/- linguisterref1.TagOf: way 1. -/
namespace Go.Proofs.YtnhlnhmjnnopaaaDoor
open Go.RowKit

set_option maxHeartbeats 4000000 in
set_option maxRecDepth 100000 in
theorem tagof_way1 (s L x p : ByteArray) (w : World) (hM : MaxL w) (hs : s.size ≤ 1000000000) (hL : lowerL s.data.toList = L.data.toList) (hps : listsOf (x :: p :: []) = splitD L.data.toList) (hp : p.size = 4) :
    Calls Tryd.prog 19 #[.string s] w fun e w' => TagOut s e w' ∧ Below w.heap.size w w' := by
  obtain ⟨hmade, hsz, hcnt⟩ := made_isR hL hps
  have hLs : L.size = s.size := by rw [← tsize, ← tsize, ← hL]; unfold lowerL; simp
  have hp4 : p.size = 4 := hp
  obtain ⟨u, hu⟩ : ∃ u : ByteArray, upperL (p.extract 0 1).data.toList = u.data.toList := ⟨⟨(upperL (p.extract 0 1).data.toList).toArray⟩, rfl⟩
  have huz : u.size = 1 := by rw [← tsize, ← hu, upper_len, Lib.extract_from_zero, List.length_take, tsize]; omega
  have hez : (p.extract 1 p.size).size ≤ 4 := by rw [ByteArray.size_extract]; omega
  have hez0 : (p.extract 0 1).size ≤ 9223372036854775807 := by rw [ByteArray.size_extract]; omega
  obtain ⟨sc, hsc, hcat⟩ := add_let u (p.extract 1 p.size) (by omega)
  have hsc2 : sc.data.toList = upperL (p.data.toList.take 1) ++ p.data.toList.drop 1 := by rw [hsc, ByteArray.data_append, Array.toList_append, ← hu, Lib.extract_from_zero, Lib.extract_to_end]
  have hscz : sc.size ≤ 1000000000 := by rw [← tsize, hsc2, List.length_append, upper_len, ← List.length_append, List.take_append_drop, tsize]; omega
  have hT : madeR s.data.toList = ⟨x.data.toList, sc.data.toList, [], listsOf []⟩ := by
    rw [hmade]
    simp [listsOf, List.map_cons, List.map_nil, scrR, regR, tsize, hp, hsc2]
  have HT := Lib.hid hT
  have zx : x.size ≤ 1000000000 := by have := hsz x (by simp); omega
  have zp : p.size ≤ 1000000000 := by have := hsz p (by simp); omega
  have HPS := Lib.hid hps
  have HL := Lib.hid hL
  have HM := Lib.hid hM
  have HU := Lib.hid hu
  have HP := Lib.hid hp
  clear hmade hsz hcnt hT hps hL hM hu hp hsc2
  go_enter Tryd.func19, Tryd.ntmps19
  go_wp2_with fail
  refine (rlow_call s L HL.out (by omega) _).mono ?_
  rintro e w1 ⟨rfl, hb1⟩
  have Hrw1 : C4 w1 (w.heap.size) (.string ⟨#[]⟩) (.string ⟨#[]⟩) (.string ⟨#[]⟩) (.slice none 0 0) := C4.below ⟨by go_simp, by go_simp, by go_simp, by go_simp, by go_simp, by go_simp, by go_simp, by go_simp⟩ hb1
  have Bw1 := Lib.hid hb1
  obtain ⟨r0_w1, r1_w1, r2_w1, r3_w1, r4_w1, r5_w1, r6_w1, r7_w1⟩ := Hrw1
  have qr_w1 := lt_of_cell r0_w1
  have s1 : w.heap.size < w1.heap.size := qr_w1
  go_wp2_with fail
  refine (cut_call L x _ HPS.out _ (by omega)).mono ?_
  rintro e w2 ⟨bk, cd, rfl, hcd, hbk0, hcp, hb2⟩
  have HCP := Lib.hid hcp
  have c0_w2 : w2.cell? ⟨bk, 0, none⟩ = some (.string x) := hcp 0 x rfl
  have c1_w2 : w2.cell? ⟨bk, 1, none⟩ = some (.string p) := hcp 1 p rfl
  have Hrw2 : C4 w2 (w.heap.size) (.string ⟨#[]⟩) (.string ⟨#[]⟩) (.string ⟨#[]⟩) (.slice none 0 0) := C4.below ⟨by go_simp, by go_simp, by go_simp, by go_simp, by go_simp, by go_simp, by go_simp, by go_simp⟩ hb2
  have Bw2 := Lib.hid hb2
  clear hcp hb2 r0_w1 r1_w1 r2_w1 r3_w1 r4_w1 r5_w1 r6_w1 r7_w1 qr_w1
  obtain ⟨r0_w2, r1_w2, r2_w2, r3_w2, r4_w2, r5_w2, r6_w2, r7_w2⟩ := Hrw2
  have qr_w2 := lt_of_cell r0_w2
  have qc_w2 := lt_of_cell c0_w2
  simp only [List.length_cons, List.length_nil, Nat.zero_add] at hcd ⊢
  have hbk1 : w.heap.size < bk := by omega
  have hcd2 : 2 ≤ cd := by omega
  clear hcd hbk0
  have ncd1 : ¬ cd = 1 := by omega
  by_cases hlast : cd - 1 = 1
  · have tp : ((p.size : Int) == 4) = true := by rw [hp4]; rfl
    go_wp2_with fail
    have z1 : (1 : Int) ≤ (p.size : Int) := by omega
    refine wp_region_held_drew (S := fun w' => w'.cell? ⟨bk, 1, none⟩ = some (.string p)) (by kernel_rfl) ?_ (fun hHeld => ?_)
    · (try dsimp only); go_simp
    refine wpAnyH_take (i := 0) (v := ?v1) rfl (by kernel_rfl) (by kernel_rfl) (by kernel_rfl) (fun _ _ _ h => h) (Or.inl ⟨rfl, ?hy1⟩) hHeld ?rest1
    case hy1 => (intro w hSw; (try dsimp only at hSw); go_simp; try with_reducible rfl)
    try simp only [Act.put, List.setIfInBounds_toArray, List.set_cons_zero, List.set_cons_succ, List.getElem_toArray, List.getElem_cons_zero, List.getElem_cons_succ]
    refine wpAnyH_take (i := 1) (v := ?v2) rfl (by kernel_rfl) (by kernel_rfl) (by kernel_rfl) (fun _ _ _ h => h) (Or.inl ⟨rfl, ?hy2⟩) hHeld ?rest2
    case hy2 => (intro w hSw; (try dsimp only at hSw); go_simp; try with_reducible rfl)
    try simp only [Act.put, List.setIfInBounds_toArray, List.set_cons_zero, List.set_cons_succ, List.getElem_toArray, List.getElem_cons_zero, List.getElem_cons_succ]
    refine wpAnyH_take (i := 2) (v := ?v3) rfl (by kernel_rfl) (by kernel_rfl) (by kernel_rfl) (fun _ _ _ h => h) (Or.inl ⟨rfl, ?hy3⟩) hHeld ?rest3
    case hy3 => (intro w hSw; (try dsimp only at hSw); go_simp; try with_reducible rfl)
    try simp only [Act.put, List.setIfInBounds_toArray, List.set_cons_zero, List.set_cons_succ, List.getElem_toArray, List.getElem_cons_zero, List.getElem_cons_succ]
    refine wpAnyH_take (i := 3) (v := ?v4) rfl (by kernel_rfl) (by kernel_rfl) (by kernel_rfl) (fun _ _ _ h => h) (Or.inl ⟨rfl, ?hy4⟩) hHeld ?rest4
    case hy4 => (intro w hSw; (try dsimp only at hSw); go_simp; try with_reducible rfl)
    try simp only [Act.put, List.setIfInBounds_toArray, List.set_cons_zero, List.set_cons_succ, List.getElem_toArray, List.getElem_cons_zero, List.getElem_cons_succ]
    refine wpAnyH_take (i := 5) (v := ?v5) rfl (by kernel_rfl) (by kernel_rfl) (by kernel_rfl) (fun _ _ _ h => h) (Or.inl ⟨rfl, ?hy5⟩) hHeld ?rest5
    case hy5 => (intro w hSw; (try dsimp only at hSw); go_simp; try with_reducible rfl)
    try simp only [Act.put, List.setIfInBounds_toArray, List.set_cons_zero, List.set_cons_succ, List.getElem_toArray, List.getElem_cons_zero, List.getElem_cons_succ]
    refine wpAnyH_take (i := 6) (v := ?v6) rfl (by kernel_rfl) (by kernel_rfl) (by kernel_rfl) (fun _ _ _ h => h) (Or.inl ⟨rfl, ?hy6⟩) hHeld ?rest6
    case hy6 => (intro w hSw; (try dsimp only at hSw); go_simp; try with_reducible rfl)
    try simp only [Act.put, List.setIfInBounds_toArray, List.set_cons_zero, List.set_cons_succ, List.getElem_toArray, List.getElem_cons_zero, List.getElem_cons_succ]
    refine wpAnyH_take (i := 7) (v := ?v7) rfl (by kernel_rfl) (by kernel_rfl) (by kernel_rfl) (fun _ _ _ h => h) (Or.inl ⟨rfl, ?hy7⟩) hHeld ?rest7
    case hy7 => (intro w hSw; (try dsimp only at hSw); go_simp; try with_reducible rfl)
    try simp only [Act.put, List.setIfInBounds_toArray, List.set_cons_zero, List.set_cons_succ, List.getElem_toArray, List.getElem_cons_zero, List.getElem_cons_succ]
    refine wpAnyH_take (i := 8) (v := ?v8) rfl (by kernel_rfl) (by kernel_rfl) (by kernel_rfl) (fun _ _ _ h => h) (Or.inl ⟨rfl, ?hy8⟩) hHeld ?rest8
    case hy8 => (intro w hSw; (try dsimp only at hSw); go_simp; try with_reducible rfl)
    try simp only [Act.put, List.setIfInBounds_toArray, List.set_cons_zero, List.set_cons_succ, List.getElem_toArray, List.getElem_cons_zero, List.getElem_cons_succ]
    refine wpAnyH_ready (rs := [4]) (by kernel_rfl) (by simp) (AllReadyH.cons rfl (fun K hK => ?_) AllReadyH.nil)
    go_simp
    go_at_call 45; refine (rup_call (p.extract 0 1) u HU.out hez0 _).mono ?_; rintro e w3 ⟨rfl, hb3⟩
    try dsimp only
    refine hK.out _ _ (carry hb3 (by go_simp)) (fun hNew => ?_)
    have B3 : Below w2.heap.size w2 w3 := Below.trans ((Below.refl w2.heap.size w2).alloc (Nat.le_refl _) (.cells #[.string x, .string ⟨#[]⟩, .string ⟨#[]⟩, .slice none 0 0] 47)).drew (hb3.mono (show w2.heap.size ≤ _ by simp))
    have Bw3 := Lib.hid B3
    have Hrw3 : C4 w3 (w.heap.size) (.string ⟨#[]⟩) (.string ⟨#[]⟩) (.string ⟨#[]⟩) (.slice none 0 0) := C4.below ⟨by go_simp, by go_simp, by go_simp, by go_simp, by go_simp, by go_simp, by go_simp, by go_simp⟩ hb3
    have Htw3 : C4 w3 (w2.heap.size) (.string x) (.string ⟨#[]⟩) (.string ⟨#[]⟩) (.slice none 0 0) := C4.below ⟨by go_simp, by go_simp, by go_simp, by go_simp, by go_simp, by go_simp, by go_simp, by go_simp⟩ hb3
    clear hK K hHeld hb3 B3
    have hHeld := hNew
    clear hNew r0_w2 r1_w2 r2_w2 r3_w2 r4_w2 r5_w2 r6_w2 r7_w2
    obtain ⟨r0_w3, r1_w3, r2_w3, r3_w3, r4_w3, r5_w3, r6_w3, r7_w3⟩ := Hrw3
    obtain ⟨t0_w3, t1_w3, t2_w3, t3_w3, t4_w3, t5_w3, t6_w3, t7_w3⟩ := Htw3
    have qr_w3 := lt_of_cell r0_w3
    have qt_w3 := lt_of_cell t0_w3
    try simp only [Act.put, List.setIfInBounds_toArray, List.set_cons_zero, List.set_cons_succ, List.getElem_toArray, List.getElem_cons_zero, List.getElem_cons_succ]
    refine wpAnyH_take (i := 9) (v := ?v9) rfl (by kernel_rfl) (by kernel_rfl) (by kernel_rfl) (fun _ _ _ h => h) (Or.inl ⟨rfl, ?hy9⟩) hHeld ?rest9
    case hy9 => (intro w hSw; (try dsimp only at hSw); go_simp; try with_reducible rfl)
    try simp only [Act.put, List.setIfInBounds_toArray, List.set_cons_zero, List.set_cons_succ, List.getElem_toArray, List.getElem_cons_zero, List.getElem_cons_succ]
    refine wpAnyH_take (i := 10) (v := ?v10) rfl (by kernel_rfl) (by kernel_rfl) (by kernel_rfl) (fun _ _ _ h => h) (Or.inl ⟨rfl, ?hy10⟩) hHeld ?rest10
    case hy10 => (intro w hSw; (try dsimp only at hSw); go_simp; try with_reducible rfl)
    try simp only [Act.put, List.setIfInBounds_toArray, List.set_cons_zero, List.set_cons_succ, List.getElem_toArray, List.getElem_cons_zero, List.getElem_cons_succ]
    refine wpAnyH_ready (rs := [11]) (by kernel_rfl) (by simp) (AllReadyH.cons rfl (fun K hK => ?_) AllReadyH.nil)
    go_simp
    have hsc4 : u ++ p.extract 1 4 = sc := by rw [hsc, hp4]
    rw [hsc4]
    refine hK.out _ _ (cell_other hHeld (by intro e; injection e with e1; omega)) (fun hNew => ?_)
    clear hK K hHeld hNew hsc4
    refine wpAnyH_done (by kernel_rfl) ?_ _
    have Hrw4 : C4 (w3.setCell ⟨w2.heap.size, 1, none⟩ (.string sc)) (w.heap.size) (.string ⟨#[]⟩) (.string ⟨#[]⟩) (.string ⟨#[]⟩) (.slice none 0 0) := ⟨by go_simp, by go_simp, by go_simp, by go_simp, by go_simp, by go_simp, by go_simp, by go_simp⟩
    have Htw4 : C4 (w3.setCell ⟨w2.heap.size, 1, none⟩ (.string sc)) (w2.heap.size) (.string x) (.string sc) (.string ⟨#[]⟩) (.slice none 0 0) := ⟨by go_simp, by go_simp, by go_simp, by go_simp, by go_simp, by go_simp, by go_simp, by go_simp⟩
    have D4 : Below w2.heap.size w2 (w3.setCell ⟨w2.heap.size, 1, none⟩ (.string sc)) := bel_set Bw3.out (Nat.le_refl _)
    have hq4 : w2.heap.size < (w3.setCell ⟨w2.heap.size, 1, none⟩ (.string sc)).heap.size := lt_of_cell Htw4.c0
    clear r0_w3 r1_w3 r2_w3 r3_w3 r4_w3 r5_w3 r6_w3 r7_w3 t0_w3 t1_w3 t2_w3 t3_w3 t4_w3 t5_w3 t6_w3 t7_w3 qr_w3 qt_w3 Bw3 hcat huz hez hez0 hsc hp4 z1
    generalize (w3.setCell ⟨w2.heap.size, 1, none⟩ (.string sc)) = w4 at *
    clear c0_w2 c1_w2 qr_w2
    obtain ⟨r0_w4, r1_w4, r2_w4, r3_w4, r4_w4, r5_w4, r6_w4, r7_w4⟩ := Hrw4
    have qr_w4 := lt_of_cell r0_w4
    obtain ⟨t0_w4, t1_w4, t2_w4, t3_w4, t4_w4, t5_w4, t6_w4, t7_w4⟩ := Htw4
    have qt_w4 := lt_of_cell t0_w4
    have DC : Below w2.heap.size w2 w4 := (by (repeat (first | with_reducible exact Below.refl _ _ | with_reducible refine bel_set ?_ ?_ | with_reducible refine bel_alloc ?_ ?_ | with_reducible refine Below.drew ?_ | with_reducible refine bel_drewN _ ?_ | with_reducible refine bel_call ?_ (by assumption) ?_)); all_goals (first | (simp; done) | omega | (simp; omega)))
    have SC : w2.heap.size < w4.heap.size := by simpa using qt_w4
    have HCL : Hid (∀ (j : Nat) z, ([] : List ByteArray)[j]? = some z → w4.cell? ⟨bk, 2 + j, none⟩ = some (.string z)) := Lib.hid (fun j z hz => by simp at hz)
    clear DC
    obtain ⟨bz, hbz⟩ : ∃ b, b = w4.heap.size := ⟨_, rfl⟩
    have HBZ := Lib.hid hbz
    have SCZ : w2.heap.size < bz := by rw [hbz]; exact SC
    have HSC := Lib.hid SCZ
    clear hbz SCZ SC
    go_wp2_with (at_builtin; refine wpList_append_many rfl _ _ rfl (ys := ([] : List ByteArray)) rfl rfl (OwnsS.nil _ bz) (.inl rfl) (by intro h; first | (cases h; done) | (split at h <;> cases h)) (by rw [HBZ.out]; exact Nat.le_refl _) (by first | (simp; done) | (simp; omega)) ?_; intro v' w5 ho hoff; have hb := (OwnsS.nil _ bz).grown hoff (by rw [HBZ.out]; exact Nat.le_refl _); rw [HBZ.out] at hb; rw [List.nil_append] at ho; obtain ⟨A, kc, rfl, _⟩ := ho.form; have Hrw5 : C4 w5 (w.heap.size) (.string ⟨#[]⟩) (.string ⟨#[]⟩) (.string ⟨#[]⟩) (.slice none 0 0) := C4.below ⟨by go_simp, by go_simp, by go_simp, by go_simp, by go_simp, by go_simp, by go_simp, by go_simp⟩ hb; have Htw5 : C4 w5 (w2.heap.size) (.string x) (.string sc) (.string ⟨#[]⟩) (.slice none 0 0) := C4.below ⟨by go_simp, by go_simp, by go_simp, by go_simp, by go_simp, by go_simp, by go_simp, by go_simp⟩ hb; have D5 : Below w2.heap.size w2 w5 := (by (repeat (first | with_reducible exact Below.refl _ _ | with_reducible refine bel_set ?_ ?_ | with_reducible refine bel_alloc ?_ ?_ | with_reducible refine Below.drew ?_ | with_reducible refine bel_drewN _ ?_ | with_reducible refine bel_call ?_ (by assumption) ?_)); all_goals (first | (simp; done) | omega | (simp; omega))); obtain ⟨hkc, hA⟩ := ho.caps; have HKM := Lib.hid ho.capM; have HST := Lib.hid (ho.set w2.heap.size 3 (.slice A 0 kc) HSC.out); have HA := Lib.hid hA; have HKC := Lib.hid hkc; clear hb ho hoff hA hkc HCL r0_w4 r1_w4 r2_w4 r3_w4 r4_w4 r5_w4 r6_w4 r7_w4 qr_w4 t0_w4 t1_w4 t2_w4 t3_w4 t4_w4 t5_w4 t6_w4 t7_w4 qt_w4 D4 hq4; obtain ⟨r0_w5, r1_w5, r2_w5, r3_w5, r4_w5, r5_w5, r6_w5, r7_w5⟩ := Hrw5; have qr_w5 := lt_of_cell r0_w5; obtain ⟨t0_w5, t1_w5, t2_w5, t3_w5, t4_w5, t5_w5, t6_w5, t7_w5⟩ := Htw5; have qt_w5 := lt_of_cell t0_w5)
    obtain ⟨E, hE⟩ : ∃ E, E = tagErr x.data.toList sc.data.toList (⟨#[]⟩ : ByteArray).data.toList (listsOf []) := ⟨_, rfl⟩
    have KC := Lib.hid (ref_fault x sc ⟨#[]⟩ A kc [] (w5.setCell ⟨w2.heap.size, 3, none⟩ (.slice A 0 kc)) (by omega) (by omega) (by decide) (by simp) (.inl rfl) (Nat.zero_le _) HKM.out)
    rw [← hE] at KC
    have HE := Lib.hid hE
    clear hE
    by_cases h0 : E = 0
    · subst h0
      refine (KC.out).mono ?_
      rintro e w6 ⟨rfl, hb⟩
      have Hrw6 : C4 w6 (w.heap.size) (.string ⟨#[]⟩) (.string ⟨#[]⟩) (.string ⟨#[]⟩) (.slice none 0 0) := C4.below ⟨by go_simp, by go_simp, by go_simp, by go_simp, by go_simp, by go_simp, by go_simp, by go_simp⟩ hb
      have Htw6 : C4 w6 (w2.heap.size) (.string x) (.string sc) (.string ⟨#[]⟩) (.slice A 0 kc) := C4.below ⟨by go_simp, by go_simp, by go_simp, by go_simp, by go_simp, by go_simp, by go_simp, by go_simp⟩ hb
      have D6 : Below w2.heap.size w2 w6 := (by (repeat (first | with_reducible exact Below.refl _ _ | with_reducible refine bel_set ?_ ?_ | with_reducible refine bel_alloc ?_ ?_ | with_reducible refine Below.drew ?_ | with_reducible refine bel_drewN _ ?_ | with_reducible refine bel_call ?_ (by assumption) ?_)); all_goals (first | (simp; done) | omega | (simp; omega)))
      have hbk := Lib.hid hb
      clear hb r0_w5 r1_w5 r2_w5 r3_w5 r4_w5 r5_w5 r6_w5 r7_w5 qr_w5 t0_w5 t1_w5 t2_w5 t3_w5 t4_w5 t5_w5 t6_w5 t7_w5 qt_w5 D5
      obtain ⟨r0_w6, r1_w6, r2_w6, r3_w6, r4_w6, r5_w6, r6_w6, r7_w6⟩ := Hrw6
      have qr_w6 := lt_of_cell r0_w6
      obtain ⟨t0_w6, t1_w6, t2_w6, t3_w6, t4_w6, t5_w6, t6_w6, t7_w6⟩ := Htw6
      have qt_w6 := lt_of_cell t0_w6
      have he0 := HE.out.symm
      have hlt := text_len he0
      obtain ⟨t, ht⟩ : ∃ t : ByteArray, t = ⟨(tagText x.data.toList sc.data.toList (⟨#[]⟩ : ByteArray).data.toList (listsOf [])).toArray⟩ := ⟨_, rfl⟩
      have htz : t.size ≤ 100 := by rw [← tsize, ht]; exact hlt
      have HST2 := Lib.hid (HST.out.below hbk.out)
      have KT := Lib.hid (ref_tag_text x sc ⟨#[]⟩ A kc [] w6 HST2.out.strs HA.out he0)
      rw [← ht] at KT
      obtain ⟨m, hm⟩ : ∃ m : ByteArray, lowerL t.data.toList = m.data.toList := ⟨⟨(lowerL t.data.toList).toArray⟩, rfl⟩
      have HMM := Lib.hid hm
      have HTT := Lib.hid ht
      clear hm ht hlt he0
      go_wp2_with fail
      clear hbk
      refine (KT.out).mono ?_
      rintro e w7 ⟨rfl, hb⟩
      have Hrw7 : C4 w7 (w.heap.size) (.string ⟨#[]⟩) (.string ⟨#[]⟩) (.string ⟨#[]⟩) (.slice none 0 0) := C4.below ⟨by go_simp, by go_simp, by go_simp, by go_simp, by go_simp, by go_simp, by go_simp, by go_simp⟩ hb
      have Htw7 : C4 w7 (w2.heap.size) (.string x) (.string sc) (.string ⟨#[]⟩) (.slice A 0 kc) := C4.below ⟨by go_simp, by go_simp, by go_simp, by go_simp, by go_simp, by go_simp, by go_simp, by go_simp⟩ hb
      have D7 : Below w2.heap.size w2 w7 := (by (repeat (first | with_reducible exact Below.refl _ _ | with_reducible refine bel_set ?_ ?_ | with_reducible refine bel_alloc ?_ ?_ | with_reducible refine Below.drew ?_ | with_reducible refine bel_drewN _ ?_ | with_reducible refine bel_call ?_ (by assumption) ?_)); all_goals (first | (simp; done) | omega | (simp; omega)))
      have hbk := Lib.hid hb
      clear hb r0_w6 r1_w6 r2_w6 r3_w6 r4_w6 r5_w6 r6_w6 r7_w6 qr_w6 t0_w6 t1_w6 t2_w6 t3_w6 t4_w6 t5_w6 t6_w6 t7_w6 qt_w6 D6
      obtain ⟨r0_w7, r1_w7, r2_w7, r3_w7, r4_w7, r5_w7, r6_w7, r7_w7⟩ := Hrw7
      have qr_w7 := lt_of_cell r0_w7
      obtain ⟨t0_w7, t1_w7, t2_w7, t3_w7, t4_w7, t5_w7, t6_w7, t7_w7⟩ := Htw7
      have qt_w7 := lt_of_cell t0_w7
      have HST3 := Lib.hid (HST2.out.below hbk.out)
      clear hbk
      go_wp2_with fail
      refine (rlow_call t m HMM.out (by omega) _).mono ?_
      rintro e w8 ⟨rfl, hb⟩
      have Hrw8 : C4 w8 (w.heap.size) (.string ⟨#[]⟩) (.string ⟨#[]⟩) (.string ⟨#[]⟩) (.slice none 0 0) := C4.below ⟨by go_simp, by go_simp, by go_simp, by go_simp, by go_simp, by go_simp, by go_simp, by go_simp⟩ hb
      have Htw8 : C4 w8 (w2.heap.size) (.string x) (.string sc) (.string ⟨#[]⟩) (.slice A 0 kc) := C4.below ⟨by go_simp, by go_simp, by go_simp, by go_simp, by go_simp, by go_simp, by go_simp, by go_simp⟩ hb
      have D8 : Below w2.heap.size w2 w8 := (by (repeat (first | with_reducible exact Below.refl _ _ | with_reducible refine bel_set ?_ ?_ | with_reducible refine bel_alloc ?_ ?_ | with_reducible refine Below.drew ?_ | with_reducible refine bel_drewN _ ?_ | with_reducible refine bel_call ?_ (by assumption) ?_)); all_goals (first | (simp; done) | omega | (simp; omega)))
      have hbk := Lib.hid hb
      clear hb r0_w7 r1_w7 r2_w7 r3_w7 r4_w7 r5_w7 r6_w7 r7_w7 qr_w7 t0_w7 t1_w7 t2_w7 t3_w7 t4_w7 t5_w7 t6_w7 t7_w7 qt_w7 D7
      obtain ⟨r0_w8, r1_w8, r2_w8, r3_w8, r4_w8, r5_w8, r6_w8, r7_w8⟩ := Hrw8
      have qr_w8 := lt_of_cell r0_w8
      obtain ⟨t0_w8, t1_w8, t2_w8, t3_w8, t4_w8, t5_w8, t6_w8, t7_w8⟩ := Htw8
      have qt_w8 := lt_of_cell t0_w8
      have HST4 := Lib.hid (HST3.out.below hbk.out)
      clear hbk
      go_wp2_with fail
      refine (rlow_call s L HL.out (by omega) _).mono ?_
      rintro e w9 ⟨rfl, hb⟩
      have Hrw9 : C4 w9 (w.heap.size) (.string ⟨#[]⟩) (.string ⟨#[]⟩) (.string ⟨#[]⟩) (.slice none 0 0) := C4.below ⟨by go_simp, by go_simp, by go_simp, by go_simp, by go_simp, by go_simp, by go_simp, by go_simp⟩ hb
      have Htw9 : C4 w9 (w2.heap.size) (.string x) (.string sc) (.string ⟨#[]⟩) (.slice A 0 kc) := C4.below ⟨by go_simp, by go_simp, by go_simp, by go_simp, by go_simp, by go_simp, by go_simp, by go_simp⟩ hb
      have D9 : Below w2.heap.size w2 w9 := (by (repeat (first | with_reducible exact Below.refl _ _ | with_reducible refine bel_set ?_ ?_ | with_reducible refine bel_alloc ?_ ?_ | with_reducible refine Below.drew ?_ | with_reducible refine bel_drewN _ ?_ | with_reducible refine bel_call ?_ (by assumption) ?_)); all_goals (first | (simp; done) | omega | (simp; omega)))
      have hbk := Lib.hid hb
      clear hb r0_w8 r1_w8 r2_w8 r3_w8 r4_w8 r5_w8 r6_w8 r7_w8 qr_w8 t0_w8 t1_w8 t2_w8 t3_w8 t4_w8 t5_w8 t6_w8 t7_w8 qt_w8 D8
      obtain ⟨r0_w9, r1_w9, r2_w9, r3_w9, r4_w9, r5_w9, r6_w9, r7_w9⟩ := Hrw9
      have qr_w9 := lt_of_cell r0_w9
      obtain ⟨t0_w9, t1_w9, t2_w9, t3_w9, t4_w9, t5_w9, t6_w9, t7_w9⟩ := Htw9
      have qt_w9 := lt_of_cell t0_w9
      have HST5 := Lib.hid (HST4.out.below hbk.out)
      clear hbk
      have hb1 := Bw1.out
      have hb2 := Bw2.out
      have b1 := hb1.size
      have b2 := hb2.size
      have hbD := hb2.trans (D9.mono hb2.size)
      cases hq : (m.toList == L.toList)
      · have hne : lowerL (tagText x.data.toList sc.data.toList (⟨#[]⟩ : ByteArray).data.toList (listsOf [])) ≠ lowerL s.data.toList := fun h => by
          have h2 := HMM.out
          rw [HTT.out] at h2
          rw [h2, HL.out] at h
          rw [Lib.toList_data, Lib.toList_data, h] at hq
          simp at hq
        have HNE := Lib.hid hne
        clear hne
        have hq2 : (m.toList != L.toList) = true := by rw [bne, hq]; rfl
        go_wp2_with fail
        exact bodyPost_ret (v := .tuple #[tagV ⟨#[]⟩ ⟨#[]⟩ ⟨#[]⟩ none 0 0, .bool false]) (by simp [results, Tryd.results19, go_sem, r0_w9, r1_w9, r2_w9, r3_w9, World.cell?_setCell_same, World.cell?_setCell_other]) rfl ⟨.inr ⟨isTagR_no2 HT.out HNE.out, rfl⟩, (by (repeat (first | with_reducible exact Below.refl _ _ | with_reducible refine bel_set ?_ ?_ | with_reducible refine bel_alloc ?_ ?_ | with_reducible refine Below.drew ?_ | with_reducible refine bel_drewN _ ?_ | with_reducible refine bel_call ?_ (by assumption) ?_)); all_goals (first | (simp; done) | omega | (simp; omega)))⟩
      · have hyes : isTagR s.data.toList = true := isTagR_yes HT.out HE.out.symm (by
          have h2 := HMM.out
          rw [HTT.out] at h2
          have h3 := eq_of_beq hq
          rw [Lib.toList_data, Lib.toList_data] at h3
          rw [HL.out, ← h3]
          exact h2)
        have HYES := Lib.hid hyes
        clear hyes
        have hq2 : m.toList = L.toList := by simpa using hq
        go_wp2_with fail
        refine bodyPost_ret (v := .tuple #[tagV x sc ⟨#[]⟩ A ([] : List ByteArray).length kc, .bool true]) (by simp [results, Tryd.results19, go_sem, r0_w9, r1_w9, r2_w9, r3_w9, World.cell?_setCell_same, World.cell?_setCell_other]) rfl ⟨.inl ⟨HYES.out, x, sc, ⟨#[]⟩, A, kc, [], rfl, HT.out, ?_, ?_, ?_⟩, (by (repeat (first | with_reducible exact Below.refl _ _ | with_reducible refine bel_set ?_ ?_ | with_reducible refine bel_alloc ?_ ?_ | with_reducible refine Below.drew ?_ | with_reducible refine bel_drewN _ ?_ | with_reducible refine bel_call ?_ (by assumption) ?_)); all_goals (first | (simp; done) | omega | (simp; omega)))⟩
        · have hl : w.heap.size < bz := by have := HSC.out; omega
          exact ((((HST5.out.set _ _ _ hl).set _ _ _ hl).set _ _ _ hl).set _ _ _ hl).strs
        · exact HKC.out
        · exact HA.out
    · have E0 : (E != 0) = true := bne_iff_ne.2 h0
      have HNE : Hid (tagErr x.data.toList sc.data.toList (⟨#[]⟩ : ByteArray).data.toList (listsOf []) ≠ 0) := Lib.hid (fun h => h0 (HE.out.trans h))
      clear h0 HE
      refine (KC.out).mono ?_
      rintro e w6 ⟨rfl, hb⟩
      have Hrw6 : C4 w6 (w.heap.size) (.string ⟨#[]⟩) (.string ⟨#[]⟩) (.string ⟨#[]⟩) (.slice none 0 0) := C4.below ⟨by go_simp, by go_simp, by go_simp, by go_simp, by go_simp, by go_simp, by go_simp, by go_simp⟩ hb
      have Htw6 : C4 w6 (w2.heap.size) (.string x) (.string sc) (.string ⟨#[]⟩) (.slice A 0 kc) := C4.below ⟨by go_simp, by go_simp, by go_simp, by go_simp, by go_simp, by go_simp, by go_simp, by go_simp⟩ hb
      have D6 : Below w2.heap.size w2 w6 := (by (repeat (first | with_reducible exact Below.refl _ _ | with_reducible refine bel_set ?_ ?_ | with_reducible refine bel_alloc ?_ ?_ | with_reducible refine Below.drew ?_ | with_reducible refine bel_drewN _ ?_ | with_reducible refine bel_call ?_ (by assumption) ?_)); all_goals (first | (simp; done) | omega | (simp; omega)))
      clear hb r0_w5 r1_w5 r2_w5 r3_w5 r4_w5 r5_w5 r6_w5 r7_w5 qr_w5 t0_w5 t1_w5 t2_w5 t3_w5 t4_w5 t5_w5 t6_w5 t7_w5 qt_w5 D5
      obtain ⟨r0_w6, r1_w6, r2_w6, r3_w6, r4_w6, r5_w6, r6_w6, r7_w6⟩ := Hrw6
      have qr_w6 := lt_of_cell r0_w6
      obtain ⟨t0_w6, t1_w6, t2_w6, t3_w6, t4_w6, t5_w6, t6_w6, t7_w6⟩ := Htw6
      have qt_w6 := lt_of_cell t0_w6
      have hb1 := Bw1.out
      have hb2 := Bw2.out
      have b1 := hb1.size
      have b2 := hb2.size
      have hbD := hb2.trans (D6.mono hb2.size)
      go_wp2_with fail
      exact bodyPost_ret (v := .tuple #[tagV ⟨#[]⟩ ⟨#[]⟩ ⟨#[]⟩ none 0 0, .bool false]) (by simp [results, Tryd.results19, go_sem, r0_w6, r1_w6, r2_w6, r3_w6, World.cell?_setCell_same, World.cell?_setCell_other]) rfl ⟨.inr ⟨isTagR_no1 HT.out HNE.out, rfl⟩, (by (repeat (first | with_reducible exact Below.refl _ _ | with_reducible refine bel_set ?_ ?_ | with_reducible refine bel_alloc ?_ ?_ | with_reducible refine Below.drew ?_ | with_reducible refine bel_drewN _ ?_ | with_reducible refine bel_call ?_ (by assumption) ?_)); all_goals (first | (simp; done) | omega | (simp; omega)))⟩
  · have tp : ((p.size : Int) == 4) = true := by rw [hp4]; rfl
    go_wp2_with fail
    have z1 : (1 : Int) ≤ (p.size : Int) := by omega
    refine wp_region_held_drew (S := fun w' => w'.cell? ⟨bk, 1, none⟩ = some (.string p)) (by kernel_rfl) ?_ (fun hHeld => ?_)
    · (try dsimp only); go_simp
    refine wpAnyH_take (i := 0) (v := ?v1b) rfl (by kernel_rfl) (by kernel_rfl) (by kernel_rfl) (fun _ _ _ h => h) (Or.inl ⟨rfl, ?hy1b⟩) hHeld ?rest1b
    case hy1b => (intro w hSw; (try dsimp only at hSw); go_simp; try with_reducible rfl)
    try simp only [Act.put, List.setIfInBounds_toArray, List.set_cons_zero, List.set_cons_succ, List.getElem_toArray, List.getElem_cons_zero, List.getElem_cons_succ]
    refine wpAnyH_take (i := 1) (v := ?v2b) rfl (by kernel_rfl) (by kernel_rfl) (by kernel_rfl) (fun _ _ _ h => h) (Or.inl ⟨rfl, ?hy2b⟩) hHeld ?rest2b
    case hy2b => (intro w hSw; (try dsimp only at hSw); go_simp; try with_reducible rfl)
    try simp only [Act.put, List.setIfInBounds_toArray, List.set_cons_zero, List.set_cons_succ, List.getElem_toArray, List.getElem_cons_zero, List.getElem_cons_succ]
    refine wpAnyH_take (i := 2) (v := ?v3b) rfl (by kernel_rfl) (by kernel_rfl) (by kernel_rfl) (fun _ _ _ h => h) (Or.inl ⟨rfl, ?hy3b⟩) hHeld ?rest3b
    case hy3b => (intro w hSw; (try dsimp only at hSw); go_simp; try with_reducible rfl)
    try simp only [Act.put, List.setIfInBounds_toArray, List.set_cons_zero, List.set_cons_succ, List.getElem_toArray, List.getElem_cons_zero, List.getElem_cons_succ]
    refine wpAnyH_take (i := 3) (v := ?v4b) rfl (by kernel_rfl) (by kernel_rfl) (by kernel_rfl) (fun _ _ _ h => h) (Or.inl ⟨rfl, ?hy4b⟩) hHeld ?rest4b
    case hy4b => (intro w hSw; (try dsimp only at hSw); go_simp; try with_reducible rfl)
    try simp only [Act.put, List.setIfInBounds_toArray, List.set_cons_zero, List.set_cons_succ, List.getElem_toArray, List.getElem_cons_zero, List.getElem_cons_succ]
    refine wpAnyH_take (i := 5) (v := ?v5b) rfl (by kernel_rfl) (by kernel_rfl) (by kernel_rfl) (fun _ _ _ h => h) (Or.inl ⟨rfl, ?hy5b⟩) hHeld ?rest5b
    case hy5b => (intro w hSw; (try dsimp only at hSw); go_simp; try with_reducible rfl)
    try simp only [Act.put, List.setIfInBounds_toArray, List.set_cons_zero, List.set_cons_succ, List.getElem_toArray, List.getElem_cons_zero, List.getElem_cons_succ]
    refine wpAnyH_take (i := 6) (v := ?v6b) rfl (by kernel_rfl) (by kernel_rfl) (by kernel_rfl) (fun _ _ _ h => h) (Or.inl ⟨rfl, ?hy6b⟩) hHeld ?rest6b
    case hy6b => (intro w hSw; (try dsimp only at hSw); go_simp; try with_reducible rfl)
    try simp only [Act.put, List.setIfInBounds_toArray, List.set_cons_zero, List.set_cons_succ, List.getElem_toArray, List.getElem_cons_zero, List.getElem_cons_succ]
    refine wpAnyH_take (i := 7) (v := ?v7b) rfl (by kernel_rfl) (by kernel_rfl) (by kernel_rfl) (fun _ _ _ h => h) (Or.inl ⟨rfl, ?hy7b⟩) hHeld ?rest7b
    case hy7b => (intro w hSw; (try dsimp only at hSw); go_simp; try with_reducible rfl)
    try simp only [Act.put, List.setIfInBounds_toArray, List.set_cons_zero, List.set_cons_succ, List.getElem_toArray, List.getElem_cons_zero, List.getElem_cons_succ]
    refine wpAnyH_take (i := 8) (v := ?v8b) rfl (by kernel_rfl) (by kernel_rfl) (by kernel_rfl) (fun _ _ _ h => h) (Or.inl ⟨rfl, ?hy8b⟩) hHeld ?rest8b
    case hy8b => (intro w hSw; (try dsimp only at hSw); go_simp; try with_reducible rfl)
    try simp only [Act.put, List.setIfInBounds_toArray, List.set_cons_zero, List.set_cons_succ, List.getElem_toArray, List.getElem_cons_zero, List.getElem_cons_succ]
    refine wpAnyH_ready (rs := [4]) (by kernel_rfl) (by simp) (AllReadyH.cons rfl (fun K hK => ?_) AllReadyH.nil)
    go_simp
    go_at_call 45; refine (rup_call (p.extract 0 1) u HU.out hez0 _).mono ?_; rintro e w3 ⟨rfl, hb3⟩
    try dsimp only
    refine hK.out _ _ (carry hb3 (by go_simp)) (fun hNew => ?_)
    have B3 : Below w2.heap.size w2 w3 := Below.trans ((Below.refl w2.heap.size w2).alloc (Nat.le_refl _) (.cells #[.string x, .string ⟨#[]⟩, .string ⟨#[]⟩, .slice none 0 0] 47)).drew (hb3.mono (show w2.heap.size ≤ _ by simp))
    have Bw3 := Lib.hid B3
    have Hrw3 : C4 w3 (w.heap.size) (.string ⟨#[]⟩) (.string ⟨#[]⟩) (.string ⟨#[]⟩) (.slice none 0 0) := C4.below ⟨by go_simp, by go_simp, by go_simp, by go_simp, by go_simp, by go_simp, by go_simp, by go_simp⟩ hb3
    have Htw3 : C4 w3 (w2.heap.size) (.string x) (.string ⟨#[]⟩) (.string ⟨#[]⟩) (.slice none 0 0) := C4.below ⟨by go_simp, by go_simp, by go_simp, by go_simp, by go_simp, by go_simp, by go_simp, by go_simp⟩ hb3
    clear hK K hHeld hb3 B3
    have hHeld := hNew
    clear hNew r0_w2 r1_w2 r2_w2 r3_w2 r4_w2 r5_w2 r6_w2 r7_w2
    obtain ⟨r0_w3, r1_w3, r2_w3, r3_w3, r4_w3, r5_w3, r6_w3, r7_w3⟩ := Hrw3
    obtain ⟨t0_w3, t1_w3, t2_w3, t3_w3, t4_w3, t5_w3, t6_w3, t7_w3⟩ := Htw3
    have qr_w3 := lt_of_cell r0_w3
    have qt_w3 := lt_of_cell t0_w3
    try simp only [Act.put, List.setIfInBounds_toArray, List.set_cons_zero, List.set_cons_succ, List.getElem_toArray, List.getElem_cons_zero, List.getElem_cons_succ]
    refine wpAnyH_take (i := 9) (v := ?v9b) rfl (by kernel_rfl) (by kernel_rfl) (by kernel_rfl) (fun _ _ _ h => h) (Or.inl ⟨rfl, ?hy9b⟩) hHeld ?rest9b
    case hy9b => (intro w hSw; (try dsimp only at hSw); go_simp; try with_reducible rfl)
    try simp only [Act.put, List.setIfInBounds_toArray, List.set_cons_zero, List.set_cons_succ, List.getElem_toArray, List.getElem_cons_zero, List.getElem_cons_succ]
    refine wpAnyH_take (i := 10) (v := ?v10b) rfl (by kernel_rfl) (by kernel_rfl) (by kernel_rfl) (fun _ _ _ h => h) (Or.inl ⟨rfl, ?hy10b⟩) hHeld ?rest10b
    case hy10b => (intro w hSw; (try dsimp only at hSw); go_simp; try with_reducible rfl)
    try simp only [Act.put, List.setIfInBounds_toArray, List.set_cons_zero, List.set_cons_succ, List.getElem_toArray, List.getElem_cons_zero, List.getElem_cons_succ]
    refine wpAnyH_ready (rs := [11]) (by kernel_rfl) (by simp) (AllReadyH.cons rfl (fun K hK => ?_) AllReadyH.nil)
    go_simp
    have hsc4 : u ++ p.extract 1 4 = sc := by rw [hsc, hp4]
    rw [hsc4]
    refine hK.out _ _ (cell_other hHeld (by intro e; injection e with e1; omega)) (fun hNew => ?_)
    clear hK K hHeld hNew hsc4
    refine wpAnyH_done (by kernel_rfl) ?_ _
    have Hrw4 : C4 (w3.setCell ⟨w2.heap.size, 1, none⟩ (.string sc)) (w.heap.size) (.string ⟨#[]⟩) (.string ⟨#[]⟩) (.string ⟨#[]⟩) (.slice none 0 0) := ⟨by go_simp, by go_simp, by go_simp, by go_simp, by go_simp, by go_simp, by go_simp, by go_simp⟩
    have Htw4 : C4 (w3.setCell ⟨w2.heap.size, 1, none⟩ (.string sc)) (w2.heap.size) (.string x) (.string sc) (.string ⟨#[]⟩) (.slice none 0 0) := ⟨by go_simp, by go_simp, by go_simp, by go_simp, by go_simp, by go_simp, by go_simp, by go_simp⟩
    have D4 : Below w2.heap.size w2 (w3.setCell ⟨w2.heap.size, 1, none⟩ (.string sc)) := bel_set Bw3.out (Nat.le_refl _)
    have hq4 : w2.heap.size < (w3.setCell ⟨w2.heap.size, 1, none⟩ (.string sc)).heap.size := lt_of_cell Htw4.c0
    clear r0_w3 r1_w3 r2_w3 r3_w3 r4_w3 r5_w3 r6_w3 r7_w3 t0_w3 t1_w3 t2_w3 t3_w3 t4_w3 t5_w3 t6_w3 t7_w3 qr_w3 qt_w3 Bw3 hcat huz hez hez0 hsc hp4 z1
    generalize (w3.setCell ⟨w2.heap.size, 1, none⟩ (.string sc)) = w4 at *
    clear c0_w2 c1_w2 qr_w2
    obtain ⟨r0_w4, r1_w4, r2_w4, r3_w4, r4_w4, r5_w4, r6_w4, r7_w4⟩ := Hrw4
    have qr_w4 := lt_of_cell r0_w4
    obtain ⟨t0_w4, t1_w4, t2_w4, t3_w4, t4_w4, t5_w4, t6_w4, t7_w4⟩ := Htw4
    have qt_w4 := lt_of_cell t0_w4
    have DC : Below w2.heap.size w2 w4 := (by (repeat (first | with_reducible exact Below.refl _ _ | with_reducible refine bel_set ?_ ?_ | with_reducible refine bel_alloc ?_ ?_ | with_reducible refine Below.drew ?_ | with_reducible refine bel_drewN _ ?_ | with_reducible refine bel_call ?_ (by assumption) ?_)); all_goals (first | (simp; done) | omega | (simp; omega)))
    have SC : w2.heap.size < w4.heap.size := by simpa using qt_w4
    have HCL : Hid (∀ (j : Nat) z, ([] : List ByteArray)[j]? = some z → w4.cell? ⟨bk, 2 + j, none⟩ = some (.string z)) := Lib.hid (fun j z hz => by simp at hz)
    clear DC
    obtain ⟨bz, hbz⟩ : ∃ b, b = w4.heap.size := ⟨_, rfl⟩
    have HBZ := Lib.hid hbz
    have SCZ : w2.heap.size < bz := by rw [hbz]; exact SC
    have HSC := Lib.hid SCZ
    clear hbz SCZ SC
    go_wp2_with (at_builtin; refine wpList_append_many rfl _ _ rfl (ys := ([] : List ByteArray)) rfl rfl (OwnsS.nil _ bz) (.inl rfl) (by intro h; first | (cases h; done) | (split at h <;> cases h)) (by rw [HBZ.out]; exact Nat.le_refl _) (by first | (simp; done) | (simp; omega)) ?_; intro v' w5 ho hoff; have hb := (OwnsS.nil _ bz).grown hoff (by rw [HBZ.out]; exact Nat.le_refl _); rw [HBZ.out] at hb; rw [List.nil_append] at ho; obtain ⟨A, kc, rfl, _⟩ := ho.form; have Hrw5 : C4 w5 (w.heap.size) (.string ⟨#[]⟩) (.string ⟨#[]⟩) (.string ⟨#[]⟩) (.slice none 0 0) := C4.below ⟨by go_simp, by go_simp, by go_simp, by go_simp, by go_simp, by go_simp, by go_simp, by go_simp⟩ hb; have Htw5 : C4 w5 (w2.heap.size) (.string x) (.string sc) (.string ⟨#[]⟩) (.slice none 0 0) := C4.below ⟨by go_simp, by go_simp, by go_simp, by go_simp, by go_simp, by go_simp, by go_simp, by go_simp⟩ hb; have D5 : Below w2.heap.size w2 w5 := (by (repeat (first | with_reducible exact Below.refl _ _ | with_reducible refine bel_set ?_ ?_ | with_reducible refine bel_alloc ?_ ?_ | with_reducible refine Below.drew ?_ | with_reducible refine bel_drewN _ ?_ | with_reducible refine bel_call ?_ (by assumption) ?_)); all_goals (first | (simp; done) | omega | (simp; omega))); obtain ⟨hkc, hA⟩ := ho.caps; have HKM := Lib.hid ho.capM; have HST := Lib.hid (ho.set w2.heap.size 3 (.slice A 0 kc) HSC.out); have HA := Lib.hid hA; have HKC := Lib.hid hkc; clear hb ho hoff hA hkc HCL r0_w4 r1_w4 r2_w4 r3_w4 r4_w4 r5_w4 r6_w4 r7_w4 qr_w4 t0_w4 t1_w4 t2_w4 t3_w4 t4_w4 t5_w4 t6_w4 t7_w4 qt_w4 D4 hq4; obtain ⟨r0_w5, r1_w5, r2_w5, r3_w5, r4_w5, r5_w5, r6_w5, r7_w5⟩ := Hrw5; have qr_w5 := lt_of_cell r0_w5; obtain ⟨t0_w5, t1_w5, t2_w5, t3_w5, t4_w5, t5_w5, t6_w5, t7_w5⟩ := Htw5; have qt_w5 := lt_of_cell t0_w5)
    obtain ⟨E, hE⟩ : ∃ E, E = tagErr x.data.toList sc.data.toList (⟨#[]⟩ : ByteArray).data.toList (listsOf []) := ⟨_, rfl⟩
    have KC := Lib.hid (ref_fault x sc ⟨#[]⟩ A kc [] (w5.setCell ⟨w2.heap.size, 3, none⟩ (.slice A 0 kc)) (by omega) (by omega) (by decide) (by simp) (.inl rfl) (Nat.zero_le _) HKM.out)
    rw [← hE] at KC
    have HE := Lib.hid hE
    clear hE
    by_cases h0 : E = 0
    · subst h0
      refine (KC.out).mono ?_
      rintro e w6 ⟨rfl, hb⟩
      have Hrw6 : C4 w6 (w.heap.size) (.string ⟨#[]⟩) (.string ⟨#[]⟩) (.string ⟨#[]⟩) (.slice none 0 0) := C4.below ⟨by go_simp, by go_simp, by go_simp, by go_simp, by go_simp, by go_simp, by go_simp, by go_simp⟩ hb
      have Htw6 : C4 w6 (w2.heap.size) (.string x) (.string sc) (.string ⟨#[]⟩) (.slice A 0 kc) := C4.below ⟨by go_simp, by go_simp, by go_simp, by go_simp, by go_simp, by go_simp, by go_simp, by go_simp⟩ hb
      have D6 : Below w2.heap.size w2 w6 := (by (repeat (first | with_reducible exact Below.refl _ _ | with_reducible refine bel_set ?_ ?_ | with_reducible refine bel_alloc ?_ ?_ | with_reducible refine Below.drew ?_ | with_reducible refine bel_drewN _ ?_ | with_reducible refine bel_call ?_ (by assumption) ?_)); all_goals (first | (simp; done) | omega | (simp; omega)))
      have hbk := Lib.hid hb
      clear hb r0_w5 r1_w5 r2_w5 r3_w5 r4_w5 r5_w5 r6_w5 r7_w5 qr_w5 t0_w5 t1_w5 t2_w5 t3_w5 t4_w5 t5_w5 t6_w5 t7_w5 qt_w5 D5
      obtain ⟨r0_w6, r1_w6, r2_w6, r3_w6, r4_w6, r5_w6, r6_w6, r7_w6⟩ := Hrw6
      have qr_w6 := lt_of_cell r0_w6
      obtain ⟨t0_w6, t1_w6, t2_w6, t3_w6, t4_w6, t5_w6, t6_w6, t7_w6⟩ := Htw6
      have qt_w6 := lt_of_cell t0_w6
      have he0 := HE.out.symm
      have hlt := text_len he0
      obtain ⟨t, ht⟩ : ∃ t : ByteArray, t = ⟨(tagText x.data.toList sc.data.toList (⟨#[]⟩ : ByteArray).data.toList (listsOf [])).toArray⟩ := ⟨_, rfl⟩
      have htz : t.size ≤ 100 := by rw [← tsize, ht]; exact hlt
      have HST2 := Lib.hid (HST.out.below hbk.out)
      have KT := Lib.hid (ref_tag_text x sc ⟨#[]⟩ A kc [] w6 HST2.out.strs HA.out he0)
      rw [← ht] at KT
      obtain ⟨m, hm⟩ : ∃ m : ByteArray, lowerL t.data.toList = m.data.toList := ⟨⟨(lowerL t.data.toList).toArray⟩, rfl⟩
      have HMM := Lib.hid hm
      have HTT := Lib.hid ht
      clear hm ht hlt he0
      go_wp2_with fail
      clear hbk
      refine (KT.out).mono ?_
      rintro e w7 ⟨rfl, hb⟩
      have Hrw7 : C4 w7 (w.heap.size) (.string ⟨#[]⟩) (.string ⟨#[]⟩) (.string ⟨#[]⟩) (.slice none 0 0) := C4.below ⟨by go_simp, by go_simp, by go_simp, by go_simp, by go_simp, by go_simp, by go_simp, by go_simp⟩ hb
      have Htw7 : C4 w7 (w2.heap.size) (.string x) (.string sc) (.string ⟨#[]⟩) (.slice A 0 kc) := C4.below ⟨by go_simp, by go_simp, by go_simp, by go_simp, by go_simp, by go_simp, by go_simp, by go_simp⟩ hb
      have D7 : Below w2.heap.size w2 w7 := (by (repeat (first | with_reducible exact Below.refl _ _ | with_reducible refine bel_set ?_ ?_ | with_reducible refine bel_alloc ?_ ?_ | with_reducible refine Below.drew ?_ | with_reducible refine bel_drewN _ ?_ | with_reducible refine bel_call ?_ (by assumption) ?_)); all_goals (first | (simp; done) | omega | (simp; omega)))
      have hbk := Lib.hid hb
      clear hb r0_w6 r1_w6 r2_w6 r3_w6 r4_w6 r5_w6 r6_w6 r7_w6 qr_w6 t0_w6 t1_w6 t2_w6 t3_w6 t4_w6 t5_w6 t6_w6 t7_w6 qt_w6 D6
      obtain ⟨r0_w7, r1_w7, r2_w7, r3_w7, r4_w7, r5_w7, r6_w7, r7_w7⟩ := Hrw7
      have qr_w7 := lt_of_cell r0_w7
      obtain ⟨t0_w7, t1_w7, t2_w7, t3_w7, t4_w7, t5_w7, t6_w7, t7_w7⟩ := Htw7
      have qt_w7 := lt_of_cell t0_w7
      have HST3 := Lib.hid (HST2.out.below hbk.out)
      clear hbk
      go_wp2_with fail
      refine (rlow_call t m HMM.out (by omega) _).mono ?_
      rintro e w8 ⟨rfl, hb⟩
      have Hrw8 : C4 w8 (w.heap.size) (.string ⟨#[]⟩) (.string ⟨#[]⟩) (.string ⟨#[]⟩) (.slice none 0 0) := C4.below ⟨by go_simp, by go_simp, by go_simp, by go_simp, by go_simp, by go_simp, by go_simp, by go_simp⟩ hb
      have Htw8 : C4 w8 (w2.heap.size) (.string x) (.string sc) (.string ⟨#[]⟩) (.slice A 0 kc) := C4.below ⟨by go_simp, by go_simp, by go_simp, by go_simp, by go_simp, by go_simp, by go_simp, by go_simp⟩ hb
      have D8 : Below w2.heap.size w2 w8 := (by (repeat (first | with_reducible exact Below.refl _ _ | with_reducible refine bel_set ?_ ?_ | with_reducible refine bel_alloc ?_ ?_ | with_reducible refine Below.drew ?_ | with_reducible refine bel_drewN _ ?_ | with_reducible refine bel_call ?_ (by assumption) ?_)); all_goals (first | (simp; done) | omega | (simp; omega)))
      have hbk := Lib.hid hb
      clear hb r0_w7 r1_w7 r2_w7 r3_w7 r4_w7 r5_w7 r6_w7 r7_w7 qr_w7 t0_w7 t1_w7 t2_w7 t3_w7 t4_w7 t5_w7 t6_w7 t7_w7 qt_w7 D7
      obtain ⟨r0_w8, r1_w8, r2_w8, r3_w8, r4_w8, r5_w8, r6_w8, r7_w8⟩ := Hrw8
      have qr_w8 := lt_of_cell r0_w8
      obtain ⟨t0_w8, t1_w8, t2_w8, t3_w8, t4_w8, t5_w8, t6_w8, t7_w8⟩ := Htw8
      have qt_w8 := lt_of_cell t0_w8
      have HST4 := Lib.hid (HST3.out.below hbk.out)
      clear hbk
      go_wp2_with fail
      refine (rlow_call s L HL.out (by omega) _).mono ?_
      rintro e w9 ⟨rfl, hb⟩
      have Hrw9 : C4 w9 (w.heap.size) (.string ⟨#[]⟩) (.string ⟨#[]⟩) (.string ⟨#[]⟩) (.slice none 0 0) := C4.below ⟨by go_simp, by go_simp, by go_simp, by go_simp, by go_simp, by go_simp, by go_simp, by go_simp⟩ hb
      have Htw9 : C4 w9 (w2.heap.size) (.string x) (.string sc) (.string ⟨#[]⟩) (.slice A 0 kc) := C4.below ⟨by go_simp, by go_simp, by go_simp, by go_simp, by go_simp, by go_simp, by go_simp, by go_simp⟩ hb
      have D9 : Below w2.heap.size w2 w9 := (by (repeat (first | with_reducible exact Below.refl _ _ | with_reducible refine bel_set ?_ ?_ | with_reducible refine bel_alloc ?_ ?_ | with_reducible refine Below.drew ?_ | with_reducible refine bel_drewN _ ?_ | with_reducible refine bel_call ?_ (by assumption) ?_)); all_goals (first | (simp; done) | omega | (simp; omega)))
      have hbk := Lib.hid hb
      clear hb r0_w8 r1_w8 r2_w8 r3_w8 r4_w8 r5_w8 r6_w8 r7_w8 qr_w8 t0_w8 t1_w8 t2_w8 t3_w8 t4_w8 t5_w8 t6_w8 t7_w8 qt_w8 D8
      obtain ⟨r0_w9, r1_w9, r2_w9, r3_w9, r4_w9, r5_w9, r6_w9, r7_w9⟩ := Hrw9
      have qr_w9 := lt_of_cell r0_w9
      obtain ⟨t0_w9, t1_w9, t2_w9, t3_w9, t4_w9, t5_w9, t6_w9, t7_w9⟩ := Htw9
      have qt_w9 := lt_of_cell t0_w9
      have HST5 := Lib.hid (HST4.out.below hbk.out)
      clear hbk
      have hb1 := Bw1.out
      have hb2 := Bw2.out
      have b1 := hb1.size
      have b2 := hb2.size
      have hbD := hb2.trans (D9.mono hb2.size)
      cases hq : (m.toList == L.toList)
      · have hne : lowerL (tagText x.data.toList sc.data.toList (⟨#[]⟩ : ByteArray).data.toList (listsOf [])) ≠ lowerL s.data.toList := fun h => by
          have h2 := HMM.out
          rw [HTT.out] at h2
          rw [h2, HL.out] at h
          rw [Lib.toList_data, Lib.toList_data, h] at hq
          simp at hq
        have HNE := Lib.hid hne
        clear hne
        have hq2 : (m.toList != L.toList) = true := by rw [bne, hq]; rfl
        go_wp2_with fail
        exact bodyPost_ret (v := .tuple #[tagV ⟨#[]⟩ ⟨#[]⟩ ⟨#[]⟩ none 0 0, .bool false]) (by simp [results, Tryd.results19, go_sem, r0_w9, r1_w9, r2_w9, r3_w9, World.cell?_setCell_same, World.cell?_setCell_other]) rfl ⟨.inr ⟨isTagR_no2 HT.out HNE.out, rfl⟩, (by (repeat (first | with_reducible exact Below.refl _ _ | with_reducible refine bel_set ?_ ?_ | with_reducible refine bel_alloc ?_ ?_ | with_reducible refine Below.drew ?_ | with_reducible refine bel_drewN _ ?_ | with_reducible refine bel_call ?_ (by assumption) ?_)); all_goals (first | (simp; done) | omega | (simp; omega)))⟩
      · have hyes : isTagR s.data.toList = true := isTagR_yes HT.out HE.out.symm (by
          have h2 := HMM.out
          rw [HTT.out] at h2
          have h3 := eq_of_beq hq
          rw [Lib.toList_data, Lib.toList_data] at h3
          rw [HL.out, ← h3]
          exact h2)
        have HYES := Lib.hid hyes
        clear hyes
        have hq2 : m.toList = L.toList := by simpa using hq
        go_wp2_with fail
        refine bodyPost_ret (v := .tuple #[tagV x sc ⟨#[]⟩ A ([] : List ByteArray).length kc, .bool true]) (by simp [results, Tryd.results19, go_sem, r0_w9, r1_w9, r2_w9, r3_w9, World.cell?_setCell_same, World.cell?_setCell_other]) rfl ⟨.inl ⟨HYES.out, x, sc, ⟨#[]⟩, A, kc, [], rfl, HT.out, ?_, ?_, ?_⟩, (by (repeat (first | with_reducible exact Below.refl _ _ | with_reducible refine bel_set ?_ ?_ | with_reducible refine bel_alloc ?_ ?_ | with_reducible refine Below.drew ?_ | with_reducible refine bel_drewN _ ?_ | with_reducible refine bel_call ?_ (by assumption) ?_)); all_goals (first | (simp; done) | omega | (simp; omega)))⟩
        · have hl : w.heap.size < bz := by have := HSC.out; omega
          exact ((((HST5.out.set _ _ _ hl).set _ _ _ hl).set _ _ _ hl).set _ _ _ hl).strs
        · exact HKC.out
        · exact HA.out
    · have E0 : (E != 0) = true := bne_iff_ne.2 h0
      have HNE : Hid (tagErr x.data.toList sc.data.toList (⟨#[]⟩ : ByteArray).data.toList (listsOf []) ≠ 0) := Lib.hid (fun h => h0 (HE.out.trans h))
      clear h0 HE
      refine (KC.out).mono ?_
      rintro e w6 ⟨rfl, hb⟩
      have Hrw6 : C4 w6 (w.heap.size) (.string ⟨#[]⟩) (.string ⟨#[]⟩) (.string ⟨#[]⟩) (.slice none 0 0) := C4.below ⟨by go_simp, by go_simp, by go_simp, by go_simp, by go_simp, by go_simp, by go_simp, by go_simp⟩ hb
      have Htw6 : C4 w6 (w2.heap.size) (.string x) (.string sc) (.string ⟨#[]⟩) (.slice A 0 kc) := C4.below ⟨by go_simp, by go_simp, by go_simp, by go_simp, by go_simp, by go_simp, by go_simp, by go_simp⟩ hb
      have D6 : Below w2.heap.size w2 w6 := (by (repeat (first | with_reducible exact Below.refl _ _ | with_reducible refine bel_set ?_ ?_ | with_reducible refine bel_alloc ?_ ?_ | with_reducible refine Below.drew ?_ | with_reducible refine bel_drewN _ ?_ | with_reducible refine bel_call ?_ (by assumption) ?_)); all_goals (first | (simp; done) | omega | (simp; omega)))
      clear hb r0_w5 r1_w5 r2_w5 r3_w5 r4_w5 r5_w5 r6_w5 r7_w5 qr_w5 t0_w5 t1_w5 t2_w5 t3_w5 t4_w5 t5_w5 t6_w5 t7_w5 qt_w5 D5
      obtain ⟨r0_w6, r1_w6, r2_w6, r3_w6, r4_w6, r5_w6, r6_w6, r7_w6⟩ := Hrw6
      have qr_w6 := lt_of_cell r0_w6
      obtain ⟨t0_w6, t1_w6, t2_w6, t3_w6, t4_w6, t5_w6, t6_w6, t7_w6⟩ := Htw6
      have qt_w6 := lt_of_cell t0_w6
      have hb1 := Bw1.out
      have hb2 := Bw2.out
      have b1 := hb1.size
      have b2 := hb2.size
      have hbD := hb2.trans (D6.mono hb2.size)
      go_wp2_with fail
      exact bodyPost_ret (v := .tuple #[tagV ⟨#[]⟩ ⟨#[]⟩ ⟨#[]⟩ none 0 0, .bool false]) (by simp [results, Tryd.results19, go_sem, r0_w6, r1_w6, r2_w6, r3_w6, World.cell?_setCell_same, World.cell?_setCell_other]) rfl ⟨.inr ⟨isTagR_no1 HT.out HNE.out, rfl⟩, (by (repeat (first | with_reducible exact Below.refl _ _ | with_reducible refine bel_set ?_ ?_ | with_reducible refine bel_alloc ?_ ?_ | with_reducible refine Below.drew ?_ | with_reducible refine bel_drewN _ ?_ | with_reducible refine bel_call ?_ (by assumption) ?_)); all_goals (first | (simp; done) | omega | (simp; omega)))⟩
end Go.Proofs.YtnhlnhmjnnopaaaDoor

/- linguisterref1.TagOf: way 2. -/
namespace Go.Proofs.YtnhlnhmjnnopaaaDoor
open Go.RowKit

set_option maxHeartbeats 4000000 in
set_option maxRecDepth 100000 in
theorem tagof_way2 (s L x p q : ByteArray) (w : World) (hM : MaxL w) (hs : s.size ≤ 1000000000) (hL : lowerL s.data.toList = L.data.toList) (hps : listsOf (x :: p :: q :: []) = splitD L.data.toList) (hp : p.size = 4) (hq : q.size < 4) :
    Calls Tryd.prog 19 #[.string s] w fun e w' => TagOut s e w' ∧ Below w.heap.size w w' := by
  obtain ⟨hmade, hsz, hcnt⟩ := made_isR hL hps
  have hLs : L.size = s.size := by rw [← tsize, ← tsize, ← hL]; unfold lowerL; simp
  have hp4 : p.size = 4 := hp
  obtain ⟨u, hu⟩ : ∃ u : ByteArray, upperL (p.extract 0 1).data.toList = u.data.toList := ⟨⟨(upperL (p.extract 0 1).data.toList).toArray⟩, rfl⟩
  have huz : u.size = 1 := by rw [← tsize, ← hu, upper_len, Lib.extract_from_zero, List.length_take, tsize]; omega
  have hez : (p.extract 1 p.size).size ≤ 4 := by rw [ByteArray.size_extract]; omega
  have hez0 : (p.extract 0 1).size ≤ 9223372036854775807 := by rw [ByteArray.size_extract]; omega
  obtain ⟨sc, hsc, hcat⟩ := add_let u (p.extract 1 p.size) (by omega)
  have hsc2 : sc.data.toList = upperL (p.data.toList.take 1) ++ p.data.toList.drop 1 := by rw [hsc, ByteArray.data_append, Array.toList_append, ← hu, Lib.extract_from_zero, Lib.extract_to_end]
  have hscz : sc.size ≤ 1000000000 := by rw [← tsize, hsc2, List.length_append, upper_len, ← List.length_append, List.take_append_drop, tsize]; omega
  obtain ⟨g, hg⟩ : ∃ g : ByteArray, upperL q.data.toList = g.data.toList := ⟨⟨(upperL q.data.toList).toArray⟩, rfl⟩
  have hgz : g.size ≤ 1000000000 := by have h := hsz q (by simp); rw [← tsize, ← hg, upper_len, tsize]; omega
  have hT : madeR s.data.toList = ⟨x.data.toList, sc.data.toList, g.data.toList, listsOf []⟩ := by
    rw [hmade]
    simp [listsOf, List.map_cons, List.map_nil, scrR, regR, tsize, hp, hsc2, hg, hq]
  have HT := Lib.hid hT
  have zx : x.size ≤ 1000000000 := by have := hsz x (by simp); omega
  have zp : p.size ≤ 1000000000 := by have := hsz p (by simp); omega
  have zq : q.size ≤ 1000000000 := by have := hsz q (by simp); omega
  have HPS := Lib.hid hps
  have HL := Lib.hid hL
  have HM := Lib.hid hM
  have HU := Lib.hid hu
  have HP := Lib.hid hp
  have HG := Lib.hid hg
  have HQ := Lib.hid hq
  clear hmade hsz hcnt hT hps hL hM hu hp hsc2 hg hq
  go_enter Tryd.func19, Tryd.ntmps19
  go_wp2_with fail
  refine (rlow_call s L HL.out (by omega) _).mono ?_
  rintro e w1 ⟨rfl, hb1⟩
  have Hrw1 : C4 w1 (w.heap.size) (.string ⟨#[]⟩) (.string ⟨#[]⟩) (.string ⟨#[]⟩) (.slice none 0 0) := C4.below ⟨by go_simp, by go_simp, by go_simp, by go_simp, by go_simp, by go_simp, by go_simp, by go_simp⟩ hb1
  have Bw1 := Lib.hid hb1
  obtain ⟨r0_w1, r1_w1, r2_w1, r3_w1, r4_w1, r5_w1, r6_w1, r7_w1⟩ := Hrw1
  have qr_w1 := lt_of_cell r0_w1
  have s1 : w.heap.size < w1.heap.size := qr_w1
  go_wp2_with fail
  refine (cut_call L x _ HPS.out _ (by omega)).mono ?_
  rintro e w2 ⟨bk, cd, rfl, hcd, hbk0, hcp, hb2⟩
  have HCP := Lib.hid hcp
  have c0_w2 : w2.cell? ⟨bk, 0, none⟩ = some (.string x) := hcp 0 x rfl
  have c1_w2 : w2.cell? ⟨bk, 1, none⟩ = some (.string p) := hcp 1 p rfl
  have c2_w2 : w2.cell? ⟨bk, 2, none⟩ = some (.string q) := hcp 2 q rfl
  have Hrw2 : C4 w2 (w.heap.size) (.string ⟨#[]⟩) (.string ⟨#[]⟩) (.string ⟨#[]⟩) (.slice none 0 0) := C4.below ⟨by go_simp, by go_simp, by go_simp, by go_simp, by go_simp, by go_simp, by go_simp, by go_simp⟩ hb2
  have Bw2 := Lib.hid hb2
  clear hcp hb2 r0_w1 r1_w1 r2_w1 r3_w1 r4_w1 r5_w1 r6_w1 r7_w1 qr_w1
  obtain ⟨r0_w2, r1_w2, r2_w2, r3_w2, r4_w2, r5_w2, r6_w2, r7_w2⟩ := Hrw2
  have qr_w2 := lt_of_cell r0_w2
  have qc_w2 := lt_of_cell c0_w2
  simp only [List.length_cons, List.length_nil, Nat.zero_add] at hcd ⊢
  have hbk1 : w.heap.size < bk := by omega
  have hcd2 : 3 ≤ cd := by omega
  clear hcd hbk0
  have ncd1 : ¬ cd = 1 := by omega
  have ncd2 : ¬ cd - 1 = 1 := by omega
  by_cases hlast : cd - 1 - 1 = 1
  · have tp : ((p.size : Int) == 4) = true := by rw [hp4]; rfl
    have tq : (q.size : Int) < 4 := by have := HQ.out; omega
    go_wp2_with fail
    have z1 : (1 : Int) ≤ (p.size : Int) := by omega
    refine wp_region_held_drew (S := fun w' => w'.cell? ⟨bk, 1, none⟩ = some (.string p)) (by kernel_rfl) ?_ (fun hHeld => ?_)
    · (try dsimp only); go_simp
    refine wpAnyH_take (i := 0) (v := ?v1) rfl (by kernel_rfl) (by kernel_rfl) (by kernel_rfl) (fun _ _ _ h => h) (Or.inl ⟨rfl, ?hy1⟩) hHeld ?rest1
    case hy1 => (intro w hSw; (try dsimp only at hSw); go_simp; try with_reducible rfl)
    try simp only [Act.put, List.setIfInBounds_toArray, List.set_cons_zero, List.set_cons_succ, List.getElem_toArray, List.getElem_cons_zero, List.getElem_cons_succ]
    refine wpAnyH_take (i := 1) (v := ?v2) rfl (by kernel_rfl) (by kernel_rfl) (by kernel_rfl) (fun _ _ _ h => h) (Or.inl ⟨rfl, ?hy2⟩) hHeld ?rest2
    case hy2 => (intro w hSw; (try dsimp only at hSw); go_simp; try with_reducible rfl)
    try simp only [Act.put, List.setIfInBounds_toArray, List.set_cons_zero, List.set_cons_succ, List.getElem_toArray, List.getElem_cons_zero, List.getElem_cons_succ]
    refine wpAnyH_take (i := 2) (v := ?v3) rfl (by kernel_rfl) (by kernel_rfl) (by kernel_rfl) (fun _ _ _ h => h) (Or.inl ⟨rfl, ?hy3⟩) hHeld ?rest3
    case hy3 => (intro w hSw; (try dsimp only at hSw); go_simp; try with_reducible rfl)
    try simp only [Act.put, List.setIfInBounds_toArray, List.set_cons_zero, List.set_cons_succ, List.getElem_toArray, List.getElem_cons_zero, List.getElem_cons_succ]
    refine wpAnyH_take (i := 3) (v := ?v4) rfl (by kernel_rfl) (by kernel_rfl) (by kernel_rfl) (fun _ _ _ h => h) (Or.inl ⟨rfl, ?hy4⟩) hHeld ?rest4
    case hy4 => (intro w hSw; (try dsimp only at hSw); go_simp; try with_reducible rfl)
    try simp only [Act.put, List.setIfInBounds_toArray, List.set_cons_zero, List.set_cons_succ, List.getElem_toArray, List.getElem_cons_zero, List.getElem_cons_succ]
    refine wpAnyH_take (i := 5) (v := ?v5) rfl (by kernel_rfl) (by kernel_rfl) (by kernel_rfl) (fun _ _ _ h => h) (Or.inl ⟨rfl, ?hy5⟩) hHeld ?rest5
    case hy5 => (intro w hSw; (try dsimp only at hSw); go_simp; try with_reducible rfl)
    try simp only [Act.put, List.setIfInBounds_toArray, List.set_cons_zero, List.set_cons_succ, List.getElem_toArray, List.getElem_cons_zero, List.getElem_cons_succ]
    refine wpAnyH_take (i := 6) (v := ?v6) rfl (by kernel_rfl) (by kernel_rfl) (by kernel_rfl) (fun _ _ _ h => h) (Or.inl ⟨rfl, ?hy6⟩) hHeld ?rest6
    case hy6 => (intro w hSw; (try dsimp only at hSw); go_simp; try with_reducible rfl)
    try simp only [Act.put, List.setIfInBounds_toArray, List.set_cons_zero, List.set_cons_succ, List.getElem_toArray, List.getElem_cons_zero, List.getElem_cons_succ]
    refine wpAnyH_take (i := 7) (v := ?v7) rfl (by kernel_rfl) (by kernel_rfl) (by kernel_rfl) (fun _ _ _ h => h) (Or.inl ⟨rfl, ?hy7⟩) hHeld ?rest7
    case hy7 => (intro w hSw; (try dsimp only at hSw); go_simp; try with_reducible rfl)
    try simp only [Act.put, List.setIfInBounds_toArray, List.set_cons_zero, List.set_cons_succ, List.getElem_toArray, List.getElem_cons_zero, List.getElem_cons_succ]
    refine wpAnyH_take (i := 8) (v := ?v8) rfl (by kernel_rfl) (by kernel_rfl) (by kernel_rfl) (fun _ _ _ h => h) (Or.inl ⟨rfl, ?hy8⟩) hHeld ?rest8
    case hy8 => (intro w hSw; (try dsimp only at hSw); go_simp; try with_reducible rfl)
    try simp only [Act.put, List.setIfInBounds_toArray, List.set_cons_zero, List.set_cons_succ, List.getElem_toArray, List.getElem_cons_zero, List.getElem_cons_succ]
    refine wpAnyH_ready (rs := [4]) (by kernel_rfl) (by simp) (AllReadyH.cons rfl (fun K hK => ?_) AllReadyH.nil)
    go_simp
    go_at_call 45; refine (rup_call (p.extract 0 1) u HU.out hez0 _).mono ?_; rintro e w3 ⟨rfl, hb3⟩
    try dsimp only
    refine hK.out _ _ (carry hb3 (by go_simp)) (fun hNew => ?_)
    have B3 : Below w2.heap.size w2 w3 := Below.trans ((Below.refl w2.heap.size w2).alloc (Nat.le_refl _) (.cells #[.string x, .string ⟨#[]⟩, .string ⟨#[]⟩, .slice none 0 0] 47)).drew (hb3.mono (show w2.heap.size ≤ _ by simp))
    have Bw3 := Lib.hid B3
    have Hrw3 : C4 w3 (w.heap.size) (.string ⟨#[]⟩) (.string ⟨#[]⟩) (.string ⟨#[]⟩) (.slice none 0 0) := C4.below ⟨by go_simp, by go_simp, by go_simp, by go_simp, by go_simp, by go_simp, by go_simp, by go_simp⟩ hb3
    have Htw3 : C4 w3 (w2.heap.size) (.string x) (.string ⟨#[]⟩) (.string ⟨#[]⟩) (.slice none 0 0) := C4.below ⟨by go_simp, by go_simp, by go_simp, by go_simp, by go_simp, by go_simp, by go_simp, by go_simp⟩ hb3
    clear hK K hHeld hb3 B3
    have hHeld := hNew
    clear hNew r0_w2 r1_w2 r2_w2 r3_w2 r4_w2 r5_w2 r6_w2 r7_w2
    obtain ⟨r0_w3, r1_w3, r2_w3, r3_w3, r4_w3, r5_w3, r6_w3, r7_w3⟩ := Hrw3
    obtain ⟨t0_w3, t1_w3, t2_w3, t3_w3, t4_w3, t5_w3, t6_w3, t7_w3⟩ := Htw3
    have qr_w3 := lt_of_cell r0_w3
    have qt_w3 := lt_of_cell t0_w3
    try simp only [Act.put, List.setIfInBounds_toArray, List.set_cons_zero, List.set_cons_succ, List.getElem_toArray, List.getElem_cons_zero, List.getElem_cons_succ]
    refine wpAnyH_take (i := 9) (v := ?v9) rfl (by kernel_rfl) (by kernel_rfl) (by kernel_rfl) (fun _ _ _ h => h) (Or.inl ⟨rfl, ?hy9⟩) hHeld ?rest9
    case hy9 => (intro w hSw; (try dsimp only at hSw); go_simp; try with_reducible rfl)
    try simp only [Act.put, List.setIfInBounds_toArray, List.set_cons_zero, List.set_cons_succ, List.getElem_toArray, List.getElem_cons_zero, List.getElem_cons_succ]
    refine wpAnyH_take (i := 10) (v := ?v10) rfl (by kernel_rfl) (by kernel_rfl) (by kernel_rfl) (fun _ _ _ h => h) (Or.inl ⟨rfl, ?hy10⟩) hHeld ?rest10
    case hy10 => (intro w hSw; (try dsimp only at hSw); go_simp; try with_reducible rfl)
    try simp only [Act.put, List.setIfInBounds_toArray, List.set_cons_zero, List.set_cons_succ, List.getElem_toArray, List.getElem_cons_zero, List.getElem_cons_succ]
    refine wpAnyH_ready (rs := [11]) (by kernel_rfl) (by simp) (AllReadyH.cons rfl (fun K hK => ?_) AllReadyH.nil)
    go_simp
    have hsc4 : u ++ p.extract 1 4 = sc := by rw [hsc, hp4]
    rw [hsc4]
    refine hK.out _ _ (cell_other hHeld (by intro e; injection e with e1; omega)) (fun hNew => ?_)
    clear hK K hHeld hNew hsc4
    refine wpAnyH_done (by kernel_rfl) ?_ _
    have Hrw4 : C4 (w3.setCell ⟨w2.heap.size, 1, none⟩ (.string sc)) (w.heap.size) (.string ⟨#[]⟩) (.string ⟨#[]⟩) (.string ⟨#[]⟩) (.slice none 0 0) := ⟨by go_simp, by go_simp, by go_simp, by go_simp, by go_simp, by go_simp, by go_simp, by go_simp⟩
    have Htw4 : C4 (w3.setCell ⟨w2.heap.size, 1, none⟩ (.string sc)) (w2.heap.size) (.string x) (.string sc) (.string ⟨#[]⟩) (.slice none 0 0) := ⟨by go_simp, by go_simp, by go_simp, by go_simp, by go_simp, by go_simp, by go_simp, by go_simp⟩
    have D4 : Below w2.heap.size w2 (w3.setCell ⟨w2.heap.size, 1, none⟩ (.string sc)) := bel_set Bw3.out (Nat.le_refl _)
    have hq4 : w2.heap.size < (w3.setCell ⟨w2.heap.size, 1, none⟩ (.string sc)).heap.size := lt_of_cell Htw4.c0
    clear r0_w3 r1_w3 r2_w3 r3_w3 r4_w3 r5_w3 r6_w3 r7_w3 t0_w3 t1_w3 t2_w3 t3_w3 t4_w3 t5_w3 t6_w3 t7_w3 qr_w3 qt_w3 Bw3 hcat huz hez hez0 hsc hp4 z1
    generalize (w3.setCell ⟨w2.heap.size, 1, none⟩ (.string sc)) = w4 at *
    have c2_w4 : w4.cell? ⟨bk, 2, none⟩ = some (.string q) := carry D4 c2_w2
    clear c0_w2 c1_w2 c2_w2 qr_w2
    obtain ⟨r0_w4, r1_w4, r2_w4, r3_w4, r4_w4, r5_w4, r6_w4, r7_w4⟩ := Hrw4
    have qr_w4 := lt_of_cell r0_w4
    obtain ⟨t0_w4, t1_w4, t2_w4, t3_w4, t4_w4, t5_w4, t6_w4, t7_w4⟩ := Htw4
    have qt_w4 := lt_of_cell t0_w4
    go_wp2_with fail
    refine (rup_call q g HG.out (by omega) _).mono ?_
    rintro e w5 ⟨rfl, hb⟩
    have Hrw5 : C4 w5 (w.heap.size) (.string ⟨#[]⟩) (.string ⟨#[]⟩) (.string ⟨#[]⟩) (.slice none 0 0) := C4.below ⟨by go_simp, by go_simp, by go_simp, by go_simp, by go_simp, by go_simp, by go_simp, by go_simp⟩ hb
    have Htw5 : C4 w5 (w2.heap.size) (.string x) (.string sc) (.string ⟨#[]⟩) (.slice none 0 0) := C4.below ⟨by go_simp, by go_simp, by go_simp, by go_simp, by go_simp, by go_simp, by go_simp, by go_simp⟩ hb
    have c2_w5 : w5.cell? ⟨bk, 2, none⟩ = some (.string q) := carry hb (by go_simp)
    have D5 : Below w2.heap.size w2 w5 := (by (repeat (first | with_reducible exact Below.refl _ _ | with_reducible refine bel_set ?_ ?_ | with_reducible refine bel_alloc ?_ ?_ | with_reducible refine Below.drew ?_ | with_reducible refine bel_drewN _ ?_ | with_reducible refine bel_call ?_ (by assumption) ?_)); all_goals (first | (simp; done) | omega | (simp; omega)))
    clear hb c2_w4 r0_w4 r1_w4 r2_w4 r3_w4 r4_w4 r5_w4 r6_w4 r7_w4 qr_w4 t0_w4 t1_w4 t2_w4 t3_w4 t4_w4 t5_w4 t6_w4 t7_w4 qt_w4 D4 hq4
    obtain ⟨r0_w5, r1_w5, r2_w5, r3_w5, r4_w5, r5_w5, r6_w5, r7_w5⟩ := Hrw5
    have qr_w5 := lt_of_cell r0_w5
    obtain ⟨t0_w5, t1_w5, t2_w5, t3_w5, t4_w5, t5_w5, t6_w5, t7_w5⟩ := Htw5
    have qt_w5 := lt_of_cell t0_w5
    have DC : Below w2.heap.size w2 (w5.setCell ⟨w2.heap.size, 2, none⟩ (.string g)) := (by (repeat (first | with_reducible exact Below.refl _ _ | with_reducible refine bel_set ?_ ?_ | with_reducible refine bel_alloc ?_ ?_ | with_reducible refine Below.drew ?_ | with_reducible refine bel_drewN _ ?_ | with_reducible refine bel_call ?_ (by assumption) ?_)); all_goals (first | (simp; done) | omega | (simp; omega)))
    have SC : w2.heap.size < (w5.setCell ⟨w2.heap.size, 2, none⟩ (.string g)).heap.size := by simpa using qt_w5
    have HCL : Hid (∀ (j : Nat) z, ([] : List ByteArray)[j]? = some z → (w5.setCell ⟨w2.heap.size, 2, none⟩ (.string g)).cell? ⟨bk, 3 + j, none⟩ = some (.string z)) := Lib.hid (fun j z hz => by simp at hz)
    clear DC
    obtain ⟨bz, hbz⟩ : ∃ b, b = (w5.setCell ⟨w2.heap.size, 2, none⟩ (.string g)).heap.size := ⟨_, rfl⟩
    have HBZ := Lib.hid hbz
    have SCZ : w2.heap.size < bz := by rw [hbz]; exact SC
    have HSC := Lib.hid SCZ
    clear hbz SCZ SC
    go_wp2_with (at_builtin; refine wpList_append_many rfl _ _ rfl (ys := ([] : List ByteArray)) rfl rfl (OwnsS.nil _ bz) (.inl rfl) (by intro h; first | (cases h; done) | (split at h <;> cases h)) (by rw [HBZ.out]; exact Nat.le_refl _) (by first | (simp; done) | (simp; omega)) ?_; intro v' w6 ho hoff; have hb := (OwnsS.nil _ bz).grown hoff (by rw [HBZ.out]; exact Nat.le_refl _); rw [HBZ.out] at hb; rw [List.nil_append] at ho; obtain ⟨A, kc, rfl, _⟩ := ho.form; have Hrw6 : C4 w6 (w.heap.size) (.string ⟨#[]⟩) (.string ⟨#[]⟩) (.string ⟨#[]⟩) (.slice none 0 0) := C4.below ⟨by go_simp, by go_simp, by go_simp, by go_simp, by go_simp, by go_simp, by go_simp, by go_simp⟩ hb; have Htw6 : C4 w6 (w2.heap.size) (.string x) (.string sc) (.string g) (.slice none 0 0) := C4.below ⟨by go_simp, by go_simp, by go_simp, by go_simp, by go_simp, by go_simp, by go_simp, by go_simp⟩ hb; have D6 : Below w2.heap.size w2 w6 := (by (repeat (first | with_reducible exact Below.refl _ _ | with_reducible refine bel_set ?_ ?_ | with_reducible refine bel_alloc ?_ ?_ | with_reducible refine Below.drew ?_ | with_reducible refine bel_drewN _ ?_ | with_reducible refine bel_call ?_ (by assumption) ?_)); all_goals (first | (simp; done) | omega | (simp; omega))); obtain ⟨hkc, hA⟩ := ho.caps; have HKM := Lib.hid ho.capM; have HST := Lib.hid (ho.set w2.heap.size 3 (.slice A 0 kc) HSC.out); have HA := Lib.hid hA; have HKC := Lib.hid hkc; clear hb ho hoff hA hkc HCL c2_w5 r0_w5 r1_w5 r2_w5 r3_w5 r4_w5 r5_w5 r6_w5 r7_w5 qr_w5 t0_w5 t1_w5 t2_w5 t3_w5 t4_w5 t5_w5 t6_w5 t7_w5 qt_w5 D5; obtain ⟨r0_w6, r1_w6, r2_w6, r3_w6, r4_w6, r5_w6, r6_w6, r7_w6⟩ := Hrw6; have qr_w6 := lt_of_cell r0_w6; obtain ⟨t0_w6, t1_w6, t2_w6, t3_w6, t4_w6, t5_w6, t6_w6, t7_w6⟩ := Htw6; have qt_w6 := lt_of_cell t0_w6)
    obtain ⟨E, hE⟩ : ∃ E, E = tagErr x.data.toList sc.data.toList g.data.toList (listsOf []) := ⟨_, rfl⟩
    have KC := Lib.hid (ref_fault x sc g A kc [] (w6.setCell ⟨w2.heap.size, 3, none⟩ (.slice A 0 kc)) (by omega) (by omega) (by omega) (by simp) (.inl rfl) (Nat.zero_le _) HKM.out)
    rw [← hE] at KC
    have HE := Lib.hid hE
    clear hE
    by_cases h0 : E = 0
    · subst h0
      refine (KC.out).mono ?_
      rintro e w7 ⟨rfl, hb⟩
      have Hrw7 : C4 w7 (w.heap.size) (.string ⟨#[]⟩) (.string ⟨#[]⟩) (.string ⟨#[]⟩) (.slice none 0 0) := C4.below ⟨by go_simp, by go_simp, by go_simp, by go_simp, by go_simp, by go_simp, by go_simp, by go_simp⟩ hb
      have Htw7 : C4 w7 (w2.heap.size) (.string x) (.string sc) (.string g) (.slice A 0 kc) := C4.below ⟨by go_simp, by go_simp, by go_simp, by go_simp, by go_simp, by go_simp, by go_simp, by go_simp⟩ hb
      have D7 : Below w2.heap.size w2 w7 := (by (repeat (first | with_reducible exact Below.refl _ _ | with_reducible refine bel_set ?_ ?_ | with_reducible refine bel_alloc ?_ ?_ | with_reducible refine Below.drew ?_ | with_reducible refine bel_drewN _ ?_ | with_reducible refine bel_call ?_ (by assumption) ?_)); all_goals (first | (simp; done) | omega | (simp; omega)))
      have hbk := Lib.hid hb
      clear hb r0_w6 r1_w6 r2_w6 r3_w6 r4_w6 r5_w6 r6_w6 r7_w6 qr_w6 t0_w6 t1_w6 t2_w6 t3_w6 t4_w6 t5_w6 t6_w6 t7_w6 qt_w6 D6
      obtain ⟨r0_w7, r1_w7, r2_w7, r3_w7, r4_w7, r5_w7, r6_w7, r7_w7⟩ := Hrw7
      have qr_w7 := lt_of_cell r0_w7
      obtain ⟨t0_w7, t1_w7, t2_w7, t3_w7, t4_w7, t5_w7, t6_w7, t7_w7⟩ := Htw7
      have qt_w7 := lt_of_cell t0_w7
      have he0 := HE.out.symm
      have hlt := text_len he0
      obtain ⟨t, ht⟩ : ∃ t : ByteArray, t = ⟨(tagText x.data.toList sc.data.toList g.data.toList (listsOf [])).toArray⟩ := ⟨_, rfl⟩
      have htz : t.size ≤ 100 := by rw [← tsize, ht]; exact hlt
      have HST2 := Lib.hid (HST.out.below hbk.out)
      have KT := Lib.hid (ref_tag_text x sc g A kc [] w7 HST2.out.strs HA.out he0)
      rw [← ht] at KT
      obtain ⟨m, hm⟩ : ∃ m : ByteArray, lowerL t.data.toList = m.data.toList := ⟨⟨(lowerL t.data.toList).toArray⟩, rfl⟩
      have HMM := Lib.hid hm
      have HTT := Lib.hid ht
      clear hm ht hlt he0
      go_wp2_with fail
      clear hbk
      refine (KT.out).mono ?_
      rintro e w8 ⟨rfl, hb⟩
      have Hrw8 : C4 w8 (w.heap.size) (.string ⟨#[]⟩) (.string ⟨#[]⟩) (.string ⟨#[]⟩) (.slice none 0 0) := C4.below ⟨by go_simp, by go_simp, by go_simp, by go_simp, by go_simp, by go_simp, by go_simp, by go_simp⟩ hb
      have Htw8 : C4 w8 (w2.heap.size) (.string x) (.string sc) (.string g) (.slice A 0 kc) := C4.below ⟨by go_simp, by go_simp, by go_simp, by go_simp, by go_simp, by go_simp, by go_simp, by go_simp⟩ hb
      have D8 : Below w2.heap.size w2 w8 := (by (repeat (first | with_reducible exact Below.refl _ _ | with_reducible refine bel_set ?_ ?_ | with_reducible refine bel_alloc ?_ ?_ | with_reducible refine Below.drew ?_ | with_reducible refine bel_drewN _ ?_ | with_reducible refine bel_call ?_ (by assumption) ?_)); all_goals (first | (simp; done) | omega | (simp; omega)))
      have hbk := Lib.hid hb
      clear hb r0_w7 r1_w7 r2_w7 r3_w7 r4_w7 r5_w7 r6_w7 r7_w7 qr_w7 t0_w7 t1_w7 t2_w7 t3_w7 t4_w7 t5_w7 t6_w7 t7_w7 qt_w7 D7
      obtain ⟨r0_w8, r1_w8, r2_w8, r3_w8, r4_w8, r5_w8, r6_w8, r7_w8⟩ := Hrw8
      have qr_w8 := lt_of_cell r0_w8
      obtain ⟨t0_w8, t1_w8, t2_w8, t3_w8, t4_w8, t5_w8, t6_w8, t7_w8⟩ := Htw8
      have qt_w8 := lt_of_cell t0_w8
      have HST3 := Lib.hid (HST2.out.below hbk.out)
      clear hbk
      go_wp2_with fail
      refine (rlow_call t m HMM.out (by omega) _).mono ?_
      rintro e w9 ⟨rfl, hb⟩
      have Hrw9 : C4 w9 (w.heap.size) (.string ⟨#[]⟩) (.string ⟨#[]⟩) (.string ⟨#[]⟩) (.slice none 0 0) := C4.below ⟨by go_simp, by go_simp, by go_simp, by go_simp, by go_simp, by go_simp, by go_simp, by go_simp⟩ hb
      have Htw9 : C4 w9 (w2.heap.size) (.string x) (.string sc) (.string g) (.slice A 0 kc) := C4.below ⟨by go_simp, by go_simp, by go_simp, by go_simp, by go_simp, by go_simp, by go_simp, by go_simp⟩ hb
      have D9 : Below w2.heap.size w2 w9 := (by (repeat (first | with_reducible exact Below.refl _ _ | with_reducible refine bel_set ?_ ?_ | with_reducible refine bel_alloc ?_ ?_ | with_reducible refine Below.drew ?_ | with_reducible refine bel_drewN _ ?_ | with_reducible refine bel_call ?_ (by assumption) ?_)); all_goals (first | (simp; done) | omega | (simp; omega)))
      have hbk := Lib.hid hb
      clear hb r0_w8 r1_w8 r2_w8 r3_w8 r4_w8 r5_w8 r6_w8 r7_w8 qr_w8 t0_w8 t1_w8 t2_w8 t3_w8 t4_w8 t5_w8 t6_w8 t7_w8 qt_w8 D8
      obtain ⟨r0_w9, r1_w9, r2_w9, r3_w9, r4_w9, r5_w9, r6_w9, r7_w9⟩ := Hrw9
      have qr_w9 := lt_of_cell r0_w9
      obtain ⟨t0_w9, t1_w9, t2_w9, t3_w9, t4_w9, t5_w9, t6_w9, t7_w9⟩ := Htw9
      have qt_w9 := lt_of_cell t0_w9
      have HST4 := Lib.hid (HST3.out.below hbk.out)
      clear hbk
      go_wp2_with fail
      refine (rlow_call s L HL.out (by omega) _).mono ?_
      rintro e w10 ⟨rfl, hb⟩
      have Hrw10 : C4 w10 (w.heap.size) (.string ⟨#[]⟩) (.string ⟨#[]⟩) (.string ⟨#[]⟩) (.slice none 0 0) := C4.below ⟨by go_simp, by go_simp, by go_simp, by go_simp, by go_simp, by go_simp, by go_simp, by go_simp⟩ hb
      have Htw10 : C4 w10 (w2.heap.size) (.string x) (.string sc) (.string g) (.slice A 0 kc) := C4.below ⟨by go_simp, by go_simp, by go_simp, by go_simp, by go_simp, by go_simp, by go_simp, by go_simp⟩ hb
      have D10 : Below w2.heap.size w2 w10 := (by (repeat (first | with_reducible exact Below.refl _ _ | with_reducible refine bel_set ?_ ?_ | with_reducible refine bel_alloc ?_ ?_ | with_reducible refine Below.drew ?_ | with_reducible refine bel_drewN _ ?_ | with_reducible refine bel_call ?_ (by assumption) ?_)); all_goals (first | (simp; done) | omega | (simp; omega)))
      have hbk := Lib.hid hb
      clear hb r0_w9 r1_w9 r2_w9 r3_w9 r4_w9 r5_w9 r6_w9 r7_w9 qr_w9 t0_w9 t1_w9 t2_w9 t3_w9 t4_w9 t5_w9 t6_w9 t7_w9 qt_w9 D9
      obtain ⟨r0_w10, r1_w10, r2_w10, r3_w10, r4_w10, r5_w10, r6_w10, r7_w10⟩ := Hrw10
      have qr_w10 := lt_of_cell r0_w10
      obtain ⟨t0_w10, t1_w10, t2_w10, t3_w10, t4_w10, t5_w10, t6_w10, t7_w10⟩ := Htw10
      have qt_w10 := lt_of_cell t0_w10
      have HST5 := Lib.hid (HST4.out.below hbk.out)
      clear hbk
      have hb1 := Bw1.out
      have hb2 := Bw2.out
      have b1 := hb1.size
      have b2 := hb2.size
      have hbD := hb2.trans (D10.mono hb2.size)
      cases hq : (m.toList == L.toList)
      · have hne : lowerL (tagText x.data.toList sc.data.toList g.data.toList (listsOf [])) ≠ lowerL s.data.toList := fun h => by
          have h2 := HMM.out
          rw [HTT.out] at h2
          rw [h2, HL.out] at h
          rw [Lib.toList_data, Lib.toList_data, h] at hq
          simp at hq
        have HNE := Lib.hid hne
        clear hne
        have hq2 : (m.toList != L.toList) = true := by rw [bne, hq]; rfl
        go_wp2_with fail
        exact bodyPost_ret (v := .tuple #[tagV ⟨#[]⟩ ⟨#[]⟩ ⟨#[]⟩ none 0 0, .bool false]) (by simp [results, Tryd.results19, go_sem, r0_w10, r1_w10, r2_w10, r3_w10, World.cell?_setCell_same, World.cell?_setCell_other]) rfl ⟨.inr ⟨isTagR_no2 HT.out HNE.out, rfl⟩, (by (repeat (first | with_reducible exact Below.refl _ _ | with_reducible refine bel_set ?_ ?_ | with_reducible refine bel_alloc ?_ ?_ | with_reducible refine Below.drew ?_ | with_reducible refine bel_drewN _ ?_ | with_reducible refine bel_call ?_ (by assumption) ?_)); all_goals (first | (simp; done) | omega | (simp; omega)))⟩
      · have hyes : isTagR s.data.toList = true := isTagR_yes HT.out HE.out.symm (by
          have h2 := HMM.out
          rw [HTT.out] at h2
          have h3 := eq_of_beq hq
          rw [Lib.toList_data, Lib.toList_data] at h3
          rw [HL.out, ← h3]
          exact h2)
        have HYES := Lib.hid hyes
        clear hyes
        have hq2 : m.toList = L.toList := by simpa using hq
        go_wp2_with fail
        refine bodyPost_ret (v := .tuple #[tagV x sc g A ([] : List ByteArray).length kc, .bool true]) (by simp [results, Tryd.results19, go_sem, r0_w10, r1_w10, r2_w10, r3_w10, World.cell?_setCell_same, World.cell?_setCell_other]) rfl ⟨.inl ⟨HYES.out, x, sc, g, A, kc, [], rfl, HT.out, ?_, ?_, ?_⟩, (by (repeat (first | with_reducible exact Below.refl _ _ | with_reducible refine bel_set ?_ ?_ | with_reducible refine bel_alloc ?_ ?_ | with_reducible refine Below.drew ?_ | with_reducible refine bel_drewN _ ?_ | with_reducible refine bel_call ?_ (by assumption) ?_)); all_goals (first | (simp; done) | omega | (simp; omega)))⟩
        · have hl : w.heap.size < bz := by have := HSC.out; omega
          exact ((((HST5.out.set _ _ _ hl).set _ _ _ hl).set _ _ _ hl).set _ _ _ hl).strs
        · exact HKC.out
        · exact HA.out
    · have E0 : (E != 0) = true := bne_iff_ne.2 h0
      have HNE : Hid (tagErr x.data.toList sc.data.toList g.data.toList (listsOf []) ≠ 0) := Lib.hid (fun h => h0 (HE.out.trans h))
      clear h0 HE
      refine (KC.out).mono ?_
      rintro e w7 ⟨rfl, hb⟩
      have Hrw7 : C4 w7 (w.heap.size) (.string ⟨#[]⟩) (.string ⟨#[]⟩) (.string ⟨#[]⟩) (.slice none 0 0) := C4.below ⟨by go_simp, by go_simp, by go_simp, by go_simp, by go_simp, by go_simp, by go_simp, by go_simp⟩ hb
      have Htw7 : C4 w7 (w2.heap.size) (.string x) (.string sc) (.string g) (.slice A 0 kc) := C4.below ⟨by go_simp, by go_simp, by go_simp, by go_simp, by go_simp, by go_simp, by go_simp, by go_simp⟩ hb
      have D7 : Below w2.heap.size w2 w7 := (by (repeat (first | with_reducible exact Below.refl _ _ | with_reducible refine bel_set ?_ ?_ | with_reducible refine bel_alloc ?_ ?_ | with_reducible refine Below.drew ?_ | with_reducible refine bel_drewN _ ?_ | with_reducible refine bel_call ?_ (by assumption) ?_)); all_goals (first | (simp; done) | omega | (simp; omega)))
      clear hb r0_w6 r1_w6 r2_w6 r3_w6 r4_w6 r5_w6 r6_w6 r7_w6 qr_w6 t0_w6 t1_w6 t2_w6 t3_w6 t4_w6 t5_w6 t6_w6 t7_w6 qt_w6 D6
      obtain ⟨r0_w7, r1_w7, r2_w7, r3_w7, r4_w7, r5_w7, r6_w7, r7_w7⟩ := Hrw7
      have qr_w7 := lt_of_cell r0_w7
      obtain ⟨t0_w7, t1_w7, t2_w7, t3_w7, t4_w7, t5_w7, t6_w7, t7_w7⟩ := Htw7
      have qt_w7 := lt_of_cell t0_w7
      have hb1 := Bw1.out
      have hb2 := Bw2.out
      have b1 := hb1.size
      have b2 := hb2.size
      have hbD := hb2.trans (D7.mono hb2.size)
      go_wp2_with fail
      exact bodyPost_ret (v := .tuple #[tagV ⟨#[]⟩ ⟨#[]⟩ ⟨#[]⟩ none 0 0, .bool false]) (by simp [results, Tryd.results19, go_sem, r0_w7, r1_w7, r2_w7, r3_w7, World.cell?_setCell_same, World.cell?_setCell_other]) rfl ⟨.inr ⟨isTagR_no1 HT.out HNE.out, rfl⟩, (by (repeat (first | with_reducible exact Below.refl _ _ | with_reducible refine bel_set ?_ ?_ | with_reducible refine bel_alloc ?_ ?_ | with_reducible refine Below.drew ?_ | with_reducible refine bel_drewN _ ?_ | with_reducible refine bel_call ?_ (by assumption) ?_)); all_goals (first | (simp; done) | omega | (simp; omega)))⟩
  · have tp : ((p.size : Int) == 4) = true := by rw [hp4]; rfl
    have tq : (q.size : Int) < 4 := by have := HQ.out; omega
    go_wp2_with fail
    have z1 : (1 : Int) ≤ (p.size : Int) := by omega
    refine wp_region_held_drew (S := fun w' => w'.cell? ⟨bk, 1, none⟩ = some (.string p)) (by kernel_rfl) ?_ (fun hHeld => ?_)
    · (try dsimp only); go_simp
    refine wpAnyH_take (i := 0) (v := ?v1b) rfl (by kernel_rfl) (by kernel_rfl) (by kernel_rfl) (fun _ _ _ h => h) (Or.inl ⟨rfl, ?hy1b⟩) hHeld ?rest1b
    case hy1b => (intro w hSw; (try dsimp only at hSw); go_simp; try with_reducible rfl)
    try simp only [Act.put, List.setIfInBounds_toArray, List.set_cons_zero, List.set_cons_succ, List.getElem_toArray, List.getElem_cons_zero, List.getElem_cons_succ]
    refine wpAnyH_take (i := 1) (v := ?v2b) rfl (by kernel_rfl) (by kernel_rfl) (by kernel_rfl) (fun _ _ _ h => h) (Or.inl ⟨rfl, ?hy2b⟩) hHeld ?rest2b
    case hy2b => (intro w hSw; (try dsimp only at hSw); go_simp; try with_reducible rfl)
    try simp only [Act.put, List.setIfInBounds_toArray, List.set_cons_zero, List.set_cons_succ, List.getElem_toArray, List.getElem_cons_zero, List.getElem_cons_succ]
    refine wpAnyH_take (i := 2) (v := ?v3b) rfl (by kernel_rfl) (by kernel_rfl) (by kernel_rfl) (fun _ _ _ h => h) (Or.inl ⟨rfl, ?hy3b⟩) hHeld ?rest3b
    case hy3b => (intro w hSw; (try dsimp only at hSw); go_simp; try with_reducible rfl)
    try simp only [Act.put, List.setIfInBounds_toArray, List.set_cons_zero, List.set_cons_succ, List.getElem_toArray, List.getElem_cons_zero, List.getElem_cons_succ]
    refine wpAnyH_take (i := 3) (v := ?v4b) rfl (by kernel_rfl) (by kernel_rfl) (by kernel_rfl) (fun _ _ _ h => h) (Or.inl ⟨rfl, ?hy4b⟩) hHeld ?rest4b
    case hy4b => (intro w hSw; (try dsimp only at hSw); go_simp; try with_reducible rfl)
    try simp only [Act.put, List.setIfInBounds_toArray, List.set_cons_zero, List.set_cons_succ, List.getElem_toArray, List.getElem_cons_zero, List.getElem_cons_succ]
    refine wpAnyH_take (i := 5) (v := ?v5b) rfl (by kernel_rfl) (by kernel_rfl) (by kernel_rfl) (fun _ _ _ h => h) (Or.inl ⟨rfl, ?hy5b⟩) hHeld ?rest5b
    case hy5b => (intro w hSw; (try dsimp only at hSw); go_simp; try with_reducible rfl)
    try simp only [Act.put, List.setIfInBounds_toArray, List.set_cons_zero, List.set_cons_succ, List.getElem_toArray, List.getElem_cons_zero, List.getElem_cons_succ]
    refine wpAnyH_take (i := 6) (v := ?v6b) rfl (by kernel_rfl) (by kernel_rfl) (by kernel_rfl) (fun _ _ _ h => h) (Or.inl ⟨rfl, ?hy6b⟩) hHeld ?rest6b
    case hy6b => (intro w hSw; (try dsimp only at hSw); go_simp; try with_reducible rfl)
    try simp only [Act.put, List.setIfInBounds_toArray, List.set_cons_zero, List.set_cons_succ, List.getElem_toArray, List.getElem_cons_zero, List.getElem_cons_succ]
    refine wpAnyH_take (i := 7) (v := ?v7b) rfl (by kernel_rfl) (by kernel_rfl) (by kernel_rfl) (fun _ _ _ h => h) (Or.inl ⟨rfl, ?hy7b⟩) hHeld ?rest7b
    case hy7b => (intro w hSw; (try dsimp only at hSw); go_simp; try with_reducible rfl)
    try simp only [Act.put, List.setIfInBounds_toArray, List.set_cons_zero, List.set_cons_succ, List.getElem_toArray, List.getElem_cons_zero, List.getElem_cons_succ]
    refine wpAnyH_take (i := 8) (v := ?v8b) rfl (by kernel_rfl) (by kernel_rfl) (by kernel_rfl) (fun _ _ _ h => h) (Or.inl ⟨rfl, ?hy8b⟩) hHeld ?rest8b
    case hy8b => (intro w hSw; (try dsimp only at hSw); go_simp; try with_reducible rfl)
    try simp only [Act.put, List.setIfInBounds_toArray, List.set_cons_zero, List.set_cons_succ, List.getElem_toArray, List.getElem_cons_zero, List.getElem_cons_succ]
    refine wpAnyH_ready (rs := [4]) (by kernel_rfl) (by simp) (AllReadyH.cons rfl (fun K hK => ?_) AllReadyH.nil)
    go_simp
    go_at_call 45; refine (rup_call (p.extract 0 1) u HU.out hez0 _).mono ?_; rintro e w3 ⟨rfl, hb3⟩
    try dsimp only
    refine hK.out _ _ (carry hb3 (by go_simp)) (fun hNew => ?_)
    have B3 : Below w2.heap.size w2 w3 := Below.trans ((Below.refl w2.heap.size w2).alloc (Nat.le_refl _) (.cells #[.string x, .string ⟨#[]⟩, .string ⟨#[]⟩, .slice none 0 0] 47)).drew (hb3.mono (show w2.heap.size ≤ _ by simp))
    have Bw3 := Lib.hid B3
    have Hrw3 : C4 w3 (w.heap.size) (.string ⟨#[]⟩) (.string ⟨#[]⟩) (.string ⟨#[]⟩) (.slice none 0 0) := C4.below ⟨by go_simp, by go_simp, by go_simp, by go_simp, by go_simp, by go_simp, by go_simp, by go_simp⟩ hb3
    have Htw3 : C4 w3 (w2.heap.size) (.string x) (.string ⟨#[]⟩) (.string ⟨#[]⟩) (.slice none 0 0) := C4.below ⟨by go_simp, by go_simp, by go_simp, by go_simp, by go_simp, by go_simp, by go_simp, by go_simp⟩ hb3
    clear hK K hHeld hb3 B3
    have hHeld := hNew
    clear hNew r0_w2 r1_w2 r2_w2 r3_w2 r4_w2 r5_w2 r6_w2 r7_w2
    obtain ⟨r0_w3, r1_w3, r2_w3, r3_w3, r4_w3, r5_w3, r6_w3, r7_w3⟩ := Hrw3
    obtain ⟨t0_w3, t1_w3, t2_w3, t3_w3, t4_w3, t5_w3, t6_w3, t7_w3⟩ := Htw3
    have qr_w3 := lt_of_cell r0_w3
    have qt_w3 := lt_of_cell t0_w3
    try simp only [Act.put, List.setIfInBounds_toArray, List.set_cons_zero, List.set_cons_succ, List.getElem_toArray, List.getElem_cons_zero, List.getElem_cons_succ]
    refine wpAnyH_take (i := 9) (v := ?v9b) rfl (by kernel_rfl) (by kernel_rfl) (by kernel_rfl) (fun _ _ _ h => h) (Or.inl ⟨rfl, ?hy9b⟩) hHeld ?rest9b
    case hy9b => (intro w hSw; (try dsimp only at hSw); go_simp; try with_reducible rfl)
    try simp only [Act.put, List.setIfInBounds_toArray, List.set_cons_zero, List.set_cons_succ, List.getElem_toArray, List.getElem_cons_zero, List.getElem_cons_succ]
    refine wpAnyH_take (i := 10) (v := ?v10b) rfl (by kernel_rfl) (by kernel_rfl) (by kernel_rfl) (fun _ _ _ h => h) (Or.inl ⟨rfl, ?hy10b⟩) hHeld ?rest10b
    case hy10b => (intro w hSw; (try dsimp only at hSw); go_simp; try with_reducible rfl)
    try simp only [Act.put, List.setIfInBounds_toArray, List.set_cons_zero, List.set_cons_succ, List.getElem_toArray, List.getElem_cons_zero, List.getElem_cons_succ]
    refine wpAnyH_ready (rs := [11]) (by kernel_rfl) (by simp) (AllReadyH.cons rfl (fun K hK => ?_) AllReadyH.nil)
    go_simp
    have hsc4 : u ++ p.extract 1 4 = sc := by rw [hsc, hp4]
    rw [hsc4]
    refine hK.out _ _ (cell_other hHeld (by intro e; injection e with e1; omega)) (fun hNew => ?_)
    clear hK K hHeld hNew hsc4
    refine wpAnyH_done (by kernel_rfl) ?_ _
    have Hrw4 : C4 (w3.setCell ⟨w2.heap.size, 1, none⟩ (.string sc)) (w.heap.size) (.string ⟨#[]⟩) (.string ⟨#[]⟩) (.string ⟨#[]⟩) (.slice none 0 0) := ⟨by go_simp, by go_simp, by go_simp, by go_simp, by go_simp, by go_simp, by go_simp, by go_simp⟩
    have Htw4 : C4 (w3.setCell ⟨w2.heap.size, 1, none⟩ (.string sc)) (w2.heap.size) (.string x) (.string sc) (.string ⟨#[]⟩) (.slice none 0 0) := ⟨by go_simp, by go_simp, by go_simp, by go_simp, by go_simp, by go_simp, by go_simp, by go_simp⟩
    have D4 : Below w2.heap.size w2 (w3.setCell ⟨w2.heap.size, 1, none⟩ (.string sc)) := bel_set Bw3.out (Nat.le_refl _)
    have hq4 : w2.heap.size < (w3.setCell ⟨w2.heap.size, 1, none⟩ (.string sc)).heap.size := lt_of_cell Htw4.c0
    clear r0_w3 r1_w3 r2_w3 r3_w3 r4_w3 r5_w3 r6_w3 r7_w3 t0_w3 t1_w3 t2_w3 t3_w3 t4_w3 t5_w3 t6_w3 t7_w3 qr_w3 qt_w3 Bw3 hcat huz hez hez0 hsc hp4 z1
    generalize (w3.setCell ⟨w2.heap.size, 1, none⟩ (.string sc)) = w4 at *
    have c2_w4 : w4.cell? ⟨bk, 2, none⟩ = some (.string q) := carry D4 c2_w2
    clear c0_w2 c1_w2 c2_w2 qr_w2
    obtain ⟨r0_w4, r1_w4, r2_w4, r3_w4, r4_w4, r5_w4, r6_w4, r7_w4⟩ := Hrw4
    have qr_w4 := lt_of_cell r0_w4
    obtain ⟨t0_w4, t1_w4, t2_w4, t3_w4, t4_w4, t5_w4, t6_w4, t7_w4⟩ := Htw4
    have qt_w4 := lt_of_cell t0_w4
    go_wp2_with fail
    refine (rup_call q g HG.out (by omega) _).mono ?_
    rintro e w5 ⟨rfl, hb⟩
    have Hrw5 : C4 w5 (w.heap.size) (.string ⟨#[]⟩) (.string ⟨#[]⟩) (.string ⟨#[]⟩) (.slice none 0 0) := C4.below ⟨by go_simp, by go_simp, by go_simp, by go_simp, by go_simp, by go_simp, by go_simp, by go_simp⟩ hb
    have Htw5 : C4 w5 (w2.heap.size) (.string x) (.string sc) (.string ⟨#[]⟩) (.slice none 0 0) := C4.below ⟨by go_simp, by go_simp, by go_simp, by go_simp, by go_simp, by go_simp, by go_simp, by go_simp⟩ hb
    have c2_w5 : w5.cell? ⟨bk, 2, none⟩ = some (.string q) := carry hb (by go_simp)
    have D5 : Below w2.heap.size w2 w5 := (by (repeat (first | with_reducible exact Below.refl _ _ | with_reducible refine bel_set ?_ ?_ | with_reducible refine bel_alloc ?_ ?_ | with_reducible refine Below.drew ?_ | with_reducible refine bel_drewN _ ?_ | with_reducible refine bel_call ?_ (by assumption) ?_)); all_goals (first | (simp; done) | omega | (simp; omega)))
    clear hb c2_w4 r0_w4 r1_w4 r2_w4 r3_w4 r4_w4 r5_w4 r6_w4 r7_w4 qr_w4 t0_w4 t1_w4 t2_w4 t3_w4 t4_w4 t5_w4 t6_w4 t7_w4 qt_w4 D4 hq4
    obtain ⟨r0_w5, r1_w5, r2_w5, r3_w5, r4_w5, r5_w5, r6_w5, r7_w5⟩ := Hrw5
    have qr_w5 := lt_of_cell r0_w5
    obtain ⟨t0_w5, t1_w5, t2_w5, t3_w5, t4_w5, t5_w5, t6_w5, t7_w5⟩ := Htw5
    have qt_w5 := lt_of_cell t0_w5
    have DC : Below w2.heap.size w2 (w5.setCell ⟨w2.heap.size, 2, none⟩ (.string g)) := (by (repeat (first | with_reducible exact Below.refl _ _ | with_reducible refine bel_set ?_ ?_ | with_reducible refine bel_alloc ?_ ?_ | with_reducible refine Below.drew ?_ | with_reducible refine bel_drewN _ ?_ | with_reducible refine bel_call ?_ (by assumption) ?_)); all_goals (first | (simp; done) | omega | (simp; omega)))
    have SC : w2.heap.size < (w5.setCell ⟨w2.heap.size, 2, none⟩ (.string g)).heap.size := by simpa using qt_w5
    have HCL : Hid (∀ (j : Nat) z, ([] : List ByteArray)[j]? = some z → (w5.setCell ⟨w2.heap.size, 2, none⟩ (.string g)).cell? ⟨bk, 3 + j, none⟩ = some (.string z)) := Lib.hid (fun j z hz => by simp at hz)
    clear DC
    obtain ⟨bz, hbz⟩ : ∃ b, b = (w5.setCell ⟨w2.heap.size, 2, none⟩ (.string g)).heap.size := ⟨_, rfl⟩
    have HBZ := Lib.hid hbz
    have SCZ : w2.heap.size < bz := by rw [hbz]; exact SC
    have HSC := Lib.hid SCZ
    clear hbz SCZ SC
    go_wp2_with (at_builtin; refine wpList_append_many rfl _ _ rfl (ys := ([] : List ByteArray)) rfl rfl (OwnsS.nil _ bz) (.inl rfl) (by intro h; first | (cases h; done) | (split at h <;> cases h)) (by rw [HBZ.out]; exact Nat.le_refl _) (by first | (simp; done) | (simp; omega)) ?_; intro v' w6 ho hoff; have hb := (OwnsS.nil _ bz).grown hoff (by rw [HBZ.out]; exact Nat.le_refl _); rw [HBZ.out] at hb; rw [List.nil_append] at ho; obtain ⟨A, kc, rfl, _⟩ := ho.form; have Hrw6 : C4 w6 (w.heap.size) (.string ⟨#[]⟩) (.string ⟨#[]⟩) (.string ⟨#[]⟩) (.slice none 0 0) := C4.below ⟨by go_simp, by go_simp, by go_simp, by go_simp, by go_simp, by go_simp, by go_simp, by go_simp⟩ hb; have Htw6 : C4 w6 (w2.heap.size) (.string x) (.string sc) (.string g) (.slice none 0 0) := C4.below ⟨by go_simp, by go_simp, by go_simp, by go_simp, by go_simp, by go_simp, by go_simp, by go_simp⟩ hb; have D6 : Below w2.heap.size w2 w6 := (by (repeat (first | with_reducible exact Below.refl _ _ | with_reducible refine bel_set ?_ ?_ | with_reducible refine bel_alloc ?_ ?_ | with_reducible refine Below.drew ?_ | with_reducible refine bel_drewN _ ?_ | with_reducible refine bel_call ?_ (by assumption) ?_)); all_goals (first | (simp; done) | omega | (simp; omega))); obtain ⟨hkc, hA⟩ := ho.caps; have HKM := Lib.hid ho.capM; have HST := Lib.hid (ho.set w2.heap.size 3 (.slice A 0 kc) HSC.out); have HA := Lib.hid hA; have HKC := Lib.hid hkc; clear hb ho hoff hA hkc HCL c2_w5 r0_w5 r1_w5 r2_w5 r3_w5 r4_w5 r5_w5 r6_w5 r7_w5 qr_w5 t0_w5 t1_w5 t2_w5 t3_w5 t4_w5 t5_w5 t6_w5 t7_w5 qt_w5 D5; obtain ⟨r0_w6, r1_w6, r2_w6, r3_w6, r4_w6, r5_w6, r6_w6, r7_w6⟩ := Hrw6; have qr_w6 := lt_of_cell r0_w6; obtain ⟨t0_w6, t1_w6, t2_w6, t3_w6, t4_w6, t5_w6, t6_w6, t7_w6⟩ := Htw6; have qt_w6 := lt_of_cell t0_w6)
    obtain ⟨E, hE⟩ : ∃ E, E = tagErr x.data.toList sc.data.toList g.data.toList (listsOf []) := ⟨_, rfl⟩
    have KC := Lib.hid (ref_fault x sc g A kc [] (w6.setCell ⟨w2.heap.size, 3, none⟩ (.slice A 0 kc)) (by omega) (by omega) (by omega) (by simp) (.inl rfl) (Nat.zero_le _) HKM.out)
    rw [← hE] at KC
    have HE := Lib.hid hE
    clear hE
    by_cases h0 : E = 0
    · subst h0
      refine (KC.out).mono ?_
      rintro e w7 ⟨rfl, hb⟩
      have Hrw7 : C4 w7 (w.heap.size) (.string ⟨#[]⟩) (.string ⟨#[]⟩) (.string ⟨#[]⟩) (.slice none 0 0) := C4.below ⟨by go_simp, by go_simp, by go_simp, by go_simp, by go_simp, by go_simp, by go_simp, by go_simp⟩ hb
      have Htw7 : C4 w7 (w2.heap.size) (.string x) (.string sc) (.string g) (.slice A 0 kc) := C4.below ⟨by go_simp, by go_simp, by go_simp, by go_simp, by go_simp, by go_simp, by go_simp, by go_simp⟩ hb
      have D7 : Below w2.heap.size w2 w7 := (by (repeat (first | with_reducible exact Below.refl _ _ | with_reducible refine bel_set ?_ ?_ | with_reducible refine bel_alloc ?_ ?_ | with_reducible refine Below.drew ?_ | with_reducible refine bel_drewN _ ?_ | with_reducible refine bel_call ?_ (by assumption) ?_)); all_goals (first | (simp; done) | omega | (simp; omega)))
      have hbk := Lib.hid hb
      clear hb r0_w6 r1_w6 r2_w6 r3_w6 r4_w6 r5_w6 r6_w6 r7_w6 qr_w6 t0_w6 t1_w6 t2_w6 t3_w6 t4_w6 t5_w6 t6_w6 t7_w6 qt_w6 D6
      obtain ⟨r0_w7, r1_w7, r2_w7, r3_w7, r4_w7, r5_w7, r6_w7, r7_w7⟩ := Hrw7
      have qr_w7 := lt_of_cell r0_w7
      obtain ⟨t0_w7, t1_w7, t2_w7, t3_w7, t4_w7, t5_w7, t6_w7, t7_w7⟩ := Htw7
      have qt_w7 := lt_of_cell t0_w7
      have he0 := HE.out.symm
      have hlt := text_len he0
      obtain ⟨t, ht⟩ : ∃ t : ByteArray, t = ⟨(tagText x.data.toList sc.data.toList g.data.toList (listsOf [])).toArray⟩ := ⟨_, rfl⟩
      have htz : t.size ≤ 100 := by rw [← tsize, ht]; exact hlt
      have HST2 := Lib.hid (HST.out.below hbk.out)
      have KT := Lib.hid (ref_tag_text x sc g A kc [] w7 HST2.out.strs HA.out he0)
      rw [← ht] at KT
      obtain ⟨m, hm⟩ : ∃ m : ByteArray, lowerL t.data.toList = m.data.toList := ⟨⟨(lowerL t.data.toList).toArray⟩, rfl⟩
      have HMM := Lib.hid hm
      have HTT := Lib.hid ht
      clear hm ht hlt he0
      go_wp2_with fail
      clear hbk
      refine (KT.out).mono ?_
      rintro e w8 ⟨rfl, hb⟩
      have Hrw8 : C4 w8 (w.heap.size) (.string ⟨#[]⟩) (.string ⟨#[]⟩) (.string ⟨#[]⟩) (.slice none 0 0) := C4.below ⟨by go_simp, by go_simp, by go_simp, by go_simp, by go_simp, by go_simp, by go_simp, by go_simp⟩ hb
      have Htw8 : C4 w8 (w2.heap.size) (.string x) (.string sc) (.string g) (.slice A 0 kc) := C4.below ⟨by go_simp, by go_simp, by go_simp, by go_simp, by go_simp, by go_simp, by go_simp, by go_simp⟩ hb
      have D8 : Below w2.heap.size w2 w8 := (by (repeat (first | with_reducible exact Below.refl _ _ | with_reducible refine bel_set ?_ ?_ | with_reducible refine bel_alloc ?_ ?_ | with_reducible refine Below.drew ?_ | with_reducible refine bel_drewN _ ?_ | with_reducible refine bel_call ?_ (by assumption) ?_)); all_goals (first | (simp; done) | omega | (simp; omega)))
      have hbk := Lib.hid hb
      clear hb r0_w7 r1_w7 r2_w7 r3_w7 r4_w7 r5_w7 r6_w7 r7_w7 qr_w7 t0_w7 t1_w7 t2_w7 t3_w7 t4_w7 t5_w7 t6_w7 t7_w7 qt_w7 D7
      obtain ⟨r0_w8, r1_w8, r2_w8, r3_w8, r4_w8, r5_w8, r6_w8, r7_w8⟩ := Hrw8
      have qr_w8 := lt_of_cell r0_w8
      obtain ⟨t0_w8, t1_w8, t2_w8, t3_w8, t4_w8, t5_w8, t6_w8, t7_w8⟩ := Htw8
      have qt_w8 := lt_of_cell t0_w8
      have HST3 := Lib.hid (HST2.out.below hbk.out)
      clear hbk
      go_wp2_with fail
      refine (rlow_call t m HMM.out (by omega) _).mono ?_
      rintro e w9 ⟨rfl, hb⟩
      have Hrw9 : C4 w9 (w.heap.size) (.string ⟨#[]⟩) (.string ⟨#[]⟩) (.string ⟨#[]⟩) (.slice none 0 0) := C4.below ⟨by go_simp, by go_simp, by go_simp, by go_simp, by go_simp, by go_simp, by go_simp, by go_simp⟩ hb
      have Htw9 : C4 w9 (w2.heap.size) (.string x) (.string sc) (.string g) (.slice A 0 kc) := C4.below ⟨by go_simp, by go_simp, by go_simp, by go_simp, by go_simp, by go_simp, by go_simp, by go_simp⟩ hb
      have D9 : Below w2.heap.size w2 w9 := (by (repeat (first | with_reducible exact Below.refl _ _ | with_reducible refine bel_set ?_ ?_ | with_reducible refine bel_alloc ?_ ?_ | with_reducible refine Below.drew ?_ | with_reducible refine bel_drewN _ ?_ | with_reducible refine bel_call ?_ (by assumption) ?_)); all_goals (first | (simp; done) | omega | (simp; omega)))
      have hbk := Lib.hid hb
      clear hb r0_w8 r1_w8 r2_w8 r3_w8 r4_w8 r5_w8 r6_w8 r7_w8 qr_w8 t0_w8 t1_w8 t2_w8 t3_w8 t4_w8 t5_w8 t6_w8 t7_w8 qt_w8 D8
      obtain ⟨r0_w9, r1_w9, r2_w9, r3_w9, r4_w9, r5_w9, r6_w9, r7_w9⟩ := Hrw9
      have qr_w9 := lt_of_cell r0_w9
      obtain ⟨t0_w9, t1_w9, t2_w9, t3_w9, t4_w9, t5_w9, t6_w9, t7_w9⟩ := Htw9
      have qt_w9 := lt_of_cell t0_w9
      have HST4 := Lib.hid (HST3.out.below hbk.out)
      clear hbk
      go_wp2_with fail
      refine (rlow_call s L HL.out (by omega) _).mono ?_
      rintro e w10 ⟨rfl, hb⟩
      have Hrw10 : C4 w10 (w.heap.size) (.string ⟨#[]⟩) (.string ⟨#[]⟩) (.string ⟨#[]⟩) (.slice none 0 0) := C4.below ⟨by go_simp, by go_simp, by go_simp, by go_simp, by go_simp, by go_simp, by go_simp, by go_simp⟩ hb
      have Htw10 : C4 w10 (w2.heap.size) (.string x) (.string sc) (.string g) (.slice A 0 kc) := C4.below ⟨by go_simp, by go_simp, by go_simp, by go_simp, by go_simp, by go_simp, by go_simp, by go_simp⟩ hb
      have D10 : Below w2.heap.size w2 w10 := (by (repeat (first | with_reducible exact Below.refl _ _ | with_reducible refine bel_set ?_ ?_ | with_reducible refine bel_alloc ?_ ?_ | with_reducible refine Below.drew ?_ | with_reducible refine bel_drewN _ ?_ | with_reducible refine bel_call ?_ (by assumption) ?_)); all_goals (first | (simp; done) | omega | (simp; omega)))
      have hbk := Lib.hid hb
      clear hb r0_w9 r1_w9 r2_w9 r3_w9 r4_w9 r5_w9 r6_w9 r7_w9 qr_w9 t0_w9 t1_w9 t2_w9 t3_w9 t4_w9 t5_w9 t6_w9 t7_w9 qt_w9 D9
      obtain ⟨r0_w10, r1_w10, r2_w10, r3_w10, r4_w10, r5_w10, r6_w10, r7_w10⟩ := Hrw10
      have qr_w10 := lt_of_cell r0_w10
      obtain ⟨t0_w10, t1_w10, t2_w10, t3_w10, t4_w10, t5_w10, t6_w10, t7_w10⟩ := Htw10
      have qt_w10 := lt_of_cell t0_w10
      have HST5 := Lib.hid (HST4.out.below hbk.out)
      clear hbk
      have hb1 := Bw1.out
      have hb2 := Bw2.out
      have b1 := hb1.size
      have b2 := hb2.size
      have hbD := hb2.trans (D10.mono hb2.size)
      cases hq : (m.toList == L.toList)
      · have hne : lowerL (tagText x.data.toList sc.data.toList g.data.toList (listsOf [])) ≠ lowerL s.data.toList := fun h => by
          have h2 := HMM.out
          rw [HTT.out] at h2
          rw [h2, HL.out] at h
          rw [Lib.toList_data, Lib.toList_data, h] at hq
          simp at hq
        have HNE := Lib.hid hne
        clear hne
        have hq2 : (m.toList != L.toList) = true := by rw [bne, hq]; rfl
        go_wp2_with fail
        exact bodyPost_ret (v := .tuple #[tagV ⟨#[]⟩ ⟨#[]⟩ ⟨#[]⟩ none 0 0, .bool false]) (by simp [results, Tryd.results19, go_sem, r0_w10, r1_w10, r2_w10, r3_w10, World.cell?_setCell_same, World.cell?_setCell_other]) rfl ⟨.inr ⟨isTagR_no2 HT.out HNE.out, rfl⟩, (by (repeat (first | with_reducible exact Below.refl _ _ | with_reducible refine bel_set ?_ ?_ | with_reducible refine bel_alloc ?_ ?_ | with_reducible refine Below.drew ?_ | with_reducible refine bel_drewN _ ?_ | with_reducible refine bel_call ?_ (by assumption) ?_)); all_goals (first | (simp; done) | omega | (simp; omega)))⟩
      · have hyes : isTagR s.data.toList = true := isTagR_yes HT.out HE.out.symm (by
          have h2 := HMM.out
          rw [HTT.out] at h2
          have h3 := eq_of_beq hq
          rw [Lib.toList_data, Lib.toList_data] at h3
          rw [HL.out, ← h3]
          exact h2)
        have HYES := Lib.hid hyes
        clear hyes
        have hq2 : m.toList = L.toList := by simpa using hq
        go_wp2_with fail
        refine bodyPost_ret (v := .tuple #[tagV x sc g A ([] : List ByteArray).length kc, .bool true]) (by simp [results, Tryd.results19, go_sem, r0_w10, r1_w10, r2_w10, r3_w10, World.cell?_setCell_same, World.cell?_setCell_other]) rfl ⟨.inl ⟨HYES.out, x, sc, g, A, kc, [], rfl, HT.out, ?_, ?_, ?_⟩, (by (repeat (first | with_reducible exact Below.refl _ _ | with_reducible refine bel_set ?_ ?_ | with_reducible refine bel_alloc ?_ ?_ | with_reducible refine Below.drew ?_ | with_reducible refine bel_drewN _ ?_ | with_reducible refine bel_call ?_ (by assumption) ?_)); all_goals (first | (simp; done) | omega | (simp; omega)))⟩
        · have hl : w.heap.size < bz := by have := HSC.out; omega
          exact ((((HST5.out.set _ _ _ hl).set _ _ _ hl).set _ _ _ hl).set _ _ _ hl).strs
        · exact HKC.out
        · exact HA.out
    · have E0 : (E != 0) = true := bne_iff_ne.2 h0
      have HNE : Hid (tagErr x.data.toList sc.data.toList g.data.toList (listsOf []) ≠ 0) := Lib.hid (fun h => h0 (HE.out.trans h))
      clear h0 HE
      refine (KC.out).mono ?_
      rintro e w7 ⟨rfl, hb⟩
      have Hrw7 : C4 w7 (w.heap.size) (.string ⟨#[]⟩) (.string ⟨#[]⟩) (.string ⟨#[]⟩) (.slice none 0 0) := C4.below ⟨by go_simp, by go_simp, by go_simp, by go_simp, by go_simp, by go_simp, by go_simp, by go_simp⟩ hb
      have Htw7 : C4 w7 (w2.heap.size) (.string x) (.string sc) (.string g) (.slice A 0 kc) := C4.below ⟨by go_simp, by go_simp, by go_simp, by go_simp, by go_simp, by go_simp, by go_simp, by go_simp⟩ hb
      have D7 : Below w2.heap.size w2 w7 := (by (repeat (first | with_reducible exact Below.refl _ _ | with_reducible refine bel_set ?_ ?_ | with_reducible refine bel_alloc ?_ ?_ | with_reducible refine Below.drew ?_ | with_reducible refine bel_drewN _ ?_ | with_reducible refine bel_call ?_ (by assumption) ?_)); all_goals (first | (simp; done) | omega | (simp; omega)))
      clear hb r0_w6 r1_w6 r2_w6 r3_w6 r4_w6 r5_w6 r6_w6 r7_w6 qr_w6 t0_w6 t1_w6 t2_w6 t3_w6 t4_w6 t5_w6 t6_w6 t7_w6 qt_w6 D6
      obtain ⟨r0_w7, r1_w7, r2_w7, r3_w7, r4_w7, r5_w7, r6_w7, r7_w7⟩ := Hrw7
      have qr_w7 := lt_of_cell r0_w7
      obtain ⟨t0_w7, t1_w7, t2_w7, t3_w7, t4_w7, t5_w7, t6_w7, t7_w7⟩ := Htw7
      have qt_w7 := lt_of_cell t0_w7
      have hb1 := Bw1.out
      have hb2 := Bw2.out
      have b1 := hb1.size
      have b2 := hb2.size
      have hbD := hb2.trans (D7.mono hb2.size)
      go_wp2_with fail
      exact bodyPost_ret (v := .tuple #[tagV ⟨#[]⟩ ⟨#[]⟩ ⟨#[]⟩ none 0 0, .bool false]) (by simp [results, Tryd.results19, go_sem, r0_w7, r1_w7, r2_w7, r3_w7, World.cell?_setCell_same, World.cell?_setCell_other]) rfl ⟨.inr ⟨isTagR_no1 HT.out HNE.out, rfl⟩, (by (repeat (first | with_reducible exact Below.refl _ _ | with_reducible refine bel_set ?_ ?_ | with_reducible refine bel_alloc ?_ ?_ | with_reducible refine Below.drew ?_ | with_reducible refine bel_drewN _ ?_ | with_reducible refine bel_call ?_ (by assumption) ?_)); all_goals (first | (simp; done) | omega | (simp; omega)))⟩
end Go.Proofs.YtnhlnhmjnnopaaaDoor

/- linguisterref1.TagOf: way 3. -/
namespace Go.Proofs.YtnhlnhmjnnopaaaDoor
open Go.RowKit

set_option maxHeartbeats 4000000 in
set_option maxRecDepth 100000 in
theorem tagof_way3 (s L x p q y : ByteArray) (r : List ByteArray) (w : World) (hM : MaxL w) (hs : s.size ≤ 1000000000) (hL : lowerL s.data.toList = L.data.toList) (hps : listsOf (x :: p :: q :: y :: r) = splitD L.data.toList) (hp : p.size = 4) (hq : q.size < 4) :
    Calls Tryd.prog 19 #[.string s] w fun e w' => TagOut s e w' ∧ Below w.heap.size w w' := by
  obtain ⟨hmade, hsz, hcnt⟩ := made_isR hL hps
  have hLs : L.size = s.size := by rw [← tsize, ← tsize, ← hL]; unfold lowerL; simp
  have hp4 : p.size = 4 := hp
  obtain ⟨u, hu⟩ : ∃ u : ByteArray, upperL (p.extract 0 1).data.toList = u.data.toList := ⟨⟨(upperL (p.extract 0 1).data.toList).toArray⟩, rfl⟩
  have huz : u.size = 1 := by rw [← tsize, ← hu, upper_len, Lib.extract_from_zero, List.length_take, tsize]; omega
  have hez : (p.extract 1 p.size).size ≤ 4 := by rw [ByteArray.size_extract]; omega
  have hez0 : (p.extract 0 1).size ≤ 9223372036854775807 := by rw [ByteArray.size_extract]; omega
  obtain ⟨sc, hsc, hcat⟩ := add_let u (p.extract 1 p.size) (by omega)
  have hsc2 : sc.data.toList = upperL (p.data.toList.take 1) ++ p.data.toList.drop 1 := by rw [hsc, ByteArray.data_append, Array.toList_append, ← hu, Lib.extract_from_zero, Lib.extract_to_end]
  have hscz : sc.size ≤ 1000000000 := by rw [← tsize, hsc2, List.length_append, upper_len, ← List.length_append, List.take_append_drop, tsize]; omega
  obtain ⟨g, hg⟩ : ∃ g : ByteArray, upperL q.data.toList = g.data.toList := ⟨⟨(upperL q.data.toList).toArray⟩, rfl⟩
  have hgz : g.size ≤ 1000000000 := by have h := hsz q (by simp); rw [← tsize, ← hg, upper_len, tsize]; omega
  have hT : madeR s.data.toList = ⟨x.data.toList, sc.data.toList, g.data.toList, listsOf (y :: r)⟩ := by
    rw [hmade]
    simp [listsOf, List.map_cons, List.map_nil, scrR, regR, tsize, hp, hsc2, hg, hq]
  have HT := Lib.hid hT
  have zx : x.size ≤ 1000000000 := by have := hsz x (by simp); omega
  have zp : p.size ≤ 1000000000 := by have := hsz p (by simp); omega
  have zq : q.size ≤ 1000000000 := by have := hsz q (by simp); omega
  have zy : y.size ≤ 1000000000 := by have := hsz y (by simp); omega
  have hrl : r.length ≤ 1000000000 := by simp at hcnt; omega
  have HZ : Hid (∀ v ∈ (y :: r), v.size ≤ 1000000000) := Lib.hid (fun v hv => by have := hsz v (List.mem_cons_of_mem _ (List.mem_cons_of_mem _ (List.mem_cons_of_mem _ hv))); omega)
  have HPS := Lib.hid hps
  have HL := Lib.hid hL
  have HM := Lib.hid hM
  have HU := Lib.hid hu
  have HP := Lib.hid hp
  have HG := Lib.hid hg
  have HQ := Lib.hid hq
  clear hmade hsz hcnt hT hps hL hM hu hp hsc2 hg hq
  go_enter Tryd.func19, Tryd.ntmps19
  go_wp2_with fail
  refine (rlow_call s L HL.out (by omega) _).mono ?_
  rintro e w1 ⟨rfl, hb1⟩
  have Hrw1 : C4 w1 (w.heap.size) (.string ⟨#[]⟩) (.string ⟨#[]⟩) (.string ⟨#[]⟩) (.slice none 0 0) := C4.below ⟨by go_simp, by go_simp, by go_simp, by go_simp, by go_simp, by go_simp, by go_simp, by go_simp⟩ hb1
  have Bw1 := Lib.hid hb1
  obtain ⟨r0_w1, r1_w1, r2_w1, r3_w1, r4_w1, r5_w1, r6_w1, r7_w1⟩ := Hrw1
  have qr_w1 := lt_of_cell r0_w1
  have s1 : w.heap.size < w1.heap.size := qr_w1
  go_wp2_with fail
  refine (cut_call L x _ HPS.out _ (by omega)).mono ?_
  rintro e w2 ⟨bk, cd, rfl, hcd, hbk0, hcp, hb2⟩
  have HCP := Lib.hid hcp
  have c0_w2 : w2.cell? ⟨bk, 0, none⟩ = some (.string x) := hcp 0 x rfl
  have c1_w2 : w2.cell? ⟨bk, 1, none⟩ = some (.string p) := hcp 1 p rfl
  have c2_w2 : w2.cell? ⟨bk, 2, none⟩ = some (.string q) := hcp 2 q rfl
  have c3_w2 : w2.cell? ⟨bk, 3, none⟩ = some (.string y) := hcp 3 y rfl
  have Hrw2 : C4 w2 (w.heap.size) (.string ⟨#[]⟩) (.string ⟨#[]⟩) (.string ⟨#[]⟩) (.slice none 0 0) := C4.below ⟨by go_simp, by go_simp, by go_simp, by go_simp, by go_simp, by go_simp, by go_simp, by go_simp⟩ hb2
  have Bw2 := Lib.hid hb2
  clear hcp hb2 r0_w1 r1_w1 r2_w1 r3_w1 r4_w1 r5_w1 r6_w1 r7_w1 qr_w1
  obtain ⟨r0_w2, r1_w2, r2_w2, r3_w2, r4_w2, r5_w2, r6_w2, r7_w2⟩ := Hrw2
  have qr_w2 := lt_of_cell r0_w2
  have qc_w2 := lt_of_cell c0_w2
  simp only [List.length_cons, List.length_nil, Nat.zero_add] at hcd ⊢
  have hbk1 : w.heap.size < bk := by omega
  have hcd2 : r.length + 4 ≤ cd := by omega
  clear hcd hbk0
  have ncd1 : ¬ cd = 1 := by omega
  have ncd2 : ¬ cd - 1 = 1 := by omega
  have ncd3 : ¬ cd - 1 - 1 = 1 := by omega
  have tp : ((p.size : Int) == 4) = true := by rw [hp4]; rfl
  have tq : (q.size : Int) < 4 := by have := HQ.out; omega
  have l1 : (0 : Int) < (r.length : Int) + 3 := by omega
  have l2 : (0 : Int) < (r.length : Int) + 2 := by omega
  have l3 : (0 : Int) < (r.length : Int) + 1 := by omega
  go_wp2_with fail
  have z1 : (1 : Int) ≤ (p.size : Int) := by omega
  refine wp_region_held_drew (S := fun w' => w'.cell? ⟨bk, 1, none⟩ = some (.string p)) (by kernel_rfl) ?_ (fun hHeld => ?_)
  · (try dsimp only); go_simp
  refine wpAnyH_take (i := 0) (v := ?v1) rfl (by kernel_rfl) (by kernel_rfl) (by kernel_rfl) (fun _ _ _ h => h) (Or.inl ⟨rfl, ?hy1⟩) hHeld ?rest1
  case hy1 => (intro w hSw; (try dsimp only at hSw); go_simp; try with_reducible rfl)
  try simp only [Act.put, List.setIfInBounds_toArray, List.set_cons_zero, List.set_cons_succ, List.getElem_toArray, List.getElem_cons_zero, List.getElem_cons_succ]
  refine wpAnyH_take (i := 1) (v := ?v2) rfl (by kernel_rfl) (by kernel_rfl) (by kernel_rfl) (fun _ _ _ h => h) (Or.inl ⟨rfl, ?hy2⟩) hHeld ?rest2
  case hy2 => (intro w hSw; (try dsimp only at hSw); go_simp; try with_reducible rfl)
  try simp only [Act.put, List.setIfInBounds_toArray, List.set_cons_zero, List.set_cons_succ, List.getElem_toArray, List.getElem_cons_zero, List.getElem_cons_succ]
  refine wpAnyH_take (i := 2) (v := ?v3) rfl (by kernel_rfl) (by kernel_rfl) (by kernel_rfl) (fun _ _ _ h => h) (Or.inl ⟨rfl, ?hy3⟩) hHeld ?rest3
  case hy3 => (intro w hSw; (try dsimp only at hSw); go_simp; try with_reducible rfl)
  try simp only [Act.put, List.setIfInBounds_toArray, List.set_cons_zero, List.set_cons_succ, List.getElem_toArray, List.getElem_cons_zero, List.getElem_cons_succ]
  refine wpAnyH_take (i := 3) (v := ?v4) rfl (by kernel_rfl) (by kernel_rfl) (by kernel_rfl) (fun _ _ _ h => h) (Or.inl ⟨rfl, ?hy4⟩) hHeld ?rest4
  case hy4 => (intro w hSw; (try dsimp only at hSw); go_simp; try with_reducible rfl)
  try simp only [Act.put, List.setIfInBounds_toArray, List.set_cons_zero, List.set_cons_succ, List.getElem_toArray, List.getElem_cons_zero, List.getElem_cons_succ]
  refine wpAnyH_take (i := 5) (v := ?v5) rfl (by kernel_rfl) (by kernel_rfl) (by kernel_rfl) (fun _ _ _ h => h) (Or.inl ⟨rfl, ?hy5⟩) hHeld ?rest5
  case hy5 => (intro w hSw; (try dsimp only at hSw); go_simp; try with_reducible rfl)
  try simp only [Act.put, List.setIfInBounds_toArray, List.set_cons_zero, List.set_cons_succ, List.getElem_toArray, List.getElem_cons_zero, List.getElem_cons_succ]
  refine wpAnyH_take (i := 6) (v := ?v6) rfl (by kernel_rfl) (by kernel_rfl) (by kernel_rfl) (fun _ _ _ h => h) (Or.inl ⟨rfl, ?hy6⟩) hHeld ?rest6
  case hy6 => (intro w hSw; (try dsimp only at hSw); go_simp; try with_reducible rfl)
  try simp only [Act.put, List.setIfInBounds_toArray, List.set_cons_zero, List.set_cons_succ, List.getElem_toArray, List.getElem_cons_zero, List.getElem_cons_succ]
  refine wpAnyH_take (i := 7) (v := ?v7) rfl (by kernel_rfl) (by kernel_rfl) (by kernel_rfl) (fun _ _ _ h => h) (Or.inl ⟨rfl, ?hy7⟩) hHeld ?rest7
  case hy7 => (intro w hSw; (try dsimp only at hSw); go_simp; try with_reducible rfl)
  try simp only [Act.put, List.setIfInBounds_toArray, List.set_cons_zero, List.set_cons_succ, List.getElem_toArray, List.getElem_cons_zero, List.getElem_cons_succ]
  refine wpAnyH_take (i := 8) (v := ?v8) rfl (by kernel_rfl) (by kernel_rfl) (by kernel_rfl) (fun _ _ _ h => h) (Or.inl ⟨rfl, ?hy8⟩) hHeld ?rest8
  case hy8 => (intro w hSw; (try dsimp only at hSw); go_simp; try with_reducible rfl)
  try simp only [Act.put, List.setIfInBounds_toArray, List.set_cons_zero, List.set_cons_succ, List.getElem_toArray, List.getElem_cons_zero, List.getElem_cons_succ]
  refine wpAnyH_ready (rs := [4]) (by kernel_rfl) (by simp) (AllReadyH.cons rfl (fun K hK => ?_) AllReadyH.nil)
  go_simp
  go_at_call 45; refine (rup_call (p.extract 0 1) u HU.out hez0 _).mono ?_; rintro e w3 ⟨rfl, hb3⟩
  try dsimp only
  refine hK.out _ _ (carry hb3 (by go_simp)) (fun hNew => ?_)
  have B3 : Below w2.heap.size w2 w3 := Below.trans ((Below.refl w2.heap.size w2).alloc (Nat.le_refl _) (.cells #[.string x, .string ⟨#[]⟩, .string ⟨#[]⟩, .slice none 0 0] 47)).drew (hb3.mono (show w2.heap.size ≤ _ by simp))
  have Bw3 := Lib.hid B3
  have Hrw3 : C4 w3 (w.heap.size) (.string ⟨#[]⟩) (.string ⟨#[]⟩) (.string ⟨#[]⟩) (.slice none 0 0) := C4.below ⟨by go_simp, by go_simp, by go_simp, by go_simp, by go_simp, by go_simp, by go_simp, by go_simp⟩ hb3
  have Htw3 : C4 w3 (w2.heap.size) (.string x) (.string ⟨#[]⟩) (.string ⟨#[]⟩) (.slice none 0 0) := C4.below ⟨by go_simp, by go_simp, by go_simp, by go_simp, by go_simp, by go_simp, by go_simp, by go_simp⟩ hb3
  clear hK K hHeld hb3 B3
  have hHeld := hNew
  clear hNew r0_w2 r1_w2 r2_w2 r3_w2 r4_w2 r5_w2 r6_w2 r7_w2
  obtain ⟨r0_w3, r1_w3, r2_w3, r3_w3, r4_w3, r5_w3, r6_w3, r7_w3⟩ := Hrw3
  obtain ⟨t0_w3, t1_w3, t2_w3, t3_w3, t4_w3, t5_w3, t6_w3, t7_w3⟩ := Htw3
  have qr_w3 := lt_of_cell r0_w3
  have qt_w3 := lt_of_cell t0_w3
  try simp only [Act.put, List.setIfInBounds_toArray, List.set_cons_zero, List.set_cons_succ, List.getElem_toArray, List.getElem_cons_zero, List.getElem_cons_succ]
  refine wpAnyH_take (i := 9) (v := ?v9) rfl (by kernel_rfl) (by kernel_rfl) (by kernel_rfl) (fun _ _ _ h => h) (Or.inl ⟨rfl, ?hy9⟩) hHeld ?rest9
  case hy9 => (intro w hSw; (try dsimp only at hSw); go_simp; try with_reducible rfl)
  try simp only [Act.put, List.setIfInBounds_toArray, List.set_cons_zero, List.set_cons_succ, List.getElem_toArray, List.getElem_cons_zero, List.getElem_cons_succ]
  refine wpAnyH_take (i := 10) (v := ?v10) rfl (by kernel_rfl) (by kernel_rfl) (by kernel_rfl) (fun _ _ _ h => h) (Or.inl ⟨rfl, ?hy10⟩) hHeld ?rest10
  case hy10 => (intro w hSw; (try dsimp only at hSw); go_simp; try with_reducible rfl)
  try simp only [Act.put, List.setIfInBounds_toArray, List.set_cons_zero, List.set_cons_succ, List.getElem_toArray, List.getElem_cons_zero, List.getElem_cons_succ]
  refine wpAnyH_ready (rs := [11]) (by kernel_rfl) (by simp) (AllReadyH.cons rfl (fun K hK => ?_) AllReadyH.nil)
  go_simp
  have hsc4 : u ++ p.extract 1 4 = sc := by rw [hsc, hp4]
  rw [hsc4]
  refine hK.out _ _ (cell_other hHeld (by intro e; injection e with e1; omega)) (fun hNew => ?_)
  clear hK K hHeld hNew hsc4
  refine wpAnyH_done (by kernel_rfl) ?_ _
  have Hrw4 : C4 (w3.setCell ⟨w2.heap.size, 1, none⟩ (.string sc)) (w.heap.size) (.string ⟨#[]⟩) (.string ⟨#[]⟩) (.string ⟨#[]⟩) (.slice none 0 0) := ⟨by go_simp, by go_simp, by go_simp, by go_simp, by go_simp, by go_simp, by go_simp, by go_simp⟩
  have Htw4 : C4 (w3.setCell ⟨w2.heap.size, 1, none⟩ (.string sc)) (w2.heap.size) (.string x) (.string sc) (.string ⟨#[]⟩) (.slice none 0 0) := ⟨by go_simp, by go_simp, by go_simp, by go_simp, by go_simp, by go_simp, by go_simp, by go_simp⟩
  have D4 : Below w2.heap.size w2 (w3.setCell ⟨w2.heap.size, 1, none⟩ (.string sc)) := bel_set Bw3.out (Nat.le_refl _)
  have hq4 : w2.heap.size < (w3.setCell ⟨w2.heap.size, 1, none⟩ (.string sc)).heap.size := lt_of_cell Htw4.c0
  clear r0_w3 r1_w3 r2_w3 r3_w3 r4_w3 r5_w3 r6_w3 r7_w3 t0_w3 t1_w3 t2_w3 t3_w3 t4_w3 t5_w3 t6_w3 t7_w3 qr_w3 qt_w3 Bw3 hcat huz hez hez0 hsc hp4 z1
  generalize (w3.setCell ⟨w2.heap.size, 1, none⟩ (.string sc)) = w4 at *
  have c2_w4 : w4.cell? ⟨bk, 2, none⟩ = some (.string q) := carry D4 c2_w2
  have c3_w4 : w4.cell? ⟨bk, 3, none⟩ = some (.string y) := carry D4 c3_w2
  clear c0_w2 c1_w2 c2_w2 c3_w2 qr_w2
  obtain ⟨r0_w4, r1_w4, r2_w4, r3_w4, r4_w4, r5_w4, r6_w4, r7_w4⟩ := Hrw4
  have qr_w4 := lt_of_cell r0_w4
  obtain ⟨t0_w4, t1_w4, t2_w4, t3_w4, t4_w4, t5_w4, t6_w4, t7_w4⟩ := Htw4
  have qt_w4 := lt_of_cell t0_w4
  go_wp2_with fail
  refine (rup_call q g HG.out (by omega) _).mono ?_
  rintro e w5 ⟨rfl, hb⟩
  have Hrw5 : C4 w5 (w.heap.size) (.string ⟨#[]⟩) (.string ⟨#[]⟩) (.string ⟨#[]⟩) (.slice none 0 0) := C4.below ⟨by go_simp, by go_simp, by go_simp, by go_simp, by go_simp, by go_simp, by go_simp, by go_simp⟩ hb
  have Htw5 : C4 w5 (w2.heap.size) (.string x) (.string sc) (.string ⟨#[]⟩) (.slice none 0 0) := C4.below ⟨by go_simp, by go_simp, by go_simp, by go_simp, by go_simp, by go_simp, by go_simp, by go_simp⟩ hb
  have c2_w5 : w5.cell? ⟨bk, 2, none⟩ = some (.string q) := carry hb (by go_simp)
  have c3_w5 : w5.cell? ⟨bk, 3, none⟩ = some (.string y) := carry hb (by go_simp)
  have D5 : Below w2.heap.size w2 w5 := (by (repeat (first | with_reducible exact Below.refl _ _ | with_reducible refine bel_set ?_ ?_ | with_reducible refine bel_alloc ?_ ?_ | with_reducible refine Below.drew ?_ | with_reducible refine bel_drewN _ ?_ | with_reducible refine bel_call ?_ (by assumption) ?_)); all_goals (first | (simp; done) | omega | (simp; omega)))
  clear hb c2_w4 c3_w4 r0_w4 r1_w4 r2_w4 r3_w4 r4_w4 r5_w4 r6_w4 r7_w4 qr_w4 t0_w4 t1_w4 t2_w4 t3_w4 t4_w4 t5_w4 t6_w4 t7_w4 qt_w4 D4 hq4
  obtain ⟨r0_w5, r1_w5, r2_w5, r3_w5, r4_w5, r5_w5, r6_w5, r7_w5⟩ := Hrw5
  have qr_w5 := lt_of_cell r0_w5
  obtain ⟨t0_w5, t1_w5, t2_w5, t3_w5, t4_w5, t5_w5, t6_w5, t7_w5⟩ := Htw5
  have qt_w5 := lt_of_cell t0_w5
  have DC : Below w2.heap.size w2 (w5.setCell ⟨w2.heap.size, 2, none⟩ (.string g)) := (by (repeat (first | with_reducible exact Below.refl _ _ | with_reducible refine bel_set ?_ ?_ | with_reducible refine bel_alloc ?_ ?_ | with_reducible refine Below.drew ?_ | with_reducible refine bel_drewN _ ?_ | with_reducible refine bel_call ?_ (by assumption) ?_)); all_goals (first | (simp; done) | omega | (simp; omega)))
  have SC : w2.heap.size < (w5.setCell ⟨w2.heap.size, 2, none⟩ (.string g)).heap.size := by simpa using qt_w5
  have HCL : Hid (∀ (j : Nat) z, (y :: r)[j]? = some z → (w5.setCell ⟨w2.heap.size, 2, none⟩ (.string g)).cell? ⟨bk, 3 + j, none⟩ = some (.string z)) := Lib.hid (fun j z hz => carry DC (HCP.out (3 + j) z (by rw [Nat.add_comm]; exact hz)))
  clear DC
  obtain ⟨bz, hbz⟩ : ∃ b, b = (w5.setCell ⟨w2.heap.size, 2, none⟩ (.string g)).heap.size := ⟨_, rfl⟩
  have HBZ := Lib.hid hbz
  have SCZ : w2.heap.size < bz := by rw [hbz]; exact SC
  have HSC := Lib.hid SCZ
  clear hbz SCZ SC
  go_wp2_with (at_builtin; refine wpList_append_many rfl _ _ rfl (ys := (y :: r)) rfl rfl (OwnsS.nil _ bz) (.inr ⟨bk, 3, rfl, HCL.out⟩) (by intro h; first | (cases h; done) | (split at h <;> cases h)) (by rw [HBZ.out]; exact Nat.le_refl _) (by first | (simp; done) | (simp; omega)) ?_; intro v' w6 ho hoff; have hb := (OwnsS.nil _ bz).grown hoff (by rw [HBZ.out]; exact Nat.le_refl _); rw [HBZ.out] at hb; rw [List.nil_append] at ho; obtain ⟨A, kc, rfl, _⟩ := ho.form; have Hrw6 : C4 w6 (w.heap.size) (.string ⟨#[]⟩) (.string ⟨#[]⟩) (.string ⟨#[]⟩) (.slice none 0 0) := C4.below ⟨by go_simp, by go_simp, by go_simp, by go_simp, by go_simp, by go_simp, by go_simp, by go_simp⟩ hb; have Htw6 : C4 w6 (w2.heap.size) (.string x) (.string sc) (.string g) (.slice none 0 0) := C4.below ⟨by go_simp, by go_simp, by go_simp, by go_simp, by go_simp, by go_simp, by go_simp, by go_simp⟩ hb; have D6 : Below w2.heap.size w2 w6 := (by (repeat (first | with_reducible exact Below.refl _ _ | with_reducible refine bel_set ?_ ?_ | with_reducible refine bel_alloc ?_ ?_ | with_reducible refine Below.drew ?_ | with_reducible refine bel_drewN _ ?_ | with_reducible refine bel_call ?_ (by assumption) ?_)); all_goals (first | (simp; done) | omega | (simp; omega))); obtain ⟨hkc, hA⟩ := ho.caps; have HKM := Lib.hid ho.capM; have HST := Lib.hid (ho.set w2.heap.size 3 (.slice A (r.length + 1) kc) HSC.out); have HA := Lib.hid hA; have HKC := Lib.hid hkc; clear hb ho hoff hA hkc HCL c2_w5 c3_w5 r0_w5 r1_w5 r2_w5 r3_w5 r4_w5 r5_w5 r6_w5 r7_w5 qr_w5 t0_w5 t1_w5 t2_w5 t3_w5 t4_w5 t5_w5 t6_w5 t7_w5 qt_w5 D5; obtain ⟨r0_w6, r1_w6, r2_w6, r3_w6, r4_w6, r5_w6, r6_w6, r7_w6⟩ := Hrw6; have qr_w6 := lt_of_cell r0_w6; obtain ⟨t0_w6, t1_w6, t2_w6, t3_w6, t4_w6, t5_w6, t6_w6, t7_w6⟩ := Htw6; have qt_w6 := lt_of_cell t0_w6)
  obtain ⟨E, hE⟩ : ∃ E, E = tagErr x.data.toList sc.data.toList g.data.toList (listsOf (y :: r)) := ⟨_, rfl⟩
  have KC := Lib.hid (ref_fault x sc g A kc (y :: r) (w6.setCell ⟨w2.heap.size, 3, none⟩ (.slice A (r.length + 1) kc)) (by omega) (by omega) (by omega) (fun v hv => by have := HZ.out v hv; omega) HST.out.strs HKC.out HKM.out)
  rw [← hE] at KC
  have HE := Lib.hid hE
  clear hE
  by_cases h0 : E = 0
  · subst h0
    refine (KC.out).mono ?_
    rintro e w7 ⟨rfl, hb⟩
    have Hrw7 : C4 w7 (w.heap.size) (.string ⟨#[]⟩) (.string ⟨#[]⟩) (.string ⟨#[]⟩) (.slice none 0 0) := C4.below ⟨by go_simp, by go_simp, by go_simp, by go_simp, by go_simp, by go_simp, by go_simp, by go_simp⟩ hb
    have Htw7 : C4 w7 (w2.heap.size) (.string x) (.string sc) (.string g) (.slice A (r.length + 1) kc) := C4.below ⟨by go_simp, by go_simp, by go_simp, by go_simp, by go_simp, by go_simp, by go_simp, by go_simp⟩ hb
    have D7 : Below w2.heap.size w2 w7 := (by (repeat (first | with_reducible exact Below.refl _ _ | with_reducible refine bel_set ?_ ?_ | with_reducible refine bel_alloc ?_ ?_ | with_reducible refine Below.drew ?_ | with_reducible refine bel_drewN _ ?_ | with_reducible refine bel_call ?_ (by assumption) ?_)); all_goals (first | (simp; done) | omega | (simp; omega)))
    have hbk := Lib.hid hb
    clear hb r0_w6 r1_w6 r2_w6 r3_w6 r4_w6 r5_w6 r6_w6 r7_w6 qr_w6 t0_w6 t1_w6 t2_w6 t3_w6 t4_w6 t5_w6 t6_w6 t7_w6 qt_w6 D6
    obtain ⟨r0_w7, r1_w7, r2_w7, r3_w7, r4_w7, r5_w7, r6_w7, r7_w7⟩ := Hrw7
    have qr_w7 := lt_of_cell r0_w7
    obtain ⟨t0_w7, t1_w7, t2_w7, t3_w7, t4_w7, t5_w7, t6_w7, t7_w7⟩ := Htw7
    have qt_w7 := lt_of_cell t0_w7
    have he0 := HE.out.symm
    have hlt := text_len he0
    obtain ⟨t, ht⟩ : ∃ t : ByteArray, t = ⟨(tagText x.data.toList sc.data.toList g.data.toList (listsOf (y :: r))).toArray⟩ := ⟨_, rfl⟩
    have htz : t.size ≤ 100 := by rw [← tsize, ht]; exact hlt
    have HST2 := Lib.hid (HST.out.below hbk.out)
    have KT := Lib.hid (ref_tag_text x sc g A kc (y :: r) w7 HST2.out.strs HA.out he0)
    rw [← ht] at KT
    obtain ⟨m, hm⟩ : ∃ m : ByteArray, lowerL t.data.toList = m.data.toList := ⟨⟨(lowerL t.data.toList).toArray⟩, rfl⟩
    have HMM := Lib.hid hm
    have HTT := Lib.hid ht
    clear hm ht hlt he0
    go_wp2_with fail
    clear hbk
    refine (KT.out).mono ?_
    rintro e w8 ⟨rfl, hb⟩
    have Hrw8 : C4 w8 (w.heap.size) (.string ⟨#[]⟩) (.string ⟨#[]⟩) (.string ⟨#[]⟩) (.slice none 0 0) := C4.below ⟨by go_simp, by go_simp, by go_simp, by go_simp, by go_simp, by go_simp, by go_simp, by go_simp⟩ hb
    have Htw8 : C4 w8 (w2.heap.size) (.string x) (.string sc) (.string g) (.slice A (r.length + 1) kc) := C4.below ⟨by go_simp, by go_simp, by go_simp, by go_simp, by go_simp, by go_simp, by go_simp, by go_simp⟩ hb
    have D8 : Below w2.heap.size w2 w8 := (by (repeat (first | with_reducible exact Below.refl _ _ | with_reducible refine bel_set ?_ ?_ | with_reducible refine bel_alloc ?_ ?_ | with_reducible refine Below.drew ?_ | with_reducible refine bel_drewN _ ?_ | with_reducible refine bel_call ?_ (by assumption) ?_)); all_goals (first | (simp; done) | omega | (simp; omega)))
    have hbk := Lib.hid hb
    clear hb r0_w7 r1_w7 r2_w7 r3_w7 r4_w7 r5_w7 r6_w7 r7_w7 qr_w7 t0_w7 t1_w7 t2_w7 t3_w7 t4_w7 t5_w7 t6_w7 t7_w7 qt_w7 D7
    obtain ⟨r0_w8, r1_w8, r2_w8, r3_w8, r4_w8, r5_w8, r6_w8, r7_w8⟩ := Hrw8
    have qr_w8 := lt_of_cell r0_w8
    obtain ⟨t0_w8, t1_w8, t2_w8, t3_w8, t4_w8, t5_w8, t6_w8, t7_w8⟩ := Htw8
    have qt_w8 := lt_of_cell t0_w8
    have HST3 := Lib.hid (HST2.out.below hbk.out)
    clear hbk
    go_wp2_with fail
    refine (rlow_call t m HMM.out (by omega) _).mono ?_
    rintro e w9 ⟨rfl, hb⟩
    have Hrw9 : C4 w9 (w.heap.size) (.string ⟨#[]⟩) (.string ⟨#[]⟩) (.string ⟨#[]⟩) (.slice none 0 0) := C4.below ⟨by go_simp, by go_simp, by go_simp, by go_simp, by go_simp, by go_simp, by go_simp, by go_simp⟩ hb
    have Htw9 : C4 w9 (w2.heap.size) (.string x) (.string sc) (.string g) (.slice A (r.length + 1) kc) := C4.below ⟨by go_simp, by go_simp, by go_simp, by go_simp, by go_simp, by go_simp, by go_simp, by go_simp⟩ hb
    have D9 : Below w2.heap.size w2 w9 := (by (repeat (first | with_reducible exact Below.refl _ _ | with_reducible refine bel_set ?_ ?_ | with_reducible refine bel_alloc ?_ ?_ | with_reducible refine Below.drew ?_ | with_reducible refine bel_drewN _ ?_ | with_reducible refine bel_call ?_ (by assumption) ?_)); all_goals (first | (simp; done) | omega | (simp; omega)))
    have hbk := Lib.hid hb
    clear hb r0_w8 r1_w8 r2_w8 r3_w8 r4_w8 r5_w8 r6_w8 r7_w8 qr_w8 t0_w8 t1_w8 t2_w8 t3_w8 t4_w8 t5_w8 t6_w8 t7_w8 qt_w8 D8
    obtain ⟨r0_w9, r1_w9, r2_w9, r3_w9, r4_w9, r5_w9, r6_w9, r7_w9⟩ := Hrw9
    have qr_w9 := lt_of_cell r0_w9
    obtain ⟨t0_w9, t1_w9, t2_w9, t3_w9, t4_w9, t5_w9, t6_w9, t7_w9⟩ := Htw9
    have qt_w9 := lt_of_cell t0_w9
    have HST4 := Lib.hid (HST3.out.below hbk.out)
    clear hbk
    go_wp2_with fail
    refine (rlow_call s L HL.out (by omega) _).mono ?_
    rintro e w10 ⟨rfl, hb⟩
    have Hrw10 : C4 w10 (w.heap.size) (.string ⟨#[]⟩) (.string ⟨#[]⟩) (.string ⟨#[]⟩) (.slice none 0 0) := C4.below ⟨by go_simp, by go_simp, by go_simp, by go_simp, by go_simp, by go_simp, by go_simp, by go_simp⟩ hb
    have Htw10 : C4 w10 (w2.heap.size) (.string x) (.string sc) (.string g) (.slice A (r.length + 1) kc) := C4.below ⟨by go_simp, by go_simp, by go_simp, by go_simp, by go_simp, by go_simp, by go_simp, by go_simp⟩ hb
    have D10 : Below w2.heap.size w2 w10 := (by (repeat (first | with_reducible exact Below.refl _ _ | with_reducible refine bel_set ?_ ?_ | with_reducible refine bel_alloc ?_ ?_ | with_reducible refine Below.drew ?_ | with_reducible refine bel_drewN _ ?_ | with_reducible refine bel_call ?_ (by assumption) ?_)); all_goals (first | (simp; done) | omega | (simp; omega)))
    have hbk := Lib.hid hb
    clear hb r0_w9 r1_w9 r2_w9 r3_w9 r4_w9 r5_w9 r6_w9 r7_w9 qr_w9 t0_w9 t1_w9 t2_w9 t3_w9 t4_w9 t5_w9 t6_w9 t7_w9 qt_w9 D9
    obtain ⟨r0_w10, r1_w10, r2_w10, r3_w10, r4_w10, r5_w10, r6_w10, r7_w10⟩ := Hrw10
    have qr_w10 := lt_of_cell r0_w10
    obtain ⟨t0_w10, t1_w10, t2_w10, t3_w10, t4_w10, t5_w10, t6_w10, t7_w10⟩ := Htw10
    have qt_w10 := lt_of_cell t0_w10
    have HST5 := Lib.hid (HST4.out.below hbk.out)
    clear hbk
    have hb1 := Bw1.out
    have hb2 := Bw2.out
    have b1 := hb1.size
    have b2 := hb2.size
    have hbD := hb2.trans (D10.mono hb2.size)
    cases hq : (m.toList == L.toList)
    · have hne : lowerL (tagText x.data.toList sc.data.toList g.data.toList (listsOf (y :: r))) ≠ lowerL s.data.toList := fun h => by
        have h2 := HMM.out
        rw [HTT.out] at h2
        rw [h2, HL.out] at h
        rw [Lib.toList_data, Lib.toList_data, h] at hq
        simp at hq
      have HNE := Lib.hid hne
      clear hne
      have hq2 : (m.toList != L.toList) = true := by rw [bne, hq]; rfl
      go_wp2_with fail
      exact bodyPost_ret (v := .tuple #[tagV ⟨#[]⟩ ⟨#[]⟩ ⟨#[]⟩ none 0 0, .bool false]) (by simp [results, Tryd.results19, go_sem, r0_w10, r1_w10, r2_w10, r3_w10, World.cell?_setCell_same, World.cell?_setCell_other]) rfl ⟨.inr ⟨isTagR_no2 HT.out HNE.out, rfl⟩, (by (repeat (first | with_reducible exact Below.refl _ _ | with_reducible refine bel_set ?_ ?_ | with_reducible refine bel_alloc ?_ ?_ | with_reducible refine Below.drew ?_ | with_reducible refine bel_drewN _ ?_ | with_reducible refine bel_call ?_ (by assumption) ?_)); all_goals (first | (simp; done) | omega | (simp; omega)))⟩
    · have hyes : isTagR s.data.toList = true := isTagR_yes HT.out HE.out.symm (by
        have h2 := HMM.out
        rw [HTT.out] at h2
        have h3 := eq_of_beq hq
        rw [Lib.toList_data, Lib.toList_data] at h3
        rw [HL.out, ← h3]
        exact h2)
      have HYES := Lib.hid hyes
      clear hyes
      have hq2 : m.toList = L.toList := by simpa using hq
      go_wp2_with fail
      refine bodyPost_ret (v := .tuple #[tagV x sc g A (y :: r).length kc, .bool true]) (by simp [results, Tryd.results19, go_sem, r0_w10, r1_w10, r2_w10, r3_w10, World.cell?_setCell_same, World.cell?_setCell_other]) rfl ⟨.inl ⟨HYES.out, x, sc, g, A, kc, (y :: r), rfl, HT.out, ?_, ?_, ?_⟩, (by (repeat (first | with_reducible exact Below.refl _ _ | with_reducible refine bel_set ?_ ?_ | with_reducible refine bel_alloc ?_ ?_ | with_reducible refine Below.drew ?_ | with_reducible refine bel_drewN _ ?_ | with_reducible refine bel_call ?_ (by assumption) ?_)); all_goals (first | (simp; done) | omega | (simp; omega)))⟩
      · have hl : w.heap.size < bz := by have := HSC.out; omega
        exact ((((HST5.out.set _ _ _ hl).set _ _ _ hl).set _ _ _ hl).set _ _ _ hl).strs
      · exact HKC.out
      · exact HA.out
  · have E0 : (E != 0) = true := bne_iff_ne.2 h0
    have HNE : Hid (tagErr x.data.toList sc.data.toList g.data.toList (listsOf (y :: r)) ≠ 0) := Lib.hid (fun h => h0 (HE.out.trans h))
    clear h0 HE
    refine (KC.out).mono ?_
    rintro e w7 ⟨rfl, hb⟩
    have Hrw7 : C4 w7 (w.heap.size) (.string ⟨#[]⟩) (.string ⟨#[]⟩) (.string ⟨#[]⟩) (.slice none 0 0) := C4.below ⟨by go_simp, by go_simp, by go_simp, by go_simp, by go_simp, by go_simp, by go_simp, by go_simp⟩ hb
    have Htw7 : C4 w7 (w2.heap.size) (.string x) (.string sc) (.string g) (.slice A (r.length + 1) kc) := C4.below ⟨by go_simp, by go_simp, by go_simp, by go_simp, by go_simp, by go_simp, by go_simp, by go_simp⟩ hb
    have D7 : Below w2.heap.size w2 w7 := (by (repeat (first | with_reducible exact Below.refl _ _ | with_reducible refine bel_set ?_ ?_ | with_reducible refine bel_alloc ?_ ?_ | with_reducible refine Below.drew ?_ | with_reducible refine bel_drewN _ ?_ | with_reducible refine bel_call ?_ (by assumption) ?_)); all_goals (first | (simp; done) | omega | (simp; omega)))
    clear hb r0_w6 r1_w6 r2_w6 r3_w6 r4_w6 r5_w6 r6_w6 r7_w6 qr_w6 t0_w6 t1_w6 t2_w6 t3_w6 t4_w6 t5_w6 t6_w6 t7_w6 qt_w6 D6
    obtain ⟨r0_w7, r1_w7, r2_w7, r3_w7, r4_w7, r5_w7, r6_w7, r7_w7⟩ := Hrw7
    have qr_w7 := lt_of_cell r0_w7
    obtain ⟨t0_w7, t1_w7, t2_w7, t3_w7, t4_w7, t5_w7, t6_w7, t7_w7⟩ := Htw7
    have qt_w7 := lt_of_cell t0_w7
    have hb1 := Bw1.out
    have hb2 := Bw2.out
    have b1 := hb1.size
    have b2 := hb2.size
    have hbD := hb2.trans (D7.mono hb2.size)
    go_wp2_with fail
    exact bodyPost_ret (v := .tuple #[tagV ⟨#[]⟩ ⟨#[]⟩ ⟨#[]⟩ none 0 0, .bool false]) (by simp [results, Tryd.results19, go_sem, r0_w7, r1_w7, r2_w7, r3_w7, World.cell?_setCell_same, World.cell?_setCell_other]) rfl ⟨.inr ⟨isTagR_no1 HT.out HNE.out, rfl⟩, (by (repeat (first | with_reducible exact Below.refl _ _ | with_reducible refine bel_set ?_ ?_ | with_reducible refine bel_alloc ?_ ?_ | with_reducible refine Below.drew ?_ | with_reducible refine bel_drewN _ ?_ | with_reducible refine bel_call ?_ (by assumption) ?_)); all_goals (first | (simp; done) | omega | (simp; omega)))⟩
end Go.Proofs.YtnhlnhmjnnopaaaDoor

/- linguisterref1.TagOf: way 4. -/
namespace Go.Proofs.YtnhlnhmjnnopaaaDoor
open Go.RowKit

set_option maxHeartbeats 4000000 in
set_option maxRecDepth 100000 in
theorem tagof_way4 (s L x p y : ByteArray) (r : List ByteArray) (w : World) (hM : MaxL w) (hs : s.size ≤ 1000000000) (hL : lowerL s.data.toList = L.data.toList) (hps : listsOf (x :: p :: y :: r) = splitD L.data.toList) (hp : p.size = 4) (hm : ¬ y.size < 4) :
    Calls Tryd.prog 19 #[.string s] w fun e w' => TagOut s e w' ∧ Below w.heap.size w w' := by
  obtain ⟨hmade, hsz, hcnt⟩ := made_isR hL hps
  have hLs : L.size = s.size := by rw [← tsize, ← tsize, ← hL]; unfold lowerL; simp
  have hp4 : p.size = 4 := hp
  obtain ⟨u, hu⟩ : ∃ u : ByteArray, upperL (p.extract 0 1).data.toList = u.data.toList := ⟨⟨(upperL (p.extract 0 1).data.toList).toArray⟩, rfl⟩
  have huz : u.size = 1 := by rw [← tsize, ← hu, upper_len, Lib.extract_from_zero, List.length_take, tsize]; omega
  have hez : (p.extract 1 p.size).size ≤ 4 := by rw [ByteArray.size_extract]; omega
  have hez0 : (p.extract 0 1).size ≤ 9223372036854775807 := by rw [ByteArray.size_extract]; omega
  obtain ⟨sc, hsc, hcat⟩ := add_let u (p.extract 1 p.size) (by omega)
  have hsc2 : sc.data.toList = upperL (p.data.toList.take 1) ++ p.data.toList.drop 1 := by rw [hsc, ByteArray.data_append, Array.toList_append, ← hu, Lib.extract_from_zero, Lib.extract_to_end]
  have hscz : sc.size ≤ 1000000000 := by rw [← tsize, hsc2, List.length_append, upper_len, ← List.length_append, List.take_append_drop, tsize]; omega
  obtain ⟨g, hg⟩ : ∃ g : ByteArray, upperL y.data.toList = g.data.toList := ⟨⟨(upperL y.data.toList).toArray⟩, rfl⟩
  have hgz : g.size ≤ 1000000000 := by have h := hsz y (by simp); rw [← tsize, ← hg, upper_len, tsize]; omega
  have hT : madeR s.data.toList = ⟨x.data.toList, sc.data.toList, [], listsOf (y :: r)⟩ := by
    rw [hmade]
    simp [listsOf, List.map_cons, List.map_nil, scrR, regR, tsize, hp, hsc2, hg, hm]
  have HT := Lib.hid hT
  have zx : x.size ≤ 1000000000 := by have := hsz x (by simp); omega
  have zp : p.size ≤ 1000000000 := by have := hsz p (by simp); omega
  have zy : y.size ≤ 1000000000 := by have := hsz y (by simp); omega
  have hrl : r.length ≤ 1000000000 := by simp at hcnt; omega
  have HZ : Hid (∀ v ∈ (y :: r), v.size ≤ 1000000000) := Lib.hid (fun v hv => by have := hsz v (List.mem_cons_of_mem _ (List.mem_cons_of_mem _ hv)); omega)
  have HPS := Lib.hid hps
  have HL := Lib.hid hL
  have HM := Lib.hid hM
  have HU := Lib.hid hu
  have HP := Lib.hid hp
  have HG := Lib.hid hg
  have HQ := Lib.hid hm
  clear hmade hsz hcnt hT hps hL hM hu hp hsc2 hg hm
  go_enter Tryd.func19, Tryd.ntmps19
  go_wp2_with fail
  refine (rlow_call s L HL.out (by omega) _).mono ?_
  rintro e w1 ⟨rfl, hb1⟩
  have Hrw1 : C4 w1 (w.heap.size) (.string ⟨#[]⟩) (.string ⟨#[]⟩) (.string ⟨#[]⟩) (.slice none 0 0) := C4.below ⟨by go_simp, by go_simp, by go_simp, by go_simp, by go_simp, by go_simp, by go_simp, by go_simp⟩ hb1
  have Bw1 := Lib.hid hb1
  obtain ⟨r0_w1, r1_w1, r2_w1, r3_w1, r4_w1, r5_w1, r6_w1, r7_w1⟩ := Hrw1
  have qr_w1 := lt_of_cell r0_w1
  have s1 : w.heap.size < w1.heap.size := qr_w1
  go_wp2_with fail
  refine (cut_call L x _ HPS.out _ (by omega)).mono ?_
  rintro e w2 ⟨bk, cd, rfl, hcd, hbk0, hcp, hb2⟩
  have HCP := Lib.hid hcp
  have c0_w2 : w2.cell? ⟨bk, 0, none⟩ = some (.string x) := hcp 0 x rfl
  have c1_w2 : w2.cell? ⟨bk, 1, none⟩ = some (.string p) := hcp 1 p rfl
  have c2_w2 : w2.cell? ⟨bk, 2, none⟩ = some (.string y) := hcp 2 y rfl
  have Hrw2 : C4 w2 (w.heap.size) (.string ⟨#[]⟩) (.string ⟨#[]⟩) (.string ⟨#[]⟩) (.slice none 0 0) := C4.below ⟨by go_simp, by go_simp, by go_simp, by go_simp, by go_simp, by go_simp, by go_simp, by go_simp⟩ hb2
  have Bw2 := Lib.hid hb2
  clear hcp hb2 r0_w1 r1_w1 r2_w1 r3_w1 r4_w1 r5_w1 r6_w1 r7_w1 qr_w1
  obtain ⟨r0_w2, r1_w2, r2_w2, r3_w2, r4_w2, r5_w2, r6_w2, r7_w2⟩ := Hrw2
  have qr_w2 := lt_of_cell r0_w2
  have qc_w2 := lt_of_cell c0_w2
  simp only [List.length_cons, List.length_nil, Nat.zero_add] at hcd ⊢
  have hbk1 : w.heap.size < bk := by omega
  have hcd2 : r.length + 3 ≤ cd := by omega
  clear hcd hbk0
  have ncd1 : ¬ cd = 1 := by omega
  have ncd2 : ¬ cd - 1 = 1 := by omega
  have tp : ((p.size : Int) == 4) = true := by rw [hp4]; rfl
  have tq : ¬ (y.size : Int) < 4 := by have := HQ.out; omega
  have l1 : (0 : Int) < (r.length : Int) + 2 := by omega
  have l2 : (0 : Int) < (r.length : Int) + 1 := by omega
  go_wp2_with fail
  have z1 : (1 : Int) ≤ (p.size : Int) := by omega
  refine wp_region_held_drew (S := fun w' => w'.cell? ⟨bk, 1, none⟩ = some (.string p)) (by kernel_rfl) ?_ (fun hHeld => ?_)
  · (try dsimp only); go_simp
  refine wpAnyH_take (i := 0) (v := ?v1) rfl (by kernel_rfl) (by kernel_rfl) (by kernel_rfl) (fun _ _ _ h => h) (Or.inl ⟨rfl, ?hy1⟩) hHeld ?rest1
  case hy1 => (intro w hSw; (try dsimp only at hSw); go_simp; try with_reducible rfl)
  try simp only [Act.put, List.setIfInBounds_toArray, List.set_cons_zero, List.set_cons_succ, List.getElem_toArray, List.getElem_cons_zero, List.getElem_cons_succ]
  refine wpAnyH_take (i := 1) (v := ?v2) rfl (by kernel_rfl) (by kernel_rfl) (by kernel_rfl) (fun _ _ _ h => h) (Or.inl ⟨rfl, ?hy2⟩) hHeld ?rest2
  case hy2 => (intro w hSw; (try dsimp only at hSw); go_simp; try with_reducible rfl)
  try simp only [Act.put, List.setIfInBounds_toArray, List.set_cons_zero, List.set_cons_succ, List.getElem_toArray, List.getElem_cons_zero, List.getElem_cons_succ]
  refine wpAnyH_take (i := 2) (v := ?v3) rfl (by kernel_rfl) (by kernel_rfl) (by kernel_rfl) (fun _ _ _ h => h) (Or.inl ⟨rfl, ?hy3⟩) hHeld ?rest3
  case hy3 => (intro w hSw; (try dsimp only at hSw); go_simp; try with_reducible rfl)
  try simp only [Act.put, List.setIfInBounds_toArray, List.set_cons_zero, List.set_cons_succ, List.getElem_toArray, List.getElem_cons_zero, List.getElem_cons_succ]
  refine wpAnyH_take (i := 3) (v := ?v4) rfl (by kernel_rfl) (by kernel_rfl) (by kernel_rfl) (fun _ _ _ h => h) (Or.inl ⟨rfl, ?hy4⟩) hHeld ?rest4
  case hy4 => (intro w hSw; (try dsimp only at hSw); go_simp; try with_reducible rfl)
  try simp only [Act.put, List.setIfInBounds_toArray, List.set_cons_zero, List.set_cons_succ, List.getElem_toArray, List.getElem_cons_zero, List.getElem_cons_succ]
  refine wpAnyH_take (i := 5) (v := ?v5) rfl (by kernel_rfl) (by kernel_rfl) (by kernel_rfl) (fun _ _ _ h => h) (Or.inl ⟨rfl, ?hy5⟩) hHeld ?rest5
  case hy5 => (intro w hSw; (try dsimp only at hSw); go_simp; try with_reducible rfl)
  try simp only [Act.put, List.setIfInBounds_toArray, List.set_cons_zero, List.set_cons_succ, List.getElem_toArray, List.getElem_cons_zero, List.getElem_cons_succ]
  refine wpAnyH_take (i := 6) (v := ?v6) rfl (by kernel_rfl) (by kernel_rfl) (by kernel_rfl) (fun _ _ _ h => h) (Or.inl ⟨rfl, ?hy6⟩) hHeld ?rest6
  case hy6 => (intro w hSw; (try dsimp only at hSw); go_simp; try with_reducible rfl)
  try simp only [Act.put, List.setIfInBounds_toArray, List.set_cons_zero, List.set_cons_succ, List.getElem_toArray, List.getElem_cons_zero, List.getElem_cons_succ]
  refine wpAnyH_take (i := 7) (v := ?v7) rfl (by kernel_rfl) (by kernel_rfl) (by kernel_rfl) (fun _ _ _ h => h) (Or.inl ⟨rfl, ?hy7⟩) hHeld ?rest7
  case hy7 => (intro w hSw; (try dsimp only at hSw); go_simp; try with_reducible rfl)
  try simp only [Act.put, List.setIfInBounds_toArray, List.set_cons_zero, List.set_cons_succ, List.getElem_toArray, List.getElem_cons_zero, List.getElem_cons_succ]
  refine wpAnyH_take (i := 8) (v := ?v8) rfl (by kernel_rfl) (by kernel_rfl) (by kernel_rfl) (fun _ _ _ h => h) (Or.inl ⟨rfl, ?hy8⟩) hHeld ?rest8
  case hy8 => (intro w hSw; (try dsimp only at hSw); go_simp; try with_reducible rfl)
  try simp only [Act.put, List.setIfInBounds_toArray, List.set_cons_zero, List.set_cons_succ, List.getElem_toArray, List.getElem_cons_zero, List.getElem_cons_succ]
  refine wpAnyH_ready (rs := [4]) (by kernel_rfl) (by simp) (AllReadyH.cons rfl (fun K hK => ?_) AllReadyH.nil)
  go_simp
  go_at_call 45; refine (rup_call (p.extract 0 1) u HU.out hez0 _).mono ?_; rintro e w3 ⟨rfl, hb3⟩
  try dsimp only
  refine hK.out _ _ (carry hb3 (by go_simp)) (fun hNew => ?_)
  have B3 : Below w2.heap.size w2 w3 := Below.trans ((Below.refl w2.heap.size w2).alloc (Nat.le_refl _) (.cells #[.string x, .string ⟨#[]⟩, .string ⟨#[]⟩, .slice none 0 0] 47)).drew (hb3.mono (show w2.heap.size ≤ _ by simp))
  have Bw3 := Lib.hid B3
  have Hrw3 : C4 w3 (w.heap.size) (.string ⟨#[]⟩) (.string ⟨#[]⟩) (.string ⟨#[]⟩) (.slice none 0 0) := C4.below ⟨by go_simp, by go_simp, by go_simp, by go_simp, by go_simp, by go_simp, by go_simp, by go_simp⟩ hb3
  have Htw3 : C4 w3 (w2.heap.size) (.string x) (.string ⟨#[]⟩) (.string ⟨#[]⟩) (.slice none 0 0) := C4.below ⟨by go_simp, by go_simp, by go_simp, by go_simp, by go_simp, by go_simp, by go_simp, by go_simp⟩ hb3
  clear hK K hHeld hb3 B3
  have hHeld := hNew
  clear hNew r0_w2 r1_w2 r2_w2 r3_w2 r4_w2 r5_w2 r6_w2 r7_w2
  obtain ⟨r0_w3, r1_w3, r2_w3, r3_w3, r4_w3, r5_w3, r6_w3, r7_w3⟩ := Hrw3
  obtain ⟨t0_w3, t1_w3, t2_w3, t3_w3, t4_w3, t5_w3, t6_w3, t7_w3⟩ := Htw3
  have qr_w3 := lt_of_cell r0_w3
  have qt_w3 := lt_of_cell t0_w3
  try simp only [Act.put, List.setIfInBounds_toArray, List.set_cons_zero, List.set_cons_succ, List.getElem_toArray, List.getElem_cons_zero, List.getElem_cons_succ]
  refine wpAnyH_take (i := 9) (v := ?v9) rfl (by kernel_rfl) (by kernel_rfl) (by kernel_rfl) (fun _ _ _ h => h) (Or.inl ⟨rfl, ?hy9⟩) hHeld ?rest9
  case hy9 => (intro w hSw; (try dsimp only at hSw); go_simp; try with_reducible rfl)
  try simp only [Act.put, List.setIfInBounds_toArray, List.set_cons_zero, List.set_cons_succ, List.getElem_toArray, List.getElem_cons_zero, List.getElem_cons_succ]
  refine wpAnyH_take (i := 10) (v := ?v10) rfl (by kernel_rfl) (by kernel_rfl) (by kernel_rfl) (fun _ _ _ h => h) (Or.inl ⟨rfl, ?hy10⟩) hHeld ?rest10
  case hy10 => (intro w hSw; (try dsimp only at hSw); go_simp; try with_reducible rfl)
  try simp only [Act.put, List.setIfInBounds_toArray, List.set_cons_zero, List.set_cons_succ, List.getElem_toArray, List.getElem_cons_zero, List.getElem_cons_succ]
  refine wpAnyH_ready (rs := [11]) (by kernel_rfl) (by simp) (AllReadyH.cons rfl (fun K hK => ?_) AllReadyH.nil)
  go_simp
  have hsc4 : u ++ p.extract 1 4 = sc := by rw [hsc, hp4]
  rw [hsc4]
  refine hK.out _ _ (cell_other hHeld (by intro e; injection e with e1; omega)) (fun hNew => ?_)
  clear hK K hHeld hNew hsc4
  refine wpAnyH_done (by kernel_rfl) ?_ _
  have Hrw4 : C4 (w3.setCell ⟨w2.heap.size, 1, none⟩ (.string sc)) (w.heap.size) (.string ⟨#[]⟩) (.string ⟨#[]⟩) (.string ⟨#[]⟩) (.slice none 0 0) := ⟨by go_simp, by go_simp, by go_simp, by go_simp, by go_simp, by go_simp, by go_simp, by go_simp⟩
  have Htw4 : C4 (w3.setCell ⟨w2.heap.size, 1, none⟩ (.string sc)) (w2.heap.size) (.string x) (.string sc) (.string ⟨#[]⟩) (.slice none 0 0) := ⟨by go_simp, by go_simp, by go_simp, by go_simp, by go_simp, by go_simp, by go_simp, by go_simp⟩
  have D4 : Below w2.heap.size w2 (w3.setCell ⟨w2.heap.size, 1, none⟩ (.string sc)) := bel_set Bw3.out (Nat.le_refl _)
  have hq4 : w2.heap.size < (w3.setCell ⟨w2.heap.size, 1, none⟩ (.string sc)).heap.size := lt_of_cell Htw4.c0
  clear r0_w3 r1_w3 r2_w3 r3_w3 r4_w3 r5_w3 r6_w3 r7_w3 t0_w3 t1_w3 t2_w3 t3_w3 t4_w3 t5_w3 t6_w3 t7_w3 qr_w3 qt_w3 Bw3 hcat huz hez hez0 hsc hp4 z1
  generalize (w3.setCell ⟨w2.heap.size, 1, none⟩ (.string sc)) = w4 at *
  have c2_w4 : w4.cell? ⟨bk, 2, none⟩ = some (.string y) := carry D4 c2_w2
  clear c0_w2 c1_w2 c2_w2 qr_w2
  obtain ⟨r0_w4, r1_w4, r2_w4, r3_w4, r4_w4, r5_w4, r6_w4, r7_w4⟩ := Hrw4
  have qr_w4 := lt_of_cell r0_w4
  obtain ⟨t0_w4, t1_w4, t2_w4, t3_w4, t4_w4, t5_w4, t6_w4, t7_w4⟩ := Htw4
  have qt_w4 := lt_of_cell t0_w4
  have DC : Below w2.heap.size w2 w4 := (by (repeat (first | with_reducible exact Below.refl _ _ | with_reducible refine bel_set ?_ ?_ | with_reducible refine bel_alloc ?_ ?_ | with_reducible refine Below.drew ?_ | with_reducible refine bel_drewN _ ?_ | with_reducible refine bel_call ?_ (by assumption) ?_)); all_goals (first | (simp; done) | omega | (simp; omega)))
  have SC : w2.heap.size < w4.heap.size := by simpa using qt_w4
  have HCL : Hid (∀ (j : Nat) z, (y :: r)[j]? = some z → w4.cell? ⟨bk, 2 + j, none⟩ = some (.string z)) := Lib.hid (fun j z hz => carry DC (HCP.out (2 + j) z (by rw [Nat.add_comm]; exact hz)))
  clear DC
  obtain ⟨bz, hbz⟩ : ∃ b, b = w4.heap.size := ⟨_, rfl⟩
  have HBZ := Lib.hid hbz
  have SCZ : w2.heap.size < bz := by rw [hbz]; exact SC
  have HSC := Lib.hid SCZ
  clear hbz SCZ SC
  go_wp2_with (at_builtin; refine wpList_append_many rfl _ _ rfl (ys := (y :: r)) rfl rfl (OwnsS.nil _ bz) (.inr ⟨bk, 2, rfl, HCL.out⟩) (by intro h; first | (cases h; done) | (split at h <;> cases h)) (by rw [HBZ.out]; exact Nat.le_refl _) (by first | (simp; done) | (simp; omega)) ?_; intro v' w5 ho hoff; have hb := (OwnsS.nil _ bz).grown hoff (by rw [HBZ.out]; exact Nat.le_refl _); rw [HBZ.out] at hb; rw [List.nil_append] at ho; obtain ⟨A, kc, rfl, _⟩ := ho.form; have Hrw5 : C4 w5 (w.heap.size) (.string ⟨#[]⟩) (.string ⟨#[]⟩) (.string ⟨#[]⟩) (.slice none 0 0) := C4.below ⟨by go_simp, by go_simp, by go_simp, by go_simp, by go_simp, by go_simp, by go_simp, by go_simp⟩ hb; have Htw5 : C4 w5 (w2.heap.size) (.string x) (.string sc) (.string ⟨#[]⟩) (.slice none 0 0) := C4.below ⟨by go_simp, by go_simp, by go_simp, by go_simp, by go_simp, by go_simp, by go_simp, by go_simp⟩ hb; have D5 : Below w2.heap.size w2 w5 := (by (repeat (first | with_reducible exact Below.refl _ _ | with_reducible refine bel_set ?_ ?_ | with_reducible refine bel_alloc ?_ ?_ | with_reducible refine Below.drew ?_ | with_reducible refine bel_drewN _ ?_ | with_reducible refine bel_call ?_ (by assumption) ?_)); all_goals (first | (simp; done) | omega | (simp; omega))); obtain ⟨hkc, hA⟩ := ho.caps; have HKM := Lib.hid ho.capM; have HST := Lib.hid (ho.set w2.heap.size 3 (.slice A (r.length + 1) kc) HSC.out); have HA := Lib.hid hA; have HKC := Lib.hid hkc; clear hb ho hoff hA hkc HCL c2_w4 r0_w4 r1_w4 r2_w4 r3_w4 r4_w4 r5_w4 r6_w4 r7_w4 qr_w4 t0_w4 t1_w4 t2_w4 t3_w4 t4_w4 t5_w4 t6_w4 t7_w4 qt_w4 D4 hq4; obtain ⟨r0_w5, r1_w5, r2_w5, r3_w5, r4_w5, r5_w5, r6_w5, r7_w5⟩ := Hrw5; have qr_w5 := lt_of_cell r0_w5; obtain ⟨t0_w5, t1_w5, t2_w5, t3_w5, t4_w5, t5_w5, t6_w5, t7_w5⟩ := Htw5; have qt_w5 := lt_of_cell t0_w5)
  obtain ⟨E, hE⟩ : ∃ E, E = tagErr x.data.toList sc.data.toList (⟨#[]⟩ : ByteArray).data.toList (listsOf (y :: r)) := ⟨_, rfl⟩
  have KC := Lib.hid (ref_fault x sc ⟨#[]⟩ A kc (y :: r) (w5.setCell ⟨w2.heap.size, 3, none⟩ (.slice A (r.length + 1) kc)) (by omega) (by omega) (by decide) (fun v hv => by have := HZ.out v hv; omega) HST.out.strs HKC.out HKM.out)
  rw [← hE] at KC
  have HE := Lib.hid hE
  clear hE
  by_cases h0 : E = 0
  · subst h0
    refine (KC.out).mono ?_
    rintro e w6 ⟨rfl, hb⟩
    have Hrw6 : C4 w6 (w.heap.size) (.string ⟨#[]⟩) (.string ⟨#[]⟩) (.string ⟨#[]⟩) (.slice none 0 0) := C4.below ⟨by go_simp, by go_simp, by go_simp, by go_simp, by go_simp, by go_simp, by go_simp, by go_simp⟩ hb
    have Htw6 : C4 w6 (w2.heap.size) (.string x) (.string sc) (.string ⟨#[]⟩) (.slice A (r.length + 1) kc) := C4.below ⟨by go_simp, by go_simp, by go_simp, by go_simp, by go_simp, by go_simp, by go_simp, by go_simp⟩ hb
    have D6 : Below w2.heap.size w2 w6 := (by (repeat (first | with_reducible exact Below.refl _ _ | with_reducible refine bel_set ?_ ?_ | with_reducible refine bel_alloc ?_ ?_ | with_reducible refine Below.drew ?_ | with_reducible refine bel_drewN _ ?_ | with_reducible refine bel_call ?_ (by assumption) ?_)); all_goals (first | (simp; done) | omega | (simp; omega)))
    have hbk := Lib.hid hb
    clear hb r0_w5 r1_w5 r2_w5 r3_w5 r4_w5 r5_w5 r6_w5 r7_w5 qr_w5 t0_w5 t1_w5 t2_w5 t3_w5 t4_w5 t5_w5 t6_w5 t7_w5 qt_w5 D5
    obtain ⟨r0_w6, r1_w6, r2_w6, r3_w6, r4_w6, r5_w6, r6_w6, r7_w6⟩ := Hrw6
    have qr_w6 := lt_of_cell r0_w6
    obtain ⟨t0_w6, t1_w6, t2_w6, t3_w6, t4_w6, t5_w6, t6_w6, t7_w6⟩ := Htw6
    have qt_w6 := lt_of_cell t0_w6
    have he0 := HE.out.symm
    have hlt := text_len he0
    obtain ⟨t, ht⟩ : ∃ t : ByteArray, t = ⟨(tagText x.data.toList sc.data.toList (⟨#[]⟩ : ByteArray).data.toList (listsOf (y :: r))).toArray⟩ := ⟨_, rfl⟩
    have htz : t.size ≤ 100 := by rw [← tsize, ht]; exact hlt
    have HST2 := Lib.hid (HST.out.below hbk.out)
    have KT := Lib.hid (ref_tag_text x sc ⟨#[]⟩ A kc (y :: r) w6 HST2.out.strs HA.out he0)
    rw [← ht] at KT
    obtain ⟨m, hm⟩ : ∃ m : ByteArray, lowerL t.data.toList = m.data.toList := ⟨⟨(lowerL t.data.toList).toArray⟩, rfl⟩
    have HMM := Lib.hid hm
    have HTT := Lib.hid ht
    clear hm ht hlt he0
    go_wp2_with fail
    clear hbk
    refine (KT.out).mono ?_
    rintro e w7 ⟨rfl, hb⟩
    have Hrw7 : C4 w7 (w.heap.size) (.string ⟨#[]⟩) (.string ⟨#[]⟩) (.string ⟨#[]⟩) (.slice none 0 0) := C4.below ⟨by go_simp, by go_simp, by go_simp, by go_simp, by go_simp, by go_simp, by go_simp, by go_simp⟩ hb
    have Htw7 : C4 w7 (w2.heap.size) (.string x) (.string sc) (.string ⟨#[]⟩) (.slice A (r.length + 1) kc) := C4.below ⟨by go_simp, by go_simp, by go_simp, by go_simp, by go_simp, by go_simp, by go_simp, by go_simp⟩ hb
    have D7 : Below w2.heap.size w2 w7 := (by (repeat (first | with_reducible exact Below.refl _ _ | with_reducible refine bel_set ?_ ?_ | with_reducible refine bel_alloc ?_ ?_ | with_reducible refine Below.drew ?_ | with_reducible refine bel_drewN _ ?_ | with_reducible refine bel_call ?_ (by assumption) ?_)); all_goals (first | (simp; done) | omega | (simp; omega)))
    have hbk := Lib.hid hb
    clear hb r0_w6 r1_w6 r2_w6 r3_w6 r4_w6 r5_w6 r6_w6 r7_w6 qr_w6 t0_w6 t1_w6 t2_w6 t3_w6 t4_w6 t5_w6 t6_w6 t7_w6 qt_w6 D6
    obtain ⟨r0_w7, r1_w7, r2_w7, r3_w7, r4_w7, r5_w7, r6_w7, r7_w7⟩ := Hrw7
    have qr_w7 := lt_of_cell r0_w7
    obtain ⟨t0_w7, t1_w7, t2_w7, t3_w7, t4_w7, t5_w7, t6_w7, t7_w7⟩ := Htw7
    have qt_w7 := lt_of_cell t0_w7
    have HST3 := Lib.hid (HST2.out.below hbk.out)
    clear hbk
    go_wp2_with fail
    refine (rlow_call t m HMM.out (by omega) _).mono ?_
    rintro e w8 ⟨rfl, hb⟩
    have Hrw8 : C4 w8 (w.heap.size) (.string ⟨#[]⟩) (.string ⟨#[]⟩) (.string ⟨#[]⟩) (.slice none 0 0) := C4.below ⟨by go_simp, by go_simp, by go_simp, by go_simp, by go_simp, by go_simp, by go_simp, by go_simp⟩ hb
    have Htw8 : C4 w8 (w2.heap.size) (.string x) (.string sc) (.string ⟨#[]⟩) (.slice A (r.length + 1) kc) := C4.below ⟨by go_simp, by go_simp, by go_simp, by go_simp, by go_simp, by go_simp, by go_simp, by go_simp⟩ hb
    have D8 : Below w2.heap.size w2 w8 := (by (repeat (first | with_reducible exact Below.refl _ _ | with_reducible refine bel_set ?_ ?_ | with_reducible refine bel_alloc ?_ ?_ | with_reducible refine Below.drew ?_ | with_reducible refine bel_drewN _ ?_ | with_reducible refine bel_call ?_ (by assumption) ?_)); all_goals (first | (simp; done) | omega | (simp; omega)))
    have hbk := Lib.hid hb
    clear hb r0_w7 r1_w7 r2_w7 r3_w7 r4_w7 r5_w7 r6_w7 r7_w7 qr_w7 t0_w7 t1_w7 t2_w7 t3_w7 t4_w7 t5_w7 t6_w7 t7_w7 qt_w7 D7
    obtain ⟨r0_w8, r1_w8, r2_w8, r3_w8, r4_w8, r5_w8, r6_w8, r7_w8⟩ := Hrw8
    have qr_w8 := lt_of_cell r0_w8
    obtain ⟨t0_w8, t1_w8, t2_w8, t3_w8, t4_w8, t5_w8, t6_w8, t7_w8⟩ := Htw8
    have qt_w8 := lt_of_cell t0_w8
    have HST4 := Lib.hid (HST3.out.below hbk.out)
    clear hbk
    go_wp2_with fail
    refine (rlow_call s L HL.out (by omega) _).mono ?_
    rintro e w9 ⟨rfl, hb⟩
    have Hrw9 : C4 w9 (w.heap.size) (.string ⟨#[]⟩) (.string ⟨#[]⟩) (.string ⟨#[]⟩) (.slice none 0 0) := C4.below ⟨by go_simp, by go_simp, by go_simp, by go_simp, by go_simp, by go_simp, by go_simp, by go_simp⟩ hb
    have Htw9 : C4 w9 (w2.heap.size) (.string x) (.string sc) (.string ⟨#[]⟩) (.slice A (r.length + 1) kc) := C4.below ⟨by go_simp, by go_simp, by go_simp, by go_simp, by go_simp, by go_simp, by go_simp, by go_simp⟩ hb
    have D9 : Below w2.heap.size w2 w9 := (by (repeat (first | with_reducible exact Below.refl _ _ | with_reducible refine bel_set ?_ ?_ | with_reducible refine bel_alloc ?_ ?_ | with_reducible refine Below.drew ?_ | with_reducible refine bel_drewN _ ?_ | with_reducible refine bel_call ?_ (by assumption) ?_)); all_goals (first | (simp; done) | omega | (simp; omega)))
    have hbk := Lib.hid hb
    clear hb r0_w8 r1_w8 r2_w8 r3_w8 r4_w8 r5_w8 r6_w8 r7_w8 qr_w8 t0_w8 t1_w8 t2_w8 t3_w8 t4_w8 t5_w8 t6_w8 t7_w8 qt_w8 D8
    obtain ⟨r0_w9, r1_w9, r2_w9, r3_w9, r4_w9, r5_w9, r6_w9, r7_w9⟩ := Hrw9
    have qr_w9 := lt_of_cell r0_w9
    obtain ⟨t0_w9, t1_w9, t2_w9, t3_w9, t4_w9, t5_w9, t6_w9, t7_w9⟩ := Htw9
    have qt_w9 := lt_of_cell t0_w9
    have HST5 := Lib.hid (HST4.out.below hbk.out)
    clear hbk
    have hb1 := Bw1.out
    have hb2 := Bw2.out
    have b1 := hb1.size
    have b2 := hb2.size
    have hbD := hb2.trans (D9.mono hb2.size)
    cases hq : (m.toList == L.toList)
    · have hne : lowerL (tagText x.data.toList sc.data.toList (⟨#[]⟩ : ByteArray).data.toList (listsOf (y :: r))) ≠ lowerL s.data.toList := fun h => by
        have h2 := HMM.out
        rw [HTT.out] at h2
        rw [h2, HL.out] at h
        rw [Lib.toList_data, Lib.toList_data, h] at hq
        simp at hq
      have HNE := Lib.hid hne
      clear hne
      have hq2 : (m.toList != L.toList) = true := by rw [bne, hq]; rfl
      go_wp2_with fail
      exact bodyPost_ret (v := .tuple #[tagV ⟨#[]⟩ ⟨#[]⟩ ⟨#[]⟩ none 0 0, .bool false]) (by simp [results, Tryd.results19, go_sem, r0_w9, r1_w9, r2_w9, r3_w9, World.cell?_setCell_same, World.cell?_setCell_other]) rfl ⟨.inr ⟨isTagR_no2 HT.out HNE.out, rfl⟩, (by (repeat (first | with_reducible exact Below.refl _ _ | with_reducible refine bel_set ?_ ?_ | with_reducible refine bel_alloc ?_ ?_ | with_reducible refine Below.drew ?_ | with_reducible refine bel_drewN _ ?_ | with_reducible refine bel_call ?_ (by assumption) ?_)); all_goals (first | (simp; done) | omega | (simp; omega)))⟩
    · have hyes : isTagR s.data.toList = true := isTagR_yes HT.out HE.out.symm (by
        have h2 := HMM.out
        rw [HTT.out] at h2
        have h3 := eq_of_beq hq
        rw [Lib.toList_data, Lib.toList_data] at h3
        rw [HL.out, ← h3]
        exact h2)
      have HYES := Lib.hid hyes
      clear hyes
      have hq2 : m.toList = L.toList := by simpa using hq
      go_wp2_with fail
      refine bodyPost_ret (v := .tuple #[tagV x sc ⟨#[]⟩ A (y :: r).length kc, .bool true]) (by simp [results, Tryd.results19, go_sem, r0_w9, r1_w9, r2_w9, r3_w9, World.cell?_setCell_same, World.cell?_setCell_other]) rfl ⟨.inl ⟨HYES.out, x, sc, ⟨#[]⟩, A, kc, (y :: r), rfl, HT.out, ?_, ?_, ?_⟩, (by (repeat (first | with_reducible exact Below.refl _ _ | with_reducible refine bel_set ?_ ?_ | with_reducible refine bel_alloc ?_ ?_ | with_reducible refine Below.drew ?_ | with_reducible refine bel_drewN _ ?_ | with_reducible refine bel_call ?_ (by assumption) ?_)); all_goals (first | (simp; done) | omega | (simp; omega)))⟩
      · have hl : w.heap.size < bz := by have := HSC.out; omega
        exact ((((HST5.out.set _ _ _ hl).set _ _ _ hl).set _ _ _ hl).set _ _ _ hl).strs
      · exact HKC.out
      · exact HA.out
  · have E0 : (E != 0) = true := bne_iff_ne.2 h0
    have HNE : Hid (tagErr x.data.toList sc.data.toList (⟨#[]⟩ : ByteArray).data.toList (listsOf (y :: r)) ≠ 0) := Lib.hid (fun h => h0 (HE.out.trans h))
    clear h0 HE
    refine (KC.out).mono ?_
    rintro e w6 ⟨rfl, hb⟩
    have Hrw6 : C4 w6 (w.heap.size) (.string ⟨#[]⟩) (.string ⟨#[]⟩) (.string ⟨#[]⟩) (.slice none 0 0) := C4.below ⟨by go_simp, by go_simp, by go_simp, by go_simp, by go_simp, by go_simp, by go_simp, by go_simp⟩ hb
    have Htw6 : C4 w6 (w2.heap.size) (.string x) (.string sc) (.string ⟨#[]⟩) (.slice A (r.length + 1) kc) := C4.below ⟨by go_simp, by go_simp, by go_simp, by go_simp, by go_simp, by go_simp, by go_simp, by go_simp⟩ hb
    have D6 : Below w2.heap.size w2 w6 := (by (repeat (first | with_reducible exact Below.refl _ _ | with_reducible refine bel_set ?_ ?_ | with_reducible refine bel_alloc ?_ ?_ | with_reducible refine Below.drew ?_ | with_reducible refine bel_drewN _ ?_ | with_reducible refine bel_call ?_ (by assumption) ?_)); all_goals (first | (simp; done) | omega | (simp; omega)))
    clear hb r0_w5 r1_w5 r2_w5 r3_w5 r4_w5 r5_w5 r6_w5 r7_w5 qr_w5 t0_w5 t1_w5 t2_w5 t3_w5 t4_w5 t5_w5 t6_w5 t7_w5 qt_w5 D5
    obtain ⟨r0_w6, r1_w6, r2_w6, r3_w6, r4_w6, r5_w6, r6_w6, r7_w6⟩ := Hrw6
    have qr_w6 := lt_of_cell r0_w6
    obtain ⟨t0_w6, t1_w6, t2_w6, t3_w6, t4_w6, t5_w6, t6_w6, t7_w6⟩ := Htw6
    have qt_w6 := lt_of_cell t0_w6
    have hb1 := Bw1.out
    have hb2 := Bw2.out
    have b1 := hb1.size
    have b2 := hb2.size
    have hbD := hb2.trans (D6.mono hb2.size)
    go_wp2_with fail
    exact bodyPost_ret (v := .tuple #[tagV ⟨#[]⟩ ⟨#[]⟩ ⟨#[]⟩ none 0 0, .bool false]) (by simp [results, Tryd.results19, go_sem, r0_w6, r1_w6, r2_w6, r3_w6, World.cell?_setCell_same, World.cell?_setCell_other]) rfl ⟨.inr ⟨isTagR_no1 HT.out HNE.out, rfl⟩, (by (repeat (first | with_reducible exact Below.refl _ _ | with_reducible refine bel_set ?_ ?_ | with_reducible refine bel_alloc ?_ ?_ | with_reducible refine Below.drew ?_ | with_reducible refine bel_drewN _ ?_ | with_reducible refine bel_call ?_ (by assumption) ?_)); all_goals (first | (simp; done) | omega | (simp; omega)))⟩
end Go.Proofs.YtnhlnhmjnnopaaaDoor
