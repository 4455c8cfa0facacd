/- TagParseA, TagParseP0, TagParseOne, PropCheckOne: texts put together. -/
import Derived.Test.YtplaohmdllindaaGreatDoorQn30
import Derived.Test.YtplaohmdllindaaGreatDoorQn45
import Derived.Test.YtplaohmdllindaaGreatDoorQn1
import Derived.Deep.RegionHeld3
import Derived.Test.YtplaohmdllindaaGreatDoorQn3
set_option linter.unusedVariables false
set_option linter.unusedSimpArgs false
/- tag.Parse of any text: what its ways share. -/
namespace Go.Proofs.YtplaohmdllindaaGreatDoor
open Go.RowKit

/-- four cells that may be written -/
structure C4 (w : World) (b : Nat) (v0 v1 v2 v3 : Value) : Prop where
  c0 : w.cell? ⟨b, 0, none⟩ = some v0
  c1 : w.cell? ⟨b, 1, none⟩ = some v1
  c2 : w.cell? ⟨b, 2, none⟩ = some v2
  c3 : w.cell? ⟨b, 3, none⟩ = some v3
  f0 : w.frozen? ⟨b, 0, none⟩ = false
  f1 : w.frozen? ⟨b, 1, none⟩ = false
  f2 : w.frozen? ⟨b, 2, none⟩ = false
  f3 : w.frozen? ⟨b, 3, none⟩ = false
theorem C4.below {w w' : World} {b : Nat} {v0 v1 v2 v3 : Value} (h : C4 w b v0 v1 v2 v3) (hb : Below w.heap.size w w') : C4 w' b v0 v1 v2 v3 :=
  have hl := lt_of_cell h.c0
  ⟨carry hb h.c0, carry hb h.c1, carry hb h.c2, carry hb h.c3, carryF hb hl h.f0, carryF hb hl h.f1, carryF hb hl h.f2, carryF hb hl h.f3⟩
theorem tsize (s : ByteArray) : s.data.toList.length = s.size := by rw [Array.length_toList]; rfl

/-- what tag.Parse tells of a text -/
def ParseOut (s : ByteArray) (e : Ending) (w' : World) : Prop :=
  (isTag s.data.toList = true ∧ ∃ (l sc rg : ByteArray) (A : Option Addr) (c : Nat) (vs : List ByteArray), e = .returned (.tuple #[tagV l sc rg A vs.length c, .nilIface]) ∧ madeT s.data.toList = ⟨l.data.toList, sc.data.toList, rg.data.toList, listsOf vs⟩ ∧ StrsIn w' A vs ∧ vs.length ≤ c ∧ (A = none → c = 0)) ∨
  (isTag s.data.toList = false ∧ e = .returned (.tuple #[tagV ⟨#[]⟩ ⟨#[]⟩ ⟨#[]⟩ none 0 0, errT 3]))
/-- the pieces of a text lie in a row of the call's own -/
theorem split_call (s : ByteArray) (ps : List ByteArray) (hps : Lib.splitB ⟨#[45]⟩ 0 (Lib.countB s ⟨#[45]⟩) s = ps) (w : World) (h : MaxL w) (hs : s.size < 4294967281) :
    Calls Tryz.prog 162 #[.string s, .string ⟨#[45]⟩] w fun e w' => e = .returned (.slice (some ⟨w.heap.size, 0, none⟩) ps.length ps.length) ∧ (∀ (j : Nat) x, ps[j]? = some x → w'.cell? ⟨w.heap.size, j, none⟩ = some (.string x)) ∧ Below w.heap.size w w' := by
  obtain ⟨m, hm⟩ := h
  refine (Tryz.strings_Split s ⟨#[45]⟩ m w hs hm (by decide)).mono ?_
  rintro e w' ⟨rfl, rfl⟩
  have hlen := Lib.splitB_all ⟨#[45]⟩ (by decide) 0 _ s rfl
  rw [hps] at hlen
  rw [hps, ← hlen]
  refine ⟨rfl, fun j x hx => ?_, (Below.refl _ _).alloc (Nat.le_refl _) _⟩
  have h2 : ((ps.map Value.string).toArray)[j]? = some (.string x) := by simp [hx]
  simp only [World.cell?, heap_alloc_new]
  exact h2
theorem low_call (a b : ByteArray) (h : lowerL a.data.toList = b.data.toList) (hs : a.size ≤ 9223372036854775807) (w : World) : Calls Tryz.prog 163 #[.string a] w fun e w' => e = .returned (.string b) ∧ Below w.heap.size w w' := by
  refine (tag_lower a w hs).mono ?_
  rintro e w' ⟨rfl, hb⟩
  rw [h]
  exact ⟨rfl, hb⟩
/-- slices.Clone of pieces -/
theorem clone_call (b o n c : Nat) (zs : List ByteArray) (w : World) (hn : n = zs.length) (hz : n ≤ 8000000000000) (hc : ∀ (j : Nat) x, zs[j]? = some x → w.cell? ⟨b, o + j, none⟩ = some (.string x)) :
    Calls Tryz.prog 168 #[.slice (some ⟨b, o, none⟩) n c] w fun e w' => (∃ A k, e = .returned (.slice A n k) ∧ OwnsS w' w.heap.size (.slice A n k) zs) ∧ Below w.heap.size w w' := by
  subst hn
  cases zs with
  | nil =>
    refine (Tryz.slices_Clone_string_zero ⟨b, o, none⟩ c w).mono ?_
    rintro e w' ⟨v, rfl, ho, hne, hb⟩
    have hS : OwnsS w' w.heap.size v [] := ho
    obtain ⟨A, c', rfl, _⟩ := hS.form
    exact ⟨⟨A, c', rfl, hS⟩, hb⟩
  | cons z r =>
    refine (Tryz.slices_Clone_string b o (z :: r).length c (z :: r) w (Nat.le_refl _) (by omega) (fun j hj => by
      rw [List.getD_eq_getElem?_getD, List.getElem?_eq_getElem hj]
      exact hc j _ (List.getElem?_eq_getElem hj))).mono ?_
    rintro e w' ⟨v, rfl, ho, hne, hb⟩
    rw [List.take_length] at ho
    have hS : OwnsS w' w.heap.size v (z :: r) := ho
    obtain ⟨A, c', rfl, _⟩ := hS.form
    exact ⟨⟨A, c', rfl, hS⟩, hb⟩
theorem isTag_yes {s : Bs} {T : TagS} (hT : madeT s = T) (he : T.err = 0) (hl : lowerL T.text = lowerL s) : isTag s = true := by
  unfold isTag
  rw [hT, he, hl]
  simp
theorem isTag_no1 {s : Bs} {T : TagS} (hT : madeT s = T) (he : T.err ≠ 0) : isTag s = false := by
  unfold isTag
  rw [hT, beq_eq_false_iff_ne.2 he, Bool.false_and]
theorem isTag_no2 {s : Bs} {T : TagS} (hT : madeT s = T) (hl : lowerL T.text ≠ lowerL s) : isTag s = false := by
  unfold isTag
  rw [hT, beq_eq_false_iff_ne.2 hl, Bool.and_false]
/-- the tag that was made, given the text's pieces -/
theorem made_is {s L : ByteArray} {x : ByteArray} {ps : List ByteArray} (hL : lowerL s.data.toList = L.data.toList) (hps : Lib.splitB ⟨#[45]⟩ 0 (Lib.countB L ⟨#[45]⟩) L = x :: ps) :
    madeT s.data.toList = ⟨x.data.toList, (scrP (listsOf ps)).1, (regP (scrP (listsOf ps)).2).1, (regP (scrP (listsOf ps)).2).2⟩ ∧ (∀ p ∈ x :: ps, p.size ≤ s.size) ∧ ps.length ≤ s.size := by
  have h1 := splitB_dash L
  rw [hps] at h1
  have hl : L.size = s.size := by rw [← tsize, ← tsize, ← hL]; unfold lowerL; simp
  refine ⟨?_, fun p hp => ?_, ?_⟩
  · unfold madeT
    rw [hL, ← h1]
    rfl
  · have := splitD_len L.data.toList p.data.toList (by rw [← h1]; exact List.mem_map_of_mem hp)
    rw [tsize, tsize, hl] at this
    exact this
  · have := splitD_cnt L.data.toList
    rw [← h1, tsize, hl] at this
    simp at this
    omega
end Go.Proofs.YtplaohmdllindaaGreatDoor

/- tag.Parse: way 0. -/
namespace Go.Proofs.YtplaohmdllindaaGreatDoor
open Go.RowKit

set_option maxHeartbeats 4000000 in
set_option maxRecDepth 100000 in
theorem parse_way0 (s L x : ByteArray) (w : World) (hM : MaxL w) (hs : s.size ≤ 1000000000) (hL : lowerL s.data.toList = L.data.toList) (hps : Lib.splitB ⟨#[45]⟩ 0 (Lib.countB L ⟨#[45]⟩) L = [x])  :
    Calls Tryz.prog 106 #[.string s] w fun e w' => ParseOut s e w' ∧ Below w.heap.size w w' := by
  obtain ⟨hmade, hsz, hcnt⟩ := made_is hL hps
  have hLs : L.size = s.size := by rw [← tsize, ← tsize, ← hL]; unfold lowerL; simp
  have hT : madeT s.data.toList = ⟨x.data.toList, [], [], listsOf []⟩ := by
    rw [hmade]
    simp [listsOf, List.map_cons, List.map_nil, scrP, regP]
  have HT := Lib.hid hT
  have zx : x.size ≤ 1000000000 := by have := hsz x (by simp); omega
  have HPS := Lib.hid hps
  have HL := Lib.hid hL
  have HM := Lib.hid hM
  clear hmade hsz hcnt hT hps hL hM
  go_enter Tryz.func106, Tryz.ntmps106
  go_wp2_with fail
  refine (low_call s L HL.out (by omega) _).mono ?_
  rintro e w1 ⟨rfl, hb1⟩
  have Hrw1 : C4 w1 (w.heap.size) (.string ⟨#[]⟩) (.string ⟨#[]⟩) (.string ⟨#[]⟩) (.slice none 0 0) := C4.below ⟨by go_simp, by go_simp, by go_simp, by go_simp, by go_simp, by go_simp, by go_simp, by go_simp⟩ hb1
  have Bw1 := Lib.hid hb1
  obtain ⟨r0_w1, r1_w1, r2_w1, r3_w1, r4_w1, r5_w1, r6_w1, r7_w1⟩ := Hrw1
  have qr_w1 := lt_of_cell r0_w1
  have s1 : w.heap.size < w1.heap.size := qr_w1
  go_wp2_with fail
  refine (split_call L _ HPS.out _ (HM.out.below (((Below.refl _ _).alloc (Nat.le_refl _) _).trans (Bw1.out.mono (by simp)))) (by omega)).mono ?_
  rintro e w2 ⟨rfl, hcp, hb2⟩
  have HCP := Lib.hid hcp
  have c0_w2 : w2.cell? ⟨w1.heap.size, 0, none⟩ = some (.string x) := hcp 0 x rfl
  have Hrw2 : C4 w2 (w.heap.size) (.string ⟨#[]⟩) (.string ⟨#[]⟩) (.string ⟨#[]⟩) (.slice none 0 0) := C4.below ⟨by go_simp, by go_simp, by go_simp, by go_simp, by go_simp, by go_simp, by go_simp, by go_simp⟩ hb2
  have Bw2 := Lib.hid hb2
  clear hcp hb2 r0_w1 r1_w1 r2_w1 r3_w1 r4_w1 r5_w1 r6_w1 r7_w1 qr_w1
  obtain ⟨r0_w2, r1_w2, r2_w2, r3_w2, r4_w2, r5_w2, r6_w2, r7_w2⟩ := Hrw2
  have qr_w2 := lt_of_cell r0_w2
  have qc_w2 := lt_of_cell c0_w2
  simp only [List.length_cons, List.length_nil, Nat.zero_add]
  go_wp2_with fail
  have DC : Below w2.heap.size w2 (w2.alloc (.cells #[.string x, .string ⟨#[]⟩, .string ⟨#[]⟩, .slice none 0 0] 204)) := belx
  have SC : w2.heap.size < (w2.alloc (.cells #[.string x, .string ⟨#[]⟩, .string ⟨#[]⟩, .slice none 0 0] 204)).heap.size := by simp
  have HCL : Hid (∀ (j : Nat) z, ([] : List ByteArray)[j]? = some z → (w2.alloc (.cells #[.string x, .string ⟨#[]⟩, .string ⟨#[]⟩, .slice none 0 0] 204)).cell? ⟨w1.heap.size, 1 + j, none⟩ = some (.string z)) := Lib.hid (fun j z hz => by simp at hz)
  clear DC
  refine (clone_call w1.heap.size 0 _ _ [] _ rfl (by first | (simp; done) | (simp; omega)) (fun j z hz => by simp at hz)).mono ?_
  rintro e w5 ⟨⟨A, kc, rfl, ho⟩, hb⟩
  have Hrw5 : C4 w5 (w.heap.size) (.string ⟨#[]⟩) (.string ⟨#[]⟩) (.string ⟨#[]⟩) (.slice none 0 0) := C4.below ⟨by go_simp, by go_simp, by go_simp, by go_simp, by go_simp, by go_simp, by go_simp, by go_simp⟩ hb
  have Htw5 : C4 w5 (w2.heap.size) (.string x) (.string ⟨#[]⟩) (.string ⟨#[]⟩) (.slice none 0 0) := C4.below ⟨by go_simp, by go_simp, by go_simp, by go_simp, by go_simp, by go_simp, by go_simp, by go_simp⟩ hb
  have D5 : Below w2.heap.size w2 w5 := belx
  clear hb SC HCL ho r0_w2 r1_w2 r2_w2 r3_w2 r4_w2 r5_w2 r6_w2 r7_w2 qr_w2 c0_w2
  obtain ⟨r0_w5, r1_w5, r2_w5, r3_w5, r4_w5, r5_w5, r6_w5, r7_w5⟩ := Hrw5
  have qr_w5 := lt_of_cell r0_w5
  obtain ⟨t0_w5, t1_w5, t2_w5, t3_w5, t4_w5, t5_w5, t6_w5, t7_w5⟩ := Htw5
  have qt_w5 := lt_of_cell t0_w5
  go_wp2_with fail
  obtain ⟨E, hE⟩ : ∃ E, E = tagErr x.data.toList (⟨#[]⟩ : ByteArray).data.toList (⟨#[]⟩ : ByteArray).data.toList (listsOf []) := ⟨_, rfl⟩
  have KC := Lib.hid (fun W => tag_check x ⟨#[]⟩ ⟨#[]⟩ none 0 [] W (by omega) (by decide) (by decide) (.inl rfl) (by simp) (by simp) (by simp))
  rw [← hE] at KC
  have HE := Lib.hid hE
  clear hE 
  by_cases h0 : E = 0
  · subst h0
    have E0 : errOf 0 = .nilIface := rfl
    rw [E0] at KC
    refine ((KC.out _)).mono ?_
    rintro e w6 ⟨rfl, hb⟩
    have Hrw6 : C4 w6 (w.heap.size) (.string ⟨#[]⟩) (.string ⟨#[]⟩) (.string ⟨#[]⟩) (.slice none 0 0) := C4.below ⟨by go_simp, by go_simp, by go_simp, by go_simp, by go_simp, by go_simp, by go_simp, by go_simp⟩ hb
    have Htw6 : C4 w6 (w2.heap.size) (.string x) (.string ⟨#[]⟩) (.string ⟨#[]⟩) (.slice none 0 0) := C4.below ⟨by go_simp, by go_simp, by go_simp, by go_simp, by go_simp, by go_simp, by go_simp, by go_simp⟩ hb
    have D6 : Below w2.heap.size w2 w6 := belx
    clear hb r0_w5 r1_w5 r2_w5 r3_w5 r4_w5 r5_w5 r6_w5 r7_w5 qr_w5 t0_w5 t1_w5 t2_w5 t3_w5 t4_w5 t5_w5 t6_w5 t7_w5 qt_w5 D5 E0
    obtain ⟨r0_w6, r1_w6, r2_w6, r3_w6, r4_w6, r5_w6, r6_w6, r7_w6⟩ := Hrw6
    have qr_w6 := lt_of_cell r0_w6
    obtain ⟨t0_w6, t1_w6, t2_w6, t3_w6, t4_w6, t5_w6, t6_w6, t7_w6⟩ := Htw6
    have qt_w6 := lt_of_cell t0_w6
    have he0 := HE.out.symm
    have hlt := text_len he0
    obtain ⟨t, ht⟩ : ∃ t : ByteArray, t = ⟨(tagText x.data.toList (⟨#[]⟩ : ByteArray).data.toList (⟨#[]⟩ : ByteArray).data.toList (listsOf [])).toArray⟩ := ⟨_, rfl⟩
    have htz : t.size ≤ 100 := by rw [← tsize, ht]; exact hlt
    have KT := Lib.hid (tag_text x ⟨#[]⟩ ⟨#[]⟩ none 0 [] w6 (.inl rfl) (fun _ => rfl) he0)
    rw [← ht] at KT
    obtain ⟨m, hm⟩ : ∃ m : ByteArray, lowerL t.data.toList = m.data.toList := ⟨⟨(lowerL t.data.toList).toArray⟩, rfl⟩
    have HMM := Lib.hid hm
    have HTT := Lib.hid ht
    clear hm ht hlt he0
    go_wp2_with fail
    refine (KT.out).mono ?_
    rintro e w7 ⟨rfl, hb⟩
    have Hrw7 : C4 w7 (w.heap.size) (.string ⟨#[]⟩) (.string ⟨#[]⟩) (.string ⟨#[]⟩) (.slice none 0 0) := C4.below ⟨by go_simp, by go_simp, by go_simp, by go_simp, by go_simp, by go_simp, by go_simp, by go_simp⟩ hb
    have Htw7 : C4 w7 (w2.heap.size) (.string x) (.string ⟨#[]⟩) (.string ⟨#[]⟩) (.slice none 0 0) := C4.below ⟨by go_simp, by go_simp, by go_simp, by go_simp, by go_simp, by go_simp, by go_simp, by go_simp⟩ hb
    have D7 : Below w2.heap.size w2 w7 := belx
    clear hb r0_w6 r1_w6 r2_w6 r3_w6 r4_w6 r5_w6 r6_w6 r7_w6 qr_w6 t0_w6 t1_w6 t2_w6 t3_w6 t4_w6 t5_w6 t6_w6 t7_w6 qt_w6 D6
    obtain ⟨r0_w7, r1_w7, r2_w7, r3_w7, r4_w7, r5_w7, r6_w7, r7_w7⟩ := Hrw7
    have qr_w7 := lt_of_cell r0_w7
    obtain ⟨t0_w7, t1_w7, t2_w7, t3_w7, t4_w7, t5_w7, t6_w7, t7_w7⟩ := Htw7
    have qt_w7 := lt_of_cell t0_w7
    go_wp2_with fail
    refine (low_call t m HMM.out (by omega) _).mono ?_
    rintro e w8 ⟨rfl, hb⟩
    have Hrw8 : C4 w8 (w.heap.size) (.string ⟨#[]⟩) (.string ⟨#[]⟩) (.string ⟨#[]⟩) (.slice none 0 0) := C4.below ⟨by go_simp, by go_simp, by go_simp, by go_simp, by go_simp, by go_simp, by go_simp, by go_simp⟩ hb
    have Htw8 : C4 w8 (w2.heap.size) (.string x) (.string ⟨#[]⟩) (.string ⟨#[]⟩) (.slice none 0 0) := C4.below ⟨by go_simp, by go_simp, by go_simp, by go_simp, by go_simp, by go_simp, by go_simp, by go_simp⟩ hb
    have D8 : Below w2.heap.size w2 w8 := belx
    clear hb r0_w7 r1_w7 r2_w7 r3_w7 r4_w7 r5_w7 r6_w7 r7_w7 qr_w7 t0_w7 t1_w7 t2_w7 t3_w7 t4_w7 t5_w7 t6_w7 t7_w7 qt_w7 D7
    obtain ⟨r0_w8, r1_w8, r2_w8, r3_w8, r4_w8, r5_w8, r6_w8, r7_w8⟩ := Hrw8
    have qr_w8 := lt_of_cell r0_w8
    obtain ⟨t0_w8, t1_w8, t2_w8, t3_w8, t4_w8, t5_w8, t6_w8, t7_w8⟩ := Htw8
    have qt_w8 := lt_of_cell t0_w8
    go_wp2_with fail
    refine (low_call s L HL.out (by omega) _).mono ?_
    rintro e w9 ⟨rfl, hb⟩
    have Hrw9 : C4 w9 (w.heap.size) (.string ⟨#[]⟩) (.string ⟨#[]⟩) (.string ⟨#[]⟩) (.slice none 0 0) := C4.below ⟨by go_simp, by go_simp, by go_simp, by go_simp, by go_simp, by go_simp, by go_simp, by go_simp⟩ hb
    have Htw9 : C4 w9 (w2.heap.size) (.string x) (.string ⟨#[]⟩) (.string ⟨#[]⟩) (.slice none 0 0) := C4.below ⟨by go_simp, by go_simp, by go_simp, by go_simp, by go_simp, by go_simp, by go_simp, by go_simp⟩ hb
    have D9 : Below w2.heap.size w2 w9 := belx
    clear hb r0_w8 r1_w8 r2_w8 r3_w8 r4_w8 r5_w8 r6_w8 r7_w8 qr_w8 t0_w8 t1_w8 t2_w8 t3_w8 t4_w8 t5_w8 t6_w8 t7_w8 qt_w8 D8
    obtain ⟨r0_w9, r1_w9, r2_w9, r3_w9, r4_w9, r5_w9, r6_w9, r7_w9⟩ := Hrw9
    have qr_w9 := lt_of_cell r0_w9
    obtain ⟨t0_w9, t1_w9, t2_w9, t3_w9, t4_w9, t5_w9, t6_w9, t7_w9⟩ := Htw9
    have qt_w9 := lt_of_cell t0_w9
    have hb1 := Bw1.out
    have hb2 := Bw2.out
    have b1 := hb1.size
    have b2 := hb2.size
    have hbD := hb2.trans (D9.mono hb2.size)
    cases hq : (m.toList == L.toList)
    · have hne : lowerL (tagText x.data.toList (⟨#[]⟩ : ByteArray).data.toList (⟨#[]⟩ : ByteArray).data.toList (listsOf [])) ≠ lowerL s.data.toList := fun h => by
        have h2 := HMM.out
        rw [HTT.out] at h2
        rw [h2, HL.out] at h
        rw [Lib.toList_data, Lib.toList_data, h] at hq
        simp at hq
      have HNE := Lib.hid hne
      clear hne
      have hq2 : (m.toList != L.toList) = true := by rw [bne, hq]; rfl
      go_wp2_with fail
      exact bodyPost_ret (v := .tuple #[tagV ⟨#[]⟩ ⟨#[]⟩ ⟨#[]⟩ none 0 0, errT 3]) (by simp [results, Tryz.results106, go_sem, r0_w9, r1_w9, r2_w9, r3_w9, World.cell?_setCell_same, World.cell?_setCell_other]) rfl ⟨.inr ⟨isTag_no2 HT.out HNE.out, rfl⟩, belx⟩
    · have hyes : isTag s.data.toList = true := isTag_yes HT.out HE.out.symm (by
        have h2 := HMM.out
        rw [HTT.out] at h2
        have h3 := eq_of_beq hq
        rw [Lib.toList_data, Lib.toList_data] at h3
        rw [HL.out, ← h3]
        exact h2)
      have HYES := Lib.hid hyes
      clear hyes
      have hq2 : m.toList = L.toList := by simpa using hq
      go_wp2_with fail
      refine bodyPost_ret (v := .tuple #[tagV x ⟨#[]⟩ ⟨#[]⟩ none 0 0, .nilIface]) (by simp [results, Tryz.results106, go_sem, r0_w9, r1_w9, r2_w9, r3_w9, World.cell?_setCell_same, World.cell?_setCell_other]) rfl ⟨.inl ⟨HYES.out, x, ⟨#[]⟩, ⟨#[]⟩, none, 0, [], rfl, HT.out, ?_, ?_, ?_⟩, belx⟩
      · exact .inl rfl
      · exact Nat.le_refl _
      · exact fun _ => rfl
  · have E0 : errOf E = errT E := if_neg h0
    rw [E0] at KC
    have HNE : Hid (tagErr x.data.toList (⟨#[]⟩ : ByteArray).data.toList (⟨#[]⟩ : ByteArray).data.toList (listsOf []) ≠ 0) := Lib.hid (fun h => h0 (HE.out.trans h))
    clear h0 E0 HE
    refine ((KC.out _)).mono ?_
    rintro e w6 ⟨rfl, hb⟩
    have Hrw6 : C4 w6 (w.heap.size) (.string ⟨#[]⟩) (.string ⟨#[]⟩) (.string ⟨#[]⟩) (.slice none 0 0) := C4.below ⟨by go_simp, by go_simp, by go_simp, by go_simp, by go_simp, by go_simp, by go_simp, by go_simp⟩ hb
    have Htw6 : C4 w6 (w2.heap.size) (.string x) (.string ⟨#[]⟩) (.string ⟨#[]⟩) (.slice none 0 0) := C4.below ⟨by go_simp, by go_simp, by go_simp, by go_simp, by go_simp, by go_simp, by go_simp, by go_simp⟩ hb
    have D6 : Below w2.heap.size w2 w6 := belx
    clear hb r0_w5 r1_w5 r2_w5 r3_w5 r4_w5 r5_w5 r6_w5 r7_w5 qr_w5 t0_w5 t1_w5 t2_w5 t3_w5 t4_w5 t5_w5 t6_w5 t7_w5 qt_w5 D5
    obtain ⟨r0_w6, r1_w6, r2_w6, r3_w6, r4_w6, r5_w6, r6_w6, r7_w6⟩ := Hrw6
    have qr_w6 := lt_of_cell r0_w6
    obtain ⟨t0_w6, t1_w6, t2_w6, t3_w6, t4_w6, t5_w6, t6_w6, t7_w6⟩ := Htw6
    have qt_w6 := lt_of_cell t0_w6
    have hb1 := Bw1.out
    have hb2 := Bw2.out
    have b1 := hb1.size
    have b2 := hb2.size
    have hbD := hb2.trans (D6.mono hb2.size)
    go_wp2_with fail
    exact bodyPost_ret (v := .tuple #[tagV ⟨#[]⟩ ⟨#[]⟩ ⟨#[]⟩ none 0 0, errT 3]) (by simp [results, Tryz.results106, go_sem, r0_w6, r1_w6, r2_w6, r3_w6, World.cell?_setCell_same, World.cell?_setCell_other]) rfl ⟨.inr ⟨isTag_no1 HT.out HNE.out, rfl⟩, belx⟩
end Go.Proofs.YtplaohmdllindaaGreatDoor

/- tag.Parse, prop.Tag of a text of one part. -/
namespace Go.Proofs.YtplaohmdllindaaGreatDoor
open Go.RowKit

/-- there is no dash in it -/
def One (s : ByteArray) : Prop := ∀ L : ByteArray, lowerL s.data.toList = L.data.toList → ∃ x, Lib.splitB ⟨#[45]⟩ 0 (Lib.countB L ⟨#[45]⟩) L = [x]
theorem tag_parse1 (s : ByteArray) (w : World) (hM : MaxL w) (hs : s.size ≤ 1000000000) (hone : One s) :
    Calls Tryz.prog 106 #[.string s] w fun e w' => ParseOut s e w' ∧ Below w.heap.size w w' := by
  obtain ⟨L, hL⟩ : ∃ L : ByteArray, lowerL s.data.toList = L.data.toList := ⟨⟨(lowerL s.data.toList).toArray⟩, rfl⟩
  obtain ⟨x, hx⟩ := hone L hL
  exact parse_way0 s L x w hM hs hL hx
set_option maxHeartbeats 1000000 in
theorem prop_tag1 (s : ByteArray) (w : World) (hM : MaxL w) (hs : s.size ≤ 1000000000) (hone : One s) :
    Calls Tryz.prog 105 #[.string s] w fun e w' => e = .returned (.bool (ownTag s.data.toList)) ∧ Below w.heap.size w w' := by
  have KP := Lib.hid (fun W (hb : Below w.heap.size w W) => tag_parse1 s W (hM.below hb) hs hone)
  obtain ⟨R, hR⟩ : ∃ R, R = ownTag s.data.toList := ⟨_, rfl⟩
  rw [← hR]
  go_enter Tryz.func105, Tryz.ntmps105
  go_wp2_with fail
  refine (KP.out _ belx).mono ?_
  rintro e w1 ⟨ho, hb1⟩
  have HB1 := Lib.hid ((show Below w.heap.size w _ from belx).trans (hb1.mono (by simp)))
  rcases ho with ⟨hi, l, sc, rg, A, c, vs, rfl, hm, hS, hc, hA⟩ | ⟨hi, rfl⟩
  · have he : tagErr l.data.toList sc.data.toList rg.data.toList (listsOf vs) = 0 := by
      unfold isTag TagS.err at hi
      rw [hm] at hi
      simp only [Bool.and_eq_true, beq_iff_eq] at hi
      exact hi.1
    have hown : ownTag s.data.toList = (tagText l.data.toList sc.data.toList rg.data.toList (listsOf vs) == s.data.toList) := by
      unfold ownTag TagS.text
      rw [hi, hm, Bool.true_and]
    have KT := Lib.hid (fun W (hb : Below w1.heap.size w1 W) => tag_text l sc rg A c vs W (hS.below hb) hA he)
    obtain ⟨t, ht⟩ : ∃ t : ByteArray, t = ⟨(tagText l.data.toList sc.data.toList rg.data.toList (listsOf vs)).toArray⟩ := ⟨_, rfl⟩
    rw [← ht] at KT
    have hcmp : R = (t.toList == s.toList) := by rw [hR, hown, Lib.toList_data, Lib.toList_data, ht]
    clear ht hown he hm hi hS hb1 hR
    cases hq : (t.toList == s.toList)
    · rw [hq] at hcmp
      subst hcmp
      go_wp2_with fail
      refine (KT.out _ belx).mono ?_
      rintro e w2 ⟨rfl, hb2⟩
      have HB2 := Lib.hid (HB1.out.trans (Below.trans (show Below w1.heap.size w1 _ from belx) (hb2.mono (by simp)) |>.mono HB1.out.size))
      go_wp2_with fail
      go_ret
      exact ⟨rfl, HB2.out⟩
    · rw [hq] at hcmp
      subst hcmp
      have hq2 : t.toList = s.toList := by simpa using hq
      go_wp2_with fail
      refine (KT.out _ belx).mono ?_
      rintro e w2 ⟨rfl, hb2⟩
      have HB2 := Lib.hid (HB1.out.trans (Below.trans (show Below w1.heap.size w1 _ from belx) (hb2.mono (by simp)) |>.mono HB1.out.size))
      go_wp2_with fail
      go_ret
      exact ⟨rfl, HB2.out⟩
  · have hown : R = false := by rw [hR]; unfold ownTag; rw [hi, Bool.false_and]
    subst hown
    clear hi hb1 hR
    go_wp2_with fail
    go_ret
    exact ⟨rfl, HB1.out.alloc HB1.out.size _⟩
end Go.Proofs.YtplaohmdllindaaGreatDoor

/- prop.Check. -/
namespace Go.Proofs.YtplaohmdllindaaGreatDoor
open Go.RowKit Go.Maps

def seenH (l : List EntC) : HL := l.map fun e => (e.key.data.toList, Value.agg #[])
theorem seenH_some {l : List EntC} {s : ByteArray} (h : memB (l.map (·.key)) s = true) : hlook (seenH l) s.data.toList = some (.agg #[]) := by
  obtain ⟨e, he, rfl⟩ := List.mem_map.1 (memB_iff.1 h)
  unfold hlook seenH
  cases hq : (l.map fun e => (e.key.data.toList, Value.agg #[])).find? (fun p => decide (p.1 = e.key.data.toList)) with
  | none =>
    rw [List.find?_eq_none] at hq
    exact absurd (decide_eq_true rfl) (hq _ (List.mem_map_of_mem (f := fun e : EntC => (e.key.data.toList, Value.agg #[])) he))
  | some p =>
    have hm := List.mem_of_find?_eq_some hq
    obtain ⟨y, _, rfl⟩ := List.mem_map.1 hm
    rfl
theorem seenH_none {l : List EntC} {s : ByteArray} (h : memB (l.map (·.key)) s = false) : hlook (seenH l) s.data.toList = none := by
  rw [hlook_none_iff]
  intro hm
  unfold seenH at hm
  rw [List.map_map] at hm
  obtain ⟨y, hy, e⟩ := List.mem_map.1 hm
  have : memB (l.map (·.key)) s = true := memB_iff.2 (List.mem_map.2 ⟨y, hy, ByteArray.ext (Array.ext' e)⟩)
  rw [h] at this
  cases this
theorem seenH_keys (l : List EntC) : (seenH l).map (·.1) = (l.map (·.key)).map (·.data.toList) := by unfold seenH; rw [List.map_map, List.map_map]; rfl
theorem nodup_lists {l : List ByteArray} (h : l.Nodup) : (l.map (·.data.toList)).Nodup :=
  List.Pairwise.map _ (fun a b hab e => hab (ByteArray.ext (Array.ext' e))) h
theorem zero_unit (w : World) : (zeroValue 262).run Tryz.prog w = .ok (.agg #[]) w := by kernel_rfl
set_option maxHeartbeats 8000000 in
set_option maxRecDepth 100000 in
theorem prop_check1 (b : BunC) (A : Option Addr) (c : Nat) (w : World) (hM : MaxL w) (hF : BunFine w b A c) (hs : b.small) (hone : One b.tag) :
    Calls Tryz.prog 101 #[bunV b A c] w fun e w' => e = .returned (errOf b.err) ∧ Below w.heap.size w w' := by
  obtain ⟨tg, es⟩ := b
  obtain ⟨hE, hc, hc2, _⟩ := hF
  obtain ⟨z1, z2, z3⟩ := hs
  simp only at hE hc z1 z2 z3 hone
  have KT := Lib.hid (fun W (hb : Below w.heap.size w W) => prop_tag1 tg W (hM.below hb) (by omega) hone)
  have HE := Lib.hid hE
  have HZ := Lib.hid z3
  have hmm := @run_makeMap Tryz.prog
  obtain ⟨R, hR⟩ : ∃ R, R = errOf (BunC.mk tg es).err := ⟨_, rfl⟩
  rw [← hR]
  unfold BunC.err at hR
  clear hE hM z3
  simp only at hR
  unfold bunV
  simp only
  have hb0 : Below w.heap.size w (w.alloc (.cells #[.string tg, .slice A es.length c] 64)) := belx
  have HB0 := Lib.hid hb0
  clear hb0
  go_enter Tryz.func101, Tryz.ntmps101
  cases hT : ownTag tg.data.toList
  · rw [hT, if_pos rfl] at hR
    rw [hT] at KT
    subst hR
    go_wp2_with fail
    refine (KT.out _ HB0.out).mono ?_
    rintro e w1 ⟨rfl, hb1⟩
    have HB1 := Lib.hid (HB0.out.trans (hb1.mono HB0.out.size))
    clear hb1
    go_wp2_with fail
    go_ret
    exact ⟨rfl, HB1.out⟩
  · rw [hT, if_neg (by decide)] at hR
    rw [hT] at KT
    by_cases h100 : 100 < es.length
    · rw [if_pos h100] at hR
      subst hR
      have i100 : (100 : Int) < (es.length : Int) := by omega
      go_wp2_with fail
      refine (KT.out _ HB0.out).mono ?_
      rintro e w1 ⟨rfl, hb1⟩
      have c1 : w1.cell? ⟨w.heap.size, 1, none⟩ = some (.slice A es.length c) := carry hb1 (by go_simp)
      have HB1 := Lib.hid (HB0.out.trans (hb1.mono HB0.out.size))
      clear hb1
      go_wp2_with fail
      go_ret
      exact ⟨rfl, HB1.out⟩
    · rw [if_neg h100] at hR
      have HR := Lib.hid hR
      have i100 : ¬ (100 : Int) < (es.length : Int) := by omega
      clear hR
      go_wp2_with fail
      refine (KT.out _ HB0.out).mono ?_
      rintro e w1 ⟨rfl, hb1⟩
      have c1 : w1.cell? ⟨w.heap.size, 1, none⟩ = some (.slice A es.length c) := carry hb1 (by go_simp)
      have HB1 := Lib.hid (HB0.out.trans (hb1.mono HB0.out.size))
      clear hb1
      have q1 := lt_of_cell c1
      go_wp2_with fail
      have hmp := hm_made w1
      have hb2 : Below w1.heap.size w1 (w1.alloc (.map #[] 0)) := belx
      have HB2 := Lib.hid (HB1.out.trans (hb2.mono HB1.out.size))
      clear hb2
      go_loopw [22] (fun i wr => ∃ k : Nat, k ≤ es.length ∧ i = .int .i64 k ∧ Hid (entErr [] es = entErr ((es.take k).map (·.key)) (es.drop k)) ∧ Hid (HMap wr w1.heap.size k (seenH (es.take k))) ∧ Hid (((es.take k).map (·.key)).Nodup) ∧ Hid (Below w.heap.size w wr)) (fun i _ => es.length - (intOf i).toNat)
      case atStart => exact ⟨0, Nat.zero_le _, rfl, Lib.hid rfl, Lib.hid hmp, Lib.hid List.nodup_nil, HB2⟩
      case round =>
        obtain ⟨k, hk, rfl, HX, HMk, HNk, HBk⟩ := hrel
        have sk := HBk.out.size
        by_cases hlt : k < es.length
        · obtain ⟨bE, oE, rfl, hat⟩ := (HE.out.below HBk.out).at (by omega)
          obtain ⟨x, hx⟩ : ∃ x, es[k]? = some x := ⟨es[k], List.getElem?_eq_getElem hlt⟩
          obtain ⟨n0, n1⟩ := hat k x hx
          obtain ⟨xz1, xz2⟩ := HZ.out x (List.mem_of_getElem? hx)
          have hst := entErr_step es k x hx
          have HX2 := Lib.hid (HX.out.trans hst)
          have hkeys : (es.take (k + 1)).map (·.key) = (es.take k).map (·.key) ++ [x.key] := by rw [List.take_add_one, hx, List.map_append]; rfl
          have hseen : seenH (es.take (k + 1)) = seenH (es.take k) ++ [(x.key.data.toList, Value.agg #[])] := by unfold seenH; rw [List.take_add_one, hx, List.map_append]; rfl
          have i0 : (0 : Int) ≤ (k : Int) := by omega
          have i1 : (k : Int) < (es.length : Int) := by omega
          have i2 : (k : Int) ≤ (c : Int) := by omega
          have e1 : IntKind.i64.wrap ((k : Int) + 1) = (k : Int) + 1 := IntWalk.i64_in _ (by omega)
          have KK := Lib.hid (fun W => prop_key x.key W (by omega))
          have hbS : Below wr.heap.size wr (wr.alloc (.cells #[.string x.key, .string x.text] 61)) := belx
          have HBS := Lib.hid hbS
          have HKY := Lib.hid hkeys
          have HSN := Lib.hid hseen
          have hblt : w1.heap.size < wr.heap.size := (HMk.out.lt)
          clear hat hx hst HX hbS hkeys hseen
          cases hq : keyOk x.key
          · have HD : Hid (R = errT 3) := Lib.hid (by rw [HR.out, HX2.out, if_pos hq]; rfl)
            rw [hq] at KK
            clear hq
            go_wp2_with fail
            refine (KK.out _).mono ?_
            rintro e w2 ⟨rfl, hb2⟩
            have HB3 := Lib.hid ((HBk.out.trans (HBS.out.mono sk)).trans (hb2.mono (by simp; omega)))
            clear hb2
            go_wp2_with fail
            go_ret
            exact ⟨by rw [HD.out]; rfl, HB3.out⟩
          · rw [hq] at KK
            have HX3 : Hid (entErr [] es = if memB ((es.take k).map (·.key)) x.key = true then 5 else if 2000 < x.text.size then 4 else entErr ((es.take (k + 1)).map (·.key)) (es.drop (k + 1))) := Lib.hid (by rw [HX2.out, hq]; simp)
            clear hq HX2
            cases hm : memB ((es.take k).map (·.key)) x.key
            · have HX4 : Hid (entErr [] es = if 2000 < x.text.size then 4 else entErr ((es.take (k + 1)).map (·.key)) (es.drop (k + 1))) := Lib.hid (by rw [HX3.out, hm]; simp)
              have HN2 : Hid (((es.take (k + 1)).map (·.key)).Nodup) := Lib.hid (by
                rw [HKY.out, List.nodup_append]
                refine ⟨HNk.out, by simp, fun a ha b hb e => ?_⟩
                rw [List.mem_singleton.1 hb] at e
                rw [e] at ha
                rw [memB_iff.2 ha] at hm
                cases hm)
              have HLK := Lib.hid (seenH_none hm)
              clear hm HX3 HNk
              go_wp2_with fail
              refine (KK.out _).mono ?_
              rintro e w2 ⟨rfl, hb2⟩
              have HM2 := HMk.out.below ((HBS.out).trans (hb2.mono (by simp)))
              have hlk := hm_none HM2 Tryz.underlying261 (zero_unit w2) (by unfold maxLen; omega) HLK.out
              have x0 : w2.cell? ⟨wr.heap.size, 0, none⟩ = some (.string x.key) := carry hb2 (by go_simp)
              have x1 : w2.cell? ⟨wr.heap.size, 1, none⟩ = some (.string x.text) := carry hb2 (by go_simp)
              have HB3 := Lib.hid ((HBk.out.trans (HBS.out.mono sk)).trans (hb2.mono (by simp; omega)))
              obtain ⟨W5, hput, hOW, hFW⟩ := hm_put (s := x.key) (HM2.below ((Below.refl _ _).alloc (Nat.le_refl _) (.cells #[] 262))) Tryz.underlying261 (by unfold maxLen; omega) (by unfold maxLen; omega) (.agg #[])
              have xl := lt_of_cell x0
              have y1 : W5.cell? ⟨wr.heap.size, 1, none⟩ = some (.string x.text) := hFW.cell (by go_simp) (by simp; omega)
              have HM3 : Hid (HMap W5 w1.heap.size (k + 1) (seenH (es.take (k + 1)))) := Lib.hid (by rw [HSN.out]; exact hOW)
              have HB4 : Hid (Below w.heap.size w W5) := Lib.hid ((HB3.out.alloc (by have := HB3.out.size; omega) _).trans (hFW.toBelow (fun j hj => by simp only [List.mem_singleton] at hj; have := HB1.out.size; omega) (by have := HB3.out.size; simp; omega)))
              clear hb2 HM2 hOW hFW HMk HLK HBk
              by_cases h2 : 2000 < x.text.size
              · have HD : Hid (R = errT 4) := Lib.hid (by rw [HR.out, HX4.out, if_pos h2]; rfl)
                have j2 : (2000 : Int) < (x.text.size : Int) := by omega
                clear h2
                go_wp2_with fail
                go_ret
                exact ⟨by rw [HD.out]; rfl, HB4.out⟩
              · have HX5 : Hid (entErr [] es = entErr ((es.take (k + 1)).map (·.key)) (es.drop (k + 1))) := Lib.hid (by rw [HX4.out, if_neg h2])
                have j2 : ¬ (2000 : Int) < (x.text.size : Int) := by omega
                clear h2
                go_wp2_with fail
                go_roundw
                case rel => exact ⟨k + 1, by omega, by go_num, HX5, HM3, HN2, HB4⟩
                case measure => simp [intOf]; omega
            · have HD : Hid (R = errT 5) := Lib.hid (by rw [HR.out, HX3.out, if_pos hm]; rfl)
              have HLK := Lib.hid (seenH_some hm)
              clear hm
              go_wp2_with fail
              refine (KK.out _).mono ?_
              rintro e w2 ⟨rfl, hb2⟩
              have hlk := hm_some (HMk.out.below ((HBS.out).trans (hb2.mono (by simp)))) Tryz.underlying261 (zero_unit w2) (by unfold maxLen; omega) (by rw [seenH_keys]; exact nodup_lists HNk.out) HLK.out
              have x0 : w2.cell? ⟨wr.heap.size, 0, none⟩ = some (.string x.key) := carry hb2 (by go_simp)
              have HB3 := Lib.hid ((HBk.out.trans (HBS.out.mono sk)).trans (hb2.mono (by simp; omega)))
              have xl := lt_of_cell x0
              clear hb2
              go_wp2_with fail
              go_ret
              exact ⟨by rw [HD.out]; rfl, HB3.out.alloc (by have := HB3.out.size; omega) _⟩
        · obtain rfl : k = es.length := by omega
          have HD : Hid (R = .nilIface) := Lib.hid (by rw [HR.out, HX.out, List.drop_length]; rfl)
          go_wp2_with fail
          go_ret
          exact ⟨by rw [HD.out]; rfl, HBk.out⟩
end Go.Proofs.YtplaohmdllindaaGreatDoor
