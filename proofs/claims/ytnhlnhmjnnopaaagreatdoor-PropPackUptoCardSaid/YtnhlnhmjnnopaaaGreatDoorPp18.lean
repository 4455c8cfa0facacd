/- TagParseA, TagParseP0, TagParseP1, TagParseP2, TagParseP3, TagParseP4, TagParseP5, TagParseP6, TagParseP7, TagParseG: texts put together. -/
import Derived.Test.YtnhlnhmjnnopaaaGreatDoorPp16
import Derived.Test.YtnhlnhmjnnopaaaGreatDoorPp17
import Derived.Test.YtnhlnhmjnnopaaaGreatDoorPp1
import Derived.Deep.RegionHeld3
import Derived.Test.YtnhlnhmjnnopaaaGreatDoorPp2
set_option linter.unusedVariables false
set_option linter.unusedSimpArgs false
/- tag.Parse of any text: what its ways share. -/
namespace Go.Proofs.YtnhlnhmjnnopaaaGreatDoor
open Go.RowKit

/-- four cells that may be written -/
structure C4 (w : World) (b : Nat) (v0 v1 v2 v3 : Value) : Prop where
  c0 : w.cell? ⟨b, 0, none⟩ = some v0
  c1 : w.cell? ⟨b, 1, none⟩ = some v1
  c2 : w.cell? ⟨b, 2, none⟩ = some v2
  c3 : w.cell? ⟨b, 3, none⟩ = some v3
  f0 : w.frozen? ⟨b, 0, none⟩ = false
  f1 : w.frozen? ⟨b, 1, none⟩ = false
  f2 : w.frozen? ⟨b, 2, none⟩ = false
  f3 : w.frozen? ⟨b, 3, none⟩ = false
theorem C4.below {w w' : World} {b : Nat} {v0 v1 v2 v3 : Value} (h : C4 w b v0 v1 v2 v3) (hb : Below w.heap.size w w') : C4 w' b v0 v1 v2 v3 :=
  have hl := lt_of_cell h.c0
  ⟨carry hb h.c0, carry hb h.c1, carry hb h.c2, carry hb h.c3, carryF hb hl h.f0, carryF hb hl h.f1, carryF hb hl h.f2, carryF hb hl h.f3⟩
theorem tsize (s : ByteArray) : s.data.toList.length = s.size := by rw [Array.length_toList]; rfl

/-- what tag.Parse tells of a text -/
def ParseOut (s : ByteArray) (e : Ending) (w' : World) : Prop :=
  (isTag s.data.toList = true ∧ ∃ (l sc rg : ByteArray) (A : Option Addr) (c : Nat) (vs : List ByteArray), e = .returned (.tuple #[tagV l sc rg A vs.length c, .nilIface]) ∧ madeT s.data.toList = ⟨l.data.toList, sc.data.toList, rg.data.toList, listsOf vs⟩ ∧ StrsIn w' A vs ∧ vs.length ≤ c ∧ (A = none → c = 0)) ∨
  (isTag s.data.toList = false ∧ e = .returned (.tuple #[tagV ⟨#[]⟩ ⟨#[]⟩ ⟨#[]⟩ none 0 0, errT 3]))
/-- the pieces of a text lie in a row of the call's own -/
theorem split_call (s : ByteArray) (ps : List ByteArray) (hps : Lib.splitB ⟨#[45]⟩ 0 (Lib.countB s ⟨#[45]⟩) s = ps) (w : World) (h : MaxL w) (hs : s.size < 4294967281) :
    Calls Tryz.prog 79 #[.string s, .string ⟨#[45]⟩] w fun e w' => e = .returned (.slice (some ⟨w.heap.size, 0, none⟩) ps.length ps.length) ∧ (∀ (j : Nat) x, ps[j]? = some x → w'.cell? ⟨w.heap.size, j, none⟩ = some (.string x)) ∧ Below w.heap.size w w' := by
  obtain ⟨m, hm⟩ := h
  refine (Tryz.strings_Split s ⟨#[45]⟩ m w hs hm (by decide)).mono ?_
  rintro e w' ⟨rfl, rfl⟩
  have hlen := Lib.splitB_all ⟨#[45]⟩ (by decide) 0 _ s rfl
  rw [hps] at hlen
  rw [hps, ← hlen]
  refine ⟨rfl, fun j x hx => ?_, (Below.refl _ _).alloc (Nat.le_refl _) _⟩
  have h2 : ((ps.map Value.string).toArray)[j]? = some (.string x) := by simp [hx]
  simp only [World.cell?, heap_alloc_new]
  exact h2
theorem low_call (a b : ByteArray) (h : lowerL a.data.toList = b.data.toList) (hs : a.size ≤ 9223372036854775807) (w : World) : Calls Tryz.prog 80 #[.string a] w fun e w' => e = .returned (.string b) ∧ Below w.heap.size w w' := by
  refine (tag_lower a w hs).mono ?_
  rintro e w' ⟨rfl, hb⟩
  rw [h]
  exact ⟨rfl, hb⟩
theorem up_call (a b : ByteArray) (h : upperL a.data.toList = b.data.toList) (hs : a.size ≤ 9223372036854775807) (w : World) : Calls Tryz.prog 83 #[.string a] w fun e w' => e = .returned (.string b) ∧ Below w.heap.size w w' := by
  refine (tag_upper a w hs).mono ?_
  rintro e w' ⟨rfl, hb⟩
  rw [h]
  exact ⟨rfl, hb⟩
theorem reg_call (a : ByteArray) (v : Bool) (h : regionB a.data.toList = v) (hs : a.size ≤ 9223372036854775807) (w : World) : Calls Tryz.prog 84 #[.string a] w fun e w' => e = .returned (.bool v) ∧ w = w' := h ▸ tag_region a w hs
theorem made_call (a : ByteArray) (v : Bool) (h : madeB lowB a.data.toList 4 4 = v) (hs : a.size ≤ 9223372036854775807) (w : World) : Calls Tryz.prog 82 #[.func (.func 81) #[] #[], .string a, .int .i64 4, .int .i64 4] w fun e w' => e = .returned (.bool v) ∧ w = w' := h ▸ made_low a 4 4 w hs (by omega) (by omega)
/-- slices.Clone of pieces -/
theorem clone_call (b o n c : Nat) (zs : List ByteArray) (w : World) (hn : n = zs.length) (hz : n ≤ 8000000000000) (hc : ∀ (j : Nat) x, zs[j]? = some x → w.cell? ⟨b, o + j, none⟩ = some (.string x)) :
    Calls Tryz.prog 85 #[.slice (some ⟨b, o, none⟩) n c] w fun e w' => (∃ A k, e = .returned (.slice A n k) ∧ OwnsS w' w.heap.size (.slice A n k) zs) ∧ Below w.heap.size w w' := by
  subst hn
  cases zs with
  | nil =>
    refine (Tryz.slices_Clone_string_zero ⟨b, o, none⟩ c w).mono ?_
    rintro e w' ⟨v, rfl, ho, hne, hb⟩
    have hS : OwnsS w' w.heap.size v [] := ho
    obtain ⟨A, c', rfl, _⟩ := hS.form
    exact ⟨⟨A, c', rfl, hS⟩, hb⟩
  | cons z r =>
    refine (Tryz.slices_Clone_string b o (z :: r).length c (z :: r) w (Nat.le_refl _) (by omega) (fun j hj => by
      rw [List.getD_eq_getElem?_getD, List.getElem?_eq_getElem hj]
      exact hc j _ (List.getElem?_eq_getElem hj))).mono ?_
    rintro e w' ⟨v, rfl, ho, hne, hb⟩
    rw [List.take_length] at ho
    have hS : OwnsS w' w.heap.size v (z :: r) := ho
    obtain ⟨A, c', rfl, _⟩ := hS.form
    exact ⟨⟨A, c', rfl, hS⟩, hb⟩
theorem OwnsS.set {w : World} {base : Nat} {A : Option Addr} {n c : Nat} {xs : List ByteArray} (h : OwnsS w base (.slice A n c) xs) (b o : Nat) (u : Value) (hb : b < base) : OwnsS (w.setCell ⟨b, o, none⟩ u) base (.slice A n c) xs := by
  obtain ⟨A', c', e, h0, _, hg⟩ := h.form
  refine h.off ((Off.refl [b] w).setCell _ _ (by simp)) (fun g hg' => ?_)
  have := (hg g hg').1
  simp
  omega
theorem OwnsS.caps {w : World} {base : Nat} {A : Option Addr} {n c : Nat} {xs : List ByteArray} (h : OwnsS w base (.slice A n c) xs) : n ≤ c ∧ (A = none → c = 0) := by
  obtain ⟨A', c', e, h0, _, hg⟩ := h.form
  injection e with e1 e2 e3
  subst e1 e3
  exact ⟨h.cap.2, h0⟩
theorem isTag_yes {s : Bs} {T : TagS} (hT : madeT s = T) (he : T.err = 0) (hl : lowerL T.text = lowerL s) : isTag s = true := by
  unfold isTag
  rw [hT, he, hl]
  simp
theorem isTag_no1 {s : Bs} {T : TagS} (hT : madeT s = T) (he : T.err ≠ 0) : isTag s = false := by
  unfold isTag
  rw [hT, beq_eq_false_iff_ne.2 he, Bool.false_and]
theorem isTag_no2 {s : Bs} {T : TagS} (hT : madeT s = T) (hl : lowerL T.text ≠ lowerL s) : isTag s = false := by
  unfold isTag
  rw [hT, beq_eq_false_iff_ne.2 hl, Bool.and_false]
/-- the tag that was made, given the text's pieces -/
theorem made_is {s L : ByteArray} {x : ByteArray} {ps : List ByteArray} (hL : lowerL s.data.toList = L.data.toList) (hps : Lib.splitB ⟨#[45]⟩ 0 (Lib.countB L ⟨#[45]⟩) L = x :: ps) :
    madeT s.data.toList = ⟨x.data.toList, (scrP (listsOf ps)).1, (regP (scrP (listsOf ps)).2).1, (regP (scrP (listsOf ps)).2).2⟩ ∧ (∀ p ∈ x :: ps, p.size ≤ s.size) ∧ ps.length ≤ s.size := by
  have h1 := splitB_dash L
  rw [hps] at h1
  have hl : L.size = s.size := by rw [← tsize, ← tsize, ← hL]; unfold lowerL; simp
  refine ⟨?_, fun p hp => ?_, ?_⟩
  · unfold madeT
    rw [hL, ← h1]
    rfl
  · have := splitD_len L.data.toList p.data.toList (by rw [← h1]; exact List.mem_map_of_mem hp)
    rw [tsize, tsize, hl] at this
    exact this
  · have := splitD_cnt L.data.toList
    rw [← h1, tsize, hl] at this
    simp at this
    omega
end Go.Proofs.YtnhlnhmjnnopaaaGreatDoor

/- tag.Parse: way 0. -/
namespace Go.Proofs.YtnhlnhmjnnopaaaGreatDoor
open Go.RowKit

set_option maxHeartbeats 4000000 in
set_option maxRecDepth 100000 in
theorem parse_way0 (s L x : ByteArray) (w : World) (hM : MaxL w) (hs : s.size ≤ 1000000000) (hL : lowerL s.data.toList = L.data.toList) (hps : Lib.splitB ⟨#[45]⟩ 0 (Lib.countB L ⟨#[45]⟩) L = [x])  :
    Calls Tryz.prog 55 #[.string s] w fun e w' => ParseOut s e w' ∧ Below w.heap.size w w' := by
  obtain ⟨hmade, hsz, hcnt⟩ := made_is hL hps
  have hLs : L.size = s.size := by rw [← tsize, ← tsize, ← hL]; unfold lowerL; simp
  have hT : madeT s.data.toList = ⟨x.data.toList, [], [], listsOf []⟩ := by
    rw [hmade]
    simp [listsOf, List.map_cons, List.map_nil, scrP, regP]
  have HT := Lib.hid hT
  have zx : x.size ≤ 1000000000 := by have := hsz x (by simp); omega
  have HPS := Lib.hid hps
  have HL := Lib.hid hL
  have HM := Lib.hid hM
  clear hmade hsz hcnt hT hps hL hM
  go_enter Tryz.func55, Tryz.ntmps55
  go_wp2_with fail
  refine (low_call s L HL.out (by omega) _).mono ?_
  rintro e w1 ⟨rfl, hb1⟩
  have Hrw1 : C4 w1 (w.heap.size) (.string ⟨#[]⟩) (.string ⟨#[]⟩) (.string ⟨#[]⟩) (.slice none 0 0) := C4.below ⟨by go_simp, by go_simp, by go_simp, by go_simp, by go_simp, by go_simp, by go_simp, by go_simp⟩ hb1
  have Bw1 := Lib.hid hb1
  obtain ⟨r0_w1, r1_w1, r2_w1, r3_w1, r4_w1, r5_w1, r6_w1, r7_w1⟩ := Hrw1
  have qr_w1 := lt_of_cell r0_w1
  have s1 : w.heap.size < w1.heap.size := qr_w1
  go_wp2_with fail
  refine (split_call L _ HPS.out _ (HM.out.below (((Below.refl _ _).alloc (Nat.le_refl _) _).trans (Bw1.out.mono (by simp)))) (by omega)).mono ?_
  rintro e w2 ⟨rfl, hcp, hb2⟩
  have HCP := Lib.hid hcp
  have c0_w2 : w2.cell? ⟨w1.heap.size, 0, none⟩ = some (.string x) := hcp 0 x rfl
  have Hrw2 : C4 w2 (w.heap.size) (.string ⟨#[]⟩) (.string ⟨#[]⟩) (.string ⟨#[]⟩) (.slice none 0 0) := C4.below ⟨by go_simp, by go_simp, by go_simp, by go_simp, by go_simp, by go_simp, by go_simp, by go_simp⟩ hb2
  have Bw2 := Lib.hid hb2
  clear hcp hb2 r0_w1 r1_w1 r2_w1 r3_w1 r4_w1 r5_w1 r6_w1 r7_w1 qr_w1
  obtain ⟨r0_w2, r1_w2, r2_w2, r3_w2, r4_w2, r5_w2, r6_w2, r7_w2⟩ := Hrw2
  have qr_w2 := lt_of_cell r0_w2
  have qc_w2 := lt_of_cell c0_w2
  simp only [List.length_cons, List.length_nil, Nat.zero_add]
  go_wp2_with fail
  have DC : Below w2.heap.size w2 (w2.alloc (.cells #[.string x, .string ⟨#[]⟩, .string ⟨#[]⟩, .slice none 0 0] 105)) := (by (repeat (first | with_reducible exact Below.refl _ _ | with_reducible refine bel_set ?_ ?_ | with_reducible refine bel_alloc ?_ ?_ | with_reducible refine Below.drew ?_ | with_reducible refine bel_drewN _ ?_ | with_reducible refine bel_call ?_ (by assumption) ?_)); all_goals (first | (simp; done) | omega | (simp; omega)))
  have SC : w2.heap.size < (w2.alloc (.cells #[.string x, .string ⟨#[]⟩, .string ⟨#[]⟩, .slice none 0 0] 105)).heap.size := by simp
  have HCL : Hid (∀ (j : Nat) z, ([] : List ByteArray)[j]? = some z → (w2.alloc (.cells #[.string x, .string ⟨#[]⟩, .string ⟨#[]⟩, .slice none 0 0] 105)).cell? ⟨w1.heap.size, 1 + j, none⟩ = some (.string z)) := Lib.hid (fun j z hz => by simp at hz)
  clear DC
  refine (clone_call w1.heap.size 0 _ _ [] _ rfl (by first | (simp; done) | (simp; omega)) (fun j z hz => by simp at hz)).mono ?_
  rintro e w5 ⟨⟨A, kc, rfl, ho⟩, hb⟩
  have Hrw5 : C4 w5 (w.heap.size) (.string ⟨#[]⟩) (.string ⟨#[]⟩) (.string ⟨#[]⟩) (.slice none 0 0) := C4.below ⟨by go_simp, by go_simp, by go_simp, by go_simp, by go_simp, by go_simp, by go_simp, by go_simp⟩ hb
  have Htw5 : C4 w5 (w2.heap.size) (.string x) (.string ⟨#[]⟩) (.string ⟨#[]⟩) (.slice none 0 0) := C4.below ⟨by go_simp, by go_simp, by go_simp, by go_simp, by go_simp, by go_simp, by go_simp, by go_simp⟩ hb
  have D5 : Below w2.heap.size w2 w5 := (by (repeat (first | with_reducible exact Below.refl _ _ | with_reducible refine bel_set ?_ ?_ | with_reducible refine bel_alloc ?_ ?_ | with_reducible refine Below.drew ?_ | with_reducible refine bel_drewN _ ?_ | with_reducible refine bel_call ?_ (by assumption) ?_)); all_goals (first | (simp; done) | omega | (simp; omega)))
  clear hb SC HCL ho r0_w2 r1_w2 r2_w2 r3_w2 r4_w2 r5_w2 r6_w2 r7_w2 qr_w2 c0_w2
  obtain ⟨r0_w5, r1_w5, r2_w5, r3_w5, r4_w5, r5_w5, r6_w5, r7_w5⟩ := Hrw5
  have qr_w5 := lt_of_cell r0_w5
  obtain ⟨t0_w5, t1_w5, t2_w5, t3_w5, t4_w5, t5_w5, t6_w5, t7_w5⟩ := Htw5
  have qt_w5 := lt_of_cell t0_w5
  go_wp2_with fail
  obtain ⟨E, hE⟩ : ∃ E, E = tagErr x.data.toList (⟨#[]⟩ : ByteArray).data.toList (⟨#[]⟩ : ByteArray).data.toList (listsOf []) := ⟨_, rfl⟩
  have KC := Lib.hid (fun W => tag_check x ⟨#[]⟩ ⟨#[]⟩ none 0 [] W (by omega) (by decide) (by decide) (.inl rfl) (by simp) (by simp) (by simp))
  rw [← hE] at KC
  have HE := Lib.hid hE
  clear hE 
  by_cases h0 : E = 0
  · subst h0
    have E0 : errOf 0 = .nilIface := rfl
    rw [E0] at KC
    refine ((KC.out _)).mono ?_
    rintro e w6 ⟨rfl, hb⟩
    have Hrw6 : C4 w6 (w.heap.size) (.string ⟨#[]⟩) (.string ⟨#[]⟩) (.string ⟨#[]⟩) (.slice none 0 0) := C4.below ⟨by go_simp, by go_simp, by go_simp, by go_simp, by go_simp, by go_simp, by go_simp, by go_simp⟩ hb
    have Htw6 : C4 w6 (w2.heap.size) (.string x) (.string ⟨#[]⟩) (.string ⟨#[]⟩) (.slice none 0 0) := C4.below ⟨by go_simp, by go_simp, by go_simp, by go_simp, by go_simp, by go_simp, by go_simp, by go_simp⟩ hb
    have D6 : Below w2.heap.size w2 w6 := (by (repeat (first | with_reducible exact Below.refl _ _ | with_reducible refine bel_set ?_ ?_ | with_reducible refine bel_alloc ?_ ?_ | with_reducible refine Below.drew ?_ | with_reducible refine bel_drewN _ ?_ | with_reducible refine bel_call ?_ (by assumption) ?_)); all_goals (first | (simp; done) | omega | (simp; omega)))
    clear hb r0_w5 r1_w5 r2_w5 r3_w5 r4_w5 r5_w5 r6_w5 r7_w5 qr_w5 t0_w5 t1_w5 t2_w5 t3_w5 t4_w5 t5_w5 t6_w5 t7_w5 qt_w5 D5 E0
    obtain ⟨r0_w6, r1_w6, r2_w6, r3_w6, r4_w6, r5_w6, r6_w6, r7_w6⟩ := Hrw6
    have qr_w6 := lt_of_cell r0_w6
    obtain ⟨t0_w6, t1_w6, t2_w6, t3_w6, t4_w6, t5_w6, t6_w6, t7_w6⟩ := Htw6
    have qt_w6 := lt_of_cell t0_w6
    have he0 := HE.out.symm
    have hlt := text_len he0
    obtain ⟨t, ht⟩ : ∃ t : ByteArray, t = ⟨(tagText x.data.toList (⟨#[]⟩ : ByteArray).data.toList (⟨#[]⟩ : ByteArray).data.toList (listsOf [])).toArray⟩ := ⟨_, rfl⟩
    have htz : t.size ≤ 100 := by rw [← tsize, ht]; exact hlt
    have KT := Lib.hid (tag_text x ⟨#[]⟩ ⟨#[]⟩ none 0 [] w6 (.inl rfl) (fun _ => rfl) he0)
    rw [← ht] at KT
    obtain ⟨m, hm⟩ : ∃ m : ByteArray, lowerL t.data.toList = m.data.toList := ⟨⟨(lowerL t.data.toList).toArray⟩, rfl⟩
    have HMM := Lib.hid hm
    have HTT := Lib.hid ht
    clear hm ht hlt he0
    go_wp2_with fail
    refine (KT.out).mono ?_
    rintro e w7 ⟨rfl, hb⟩
    have Hrw7 : C4 w7 (w.heap.size) (.string ⟨#[]⟩) (.string ⟨#[]⟩) (.string ⟨#[]⟩) (.slice none 0 0) := C4.below ⟨by go_simp, by go_simp, by go_simp, by go_simp, by go_simp, by go_simp, by go_simp, by go_simp⟩ hb
    have Htw7 : C4 w7 (w2.heap.size) (.string x) (.string ⟨#[]⟩) (.string ⟨#[]⟩) (.slice none 0 0) := C4.below ⟨by go_simp, by go_simp, by go_simp, by go_simp, by go_simp, by go_simp, by go_simp, by go_simp⟩ hb
    have D7 : Below w2.heap.size w2 w7 := (by (repeat (first | with_reducible exact Below.refl _ _ | with_reducible refine bel_set ?_ ?_ | with_reducible refine bel_alloc ?_ ?_ | with_reducible refine Below.drew ?_ | with_reducible refine bel_drewN _ ?_ | with_reducible refine bel_call ?_ (by assumption) ?_)); all_goals (first | (simp; done) | omega | (simp; omega)))
    clear hb r0_w6 r1_w6 r2_w6 r3_w6 r4_w6 r5_w6 r6_w6 r7_w6 qr_w6 t0_w6 t1_w6 t2_w6 t3_w6 t4_w6 t5_w6 t6_w6 t7_w6 qt_w6 D6
    obtain ⟨r0_w7, r1_w7, r2_w7, r3_w7, r4_w7, r5_w7, r6_w7, r7_w7⟩ := Hrw7
    have qr_w7 := lt_of_cell r0_w7
    obtain ⟨t0_w7, t1_w7, t2_w7, t3_w7, t4_w7, t5_w7, t6_w7, t7_w7⟩ := Htw7
    have qt_w7 := lt_of_cell t0_w7
    go_wp2_with fail
    refine (low_call t m HMM.out (by omega) _).mono ?_
    rintro e w8 ⟨rfl, hb⟩
    have Hrw8 : C4 w8 (w.heap.size) (.string ⟨#[]⟩) (.string ⟨#[]⟩) (.string ⟨#[]⟩) (.slice none 0 0) := C4.below ⟨by go_simp, by go_simp, by go_simp, by go_simp, by go_simp, by go_simp, by go_simp, by go_simp⟩ hb
    have Htw8 : C4 w8 (w2.heap.size) (.string x) (.string ⟨#[]⟩) (.string ⟨#[]⟩) (.slice none 0 0) := C4.below ⟨by go_simp, by go_simp, by go_simp, by go_simp, by go_simp, by go_simp, by go_simp, by go_simp⟩ hb
    have D8 : Below w2.heap.size w2 w8 := (by (repeat (first | with_reducible exact Below.refl _ _ | with_reducible refine bel_set ?_ ?_ | with_reducible refine bel_alloc ?_ ?_ | with_reducible refine Below.drew ?_ | with_reducible refine bel_drewN _ ?_ | with_reducible refine bel_call ?_ (by assumption) ?_)); all_goals (first | (simp; done) | omega | (simp; omega)))
    clear hb r0_w7 r1_w7 r2_w7 r3_w7 r4_w7 r5_w7 r6_w7 r7_w7 qr_w7 t0_w7 t1_w7 t2_w7 t3_w7 t4_w7 t5_w7 t6_w7 t7_w7 qt_w7 D7
    obtain ⟨r0_w8, r1_w8, r2_w8, r3_w8, r4_w8, r5_w8, r6_w8, r7_w8⟩ := Hrw8
    have qr_w8 := lt_of_cell r0_w8
    obtain ⟨t0_w8, t1_w8, t2_w8, t3_w8, t4_w8, t5_w8, t6_w8, t7_w8⟩ := Htw8
    have qt_w8 := lt_of_cell t0_w8
    go_wp2_with fail
    refine (low_call s L HL.out (by omega) _).mono ?_
    rintro e w9 ⟨rfl, hb⟩
    have Hrw9 : C4 w9 (w.heap.size) (.string ⟨#[]⟩) (.string ⟨#[]⟩) (.string ⟨#[]⟩) (.slice none 0 0) := C4.below ⟨by go_simp, by go_simp, by go_simp, by go_simp, by go_simp, by go_simp, by go_simp, by go_simp⟩ hb
    have Htw9 : C4 w9 (w2.heap.size) (.string x) (.string ⟨#[]⟩) (.string ⟨#[]⟩) (.slice none 0 0) := C4.below ⟨by go_simp, by go_simp, by go_simp, by go_simp, by go_simp, by go_simp, by go_simp, by go_simp⟩ hb
    have D9 : Below w2.heap.size w2 w9 := (by (repeat (first | with_reducible exact Below.refl _ _ | with_reducible refine bel_set ?_ ?_ | with_reducible refine bel_alloc ?_ ?_ | with_reducible refine Below.drew ?_ | with_reducible refine bel_drewN _ ?_ | with_reducible refine bel_call ?_ (by assumption) ?_)); all_goals (first | (simp; done) | omega | (simp; omega)))
    clear hb r0_w8 r1_w8 r2_w8 r3_w8 r4_w8 r5_w8 r6_w8 r7_w8 qr_w8 t0_w8 t1_w8 t2_w8 t3_w8 t4_w8 t5_w8 t6_w8 t7_w8 qt_w8 D8
    obtain ⟨r0_w9, r1_w9, r2_w9, r3_w9, r4_w9, r5_w9, r6_w9, r7_w9⟩ := Hrw9
    have qr_w9 := lt_of_cell r0_w9
    obtain ⟨t0_w9, t1_w9, t2_w9, t3_w9, t4_w9, t5_w9, t6_w9, t7_w9⟩ := Htw9
    have qt_w9 := lt_of_cell t0_w9
    have hb1 := Bw1.out
    have hb2 := Bw2.out
    have b1 := hb1.size
    have b2 := hb2.size
    have hbD := hb2.trans (D9.mono hb2.size)
    cases hq : (m.toList == L.toList)
    · have hne : lowerL (tagText x.data.toList (⟨#[]⟩ : ByteArray).data.toList (⟨#[]⟩ : ByteArray).data.toList (listsOf [])) ≠ lowerL s.data.toList := fun h => by
        have h2 := HMM.out
        rw [HTT.out] at h2
        rw [h2, HL.out] at h
        rw [Lib.toList_data, Lib.toList_data, h] at hq
        simp at hq
      have HNE := Lib.hid hne
      clear hne
      have hq2 : (m.toList != L.toList) = true := by rw [bne, hq]; rfl
      go_wp2_with fail
      exact bodyPost_ret (v := .tuple #[tagV ⟨#[]⟩ ⟨#[]⟩ ⟨#[]⟩ none 0 0, errT 3]) (by simp [results, Tryz.results55, go_sem, r0_w9, r1_w9, r2_w9, r3_w9, World.cell?_setCell_same, World.cell?_setCell_other]) rfl ⟨.inr ⟨isTag_no2 HT.out HNE.out, rfl⟩, (by (repeat (first | with_reducible exact Below.refl _ _ | with_reducible refine bel_set ?_ ?_ | with_reducible refine bel_alloc ?_ ?_ | with_reducible refine Below.drew ?_ | with_reducible refine bel_drewN _ ?_ | with_reducible refine bel_call ?_ (by assumption) ?_)); all_goals (first | (simp; done) | omega | (simp; omega)))⟩
    · have hyes : isTag s.data.toList = true := isTag_yes HT.out HE.out.symm (by
        have h2 := HMM.out
        rw [HTT.out] at h2
        have h3 := eq_of_beq hq
        rw [Lib.toList_data, Lib.toList_data] at h3
        rw [HL.out, ← h3]
        exact h2)
      have HYES := Lib.hid hyes
      clear hyes
      have hq2 : m.toList = L.toList := by simpa using hq
      go_wp2_with fail
      refine bodyPost_ret (v := .tuple #[tagV x ⟨#[]⟩ ⟨#[]⟩ none 0 0, .nilIface]) (by simp [results, Tryz.results55, go_sem, r0_w9, r1_w9, r2_w9, r3_w9, World.cell?_setCell_same, World.cell?_setCell_other]) rfl ⟨.inl ⟨HYES.out, x, ⟨#[]⟩, ⟨#[]⟩, none, 0, [], rfl, HT.out, ?_, ?_, ?_⟩, (by (repeat (first | with_reducible exact Below.refl _ _ | with_reducible refine bel_set ?_ ?_ | with_reducible refine bel_alloc ?_ ?_ | with_reducible refine Below.drew ?_ | with_reducible refine bel_drewN _ ?_ | with_reducible refine bel_call ?_ (by assumption) ?_)); all_goals (first | (simp; done) | omega | (simp; omega)))⟩
      · exact .inl rfl
      · exact Nat.le_refl _
      · exact fun _ => rfl
  · have E0 : errOf E = errT E := if_neg h0
    rw [E0] at KC
    have HNE : Hid (tagErr x.data.toList (⟨#[]⟩ : ByteArray).data.toList (⟨#[]⟩ : ByteArray).data.toList (listsOf []) ≠ 0) := Lib.hid (fun h => h0 (HE.out.trans h))
    clear h0 E0 HE
    refine ((KC.out _)).mono ?_
    rintro e w6 ⟨rfl, hb⟩
    have Hrw6 : C4 w6 (w.heap.size) (.string ⟨#[]⟩) (.string ⟨#[]⟩) (.string ⟨#[]⟩) (.slice none 0 0) := C4.below ⟨by go_simp, by go_simp, by go_simp, by go_simp, by go_simp, by go_simp, by go_simp, by go_simp⟩ hb
    have Htw6 : C4 w6 (w2.heap.size) (.string x) (.string ⟨#[]⟩) (.string ⟨#[]⟩) (.slice none 0 0) := C4.below ⟨by go_simp, by go_simp, by go_simp, by go_simp, by go_simp, by go_simp, by go_simp, by go_simp⟩ hb
    have D6 : Below w2.heap.size w2 w6 := (by (repeat (first | with_reducible exact Below.refl _ _ | with_reducible refine bel_set ?_ ?_ | with_reducible refine bel_alloc ?_ ?_ | with_reducible refine Below.drew ?_ | with_reducible refine bel_drewN _ ?_ | with_reducible refine bel_call ?_ (by assumption) ?_)); all_goals (first | (simp; done) | omega | (simp; omega)))
    clear hb r0_w5 r1_w5 r2_w5 r3_w5 r4_w5 r5_w5 r6_w5 r7_w5 qr_w5 t0_w5 t1_w5 t2_w5 t3_w5 t4_w5 t5_w5 t6_w5 t7_w5 qt_w5 D5
    obtain ⟨r0_w6, r1_w6, r2_w6, r3_w6, r4_w6, r5_w6, r6_w6, r7_w6⟩ := Hrw6
    have qr_w6 := lt_of_cell r0_w6
    obtain ⟨t0_w6, t1_w6, t2_w6, t3_w6, t4_w6, t5_w6, t6_w6, t7_w6⟩ := Htw6
    have qt_w6 := lt_of_cell t0_w6
    have hb1 := Bw1.out
    have hb2 := Bw2.out
    have b1 := hb1.size
    have b2 := hb2.size
    have hbD := hb2.trans (D6.mono hb2.size)
    go_wp2_with fail
    exact bodyPost_ret (v := .tuple #[tagV ⟨#[]⟩ ⟨#[]⟩ ⟨#[]⟩ none 0 0, errT 3]) (by simp [results, Tryz.results55, go_sem, r0_w6, r1_w6, r2_w6, r3_w6, World.cell?_setCell_same, World.cell?_setCell_other]) rfl ⟨.inr ⟨isTag_no1 HT.out HNE.out, rfl⟩, (by (repeat (first | with_reducible exact Below.refl _ _ | with_reducible refine bel_set ?_ ?_ | with_reducible refine bel_alloc ?_ ?_ | with_reducible refine Below.drew ?_ | with_reducible refine bel_drewN _ ?_ | with_reducible refine bel_call ?_ (by assumption) ?_)); all_goals (first | (simp; done) | omega | (simp; omega)))⟩
end Go.Proofs.YtnhlnhmjnnopaaaGreatDoor

/- tag.Parse: way 1. -/
namespace Go.Proofs.YtnhlnhmjnnopaaaGreatDoor
open Go.RowKit

set_option maxHeartbeats 4000000 in
set_option maxRecDepth 100000 in
theorem parse_way1 (s L x p : ByteArray) (w : World) (hM : MaxL w) (hs : s.size ≤ 1000000000) (hL : lowerL s.data.toList = L.data.toList) (hps : Lib.splitB ⟨#[45]⟩ 0 (Lib.countB L ⟨#[45]⟩) L = x :: p :: []) (hp : madeB lowB p.data.toList 4 4 = true) :
    Calls Tryz.prog 55 #[.string s] w fun e w' => ParseOut s e w' ∧ Below w.heap.size w w' := by
  obtain ⟨hmade, hsz, hcnt⟩ := made_is hL hps
  have hLs : L.size = s.size := by rw [← tsize, ← tsize, ← hL]; unfold lowerL; simp
  have hp4 : p.size = 4 := by have := madeB_len hp; rw [tsize] at this; omega
  obtain ⟨u, hu⟩ : ∃ u : ByteArray, upperL (p.extract 0 1).data.toList = u.data.toList := ⟨⟨(upperL (p.extract 0 1).data.toList).toArray⟩, rfl⟩
  have huz : u.size = 1 := by rw [← tsize, ← hu, upper_len, Lib.extract_from_zero, List.length_take, tsize]; omega
  have hez : (p.extract 1 p.size).size ≤ 4 := by rw [ByteArray.size_extract]; omega
  have hez0 : (p.extract 0 1).size ≤ 9223372036854775807 := by rw [ByteArray.size_extract]; omega
  obtain ⟨sc, hsc, hcat⟩ := add_let u (p.extract 1 p.size) (by omega)
  have hsc2 : sc.data.toList = upperL (p.data.toList.take 1) ++ p.data.toList.drop 1 := by rw [hsc, ByteArray.data_append, Array.toList_append, ← hu, Lib.extract_from_zero, Lib.extract_to_end]
  have hscz : sc.size ≤ 1000000000 := by rw [← tsize, hsc2, List.length_append, upper_len, ← List.length_append, List.take_append_drop, tsize]; omega
  have hT : madeT s.data.toList = ⟨x.data.toList, sc.data.toList, [], listsOf []⟩ := by
    rw [hmade]
    simp [listsOf, List.map_cons, List.map_nil, scrP, regP, if_pos hp, hsc2]
  have HT := Lib.hid hT
  have zx : x.size ≤ 1000000000 := by have := hsz x (by simp); omega
  have zp : p.size ≤ 1000000000 := by have := hsz p (by simp); omega
  have HPS := Lib.hid hps
  have HL := Lib.hid hL
  have HM := Lib.hid hM
  have HU := Lib.hid hu
  have HP := Lib.hid hp
  clear hmade hsz hcnt hT hps hL hM hu hp hsc2
  go_enter Tryz.func55, Tryz.ntmps55
  go_wp2_with fail
  refine (low_call s L HL.out (by omega) _).mono ?_
  rintro e w1 ⟨rfl, hb1⟩
  have Hrw1 : C4 w1 (w.heap.size) (.string ⟨#[]⟩) (.string ⟨#[]⟩) (.string ⟨#[]⟩) (.slice none 0 0) := C4.below ⟨by go_simp, by go_simp, by go_simp, by go_simp, by go_simp, by go_simp, by go_simp, by go_simp⟩ hb1
  have Bw1 := Lib.hid hb1
  obtain ⟨r0_w1, r1_w1, r2_w1, r3_w1, r4_w1, r5_w1, r6_w1, r7_w1⟩ := Hrw1
  have qr_w1 := lt_of_cell r0_w1
  have s1 : w.heap.size < w1.heap.size := qr_w1
  go_wp2_with fail
  refine (split_call L _ HPS.out _ (HM.out.below (((Below.refl _ _).alloc (Nat.le_refl _) _).trans (Bw1.out.mono (by simp)))) (by omega)).mono ?_
  rintro e w2 ⟨rfl, hcp, hb2⟩
  have HCP := Lib.hid hcp
  have c0_w2 : w2.cell? ⟨w1.heap.size, 0, none⟩ = some (.string x) := hcp 0 x rfl
  have c1_w2 : w2.cell? ⟨w1.heap.size, 1, none⟩ = some (.string p) := hcp 1 p rfl
  have Hrw2 : C4 w2 (w.heap.size) (.string ⟨#[]⟩) (.string ⟨#[]⟩) (.string ⟨#[]⟩) (.slice none 0 0) := C4.below ⟨by go_simp, by go_simp, by go_simp, by go_simp, by go_simp, by go_simp, by go_simp, by go_simp⟩ hb2
  have Bw2 := Lib.hid hb2
  clear hcp hb2 r0_w1 r1_w1 r2_w1 r3_w1 r4_w1 r5_w1 r6_w1 r7_w1 qr_w1
  obtain ⟨r0_w2, r1_w2, r2_w2, r3_w2, r4_w2, r5_w2, r6_w2, r7_w2⟩ := Hrw2
  have qr_w2 := lt_of_cell r0_w2
  have qc_w2 := lt_of_cell c0_w2
  simp only [List.length_cons, List.length_nil, Nat.zero_add]
  go_wp2_with fail
  refine (made_call p true HP.out (by omega) _).mono ?_
  rintro e w2x ⟨rfl, rfl⟩
  go_wp2_with fail
  have z1 : (1 : Int) ≤ (p.size : Int) := by omega
  refine wp_region_held_drew (S := fun w' => w'.cell? ⟨w1.heap.size, 1, none⟩ = some (.string p)) (by kernel_rfl) ?_ (fun hHeld => ?_)
  · (try dsimp only); go_simp
  refine wpAnyH_take (i := 0) (v := ?v1) rfl (by kernel_rfl) (by kernel_rfl) (by kernel_rfl) (fun _ _ _ h => h) (Or.inl ⟨rfl, ?hy1⟩) hHeld ?rest1
  case hy1 => (intro w hSw; (try dsimp only at hSw); go_simp; try with_reducible rfl)
  try simp only [Act.put, List.setIfInBounds_toArray, List.set_cons_zero, List.set_cons_succ, List.getElem_toArray, List.getElem_cons_zero, List.getElem_cons_succ]
  refine wpAnyH_take (i := 1) (v := ?v2) rfl (by kernel_rfl) (by kernel_rfl) (by kernel_rfl) (fun _ _ _ h => h) (Or.inl ⟨rfl, ?hy2⟩) hHeld ?rest2
  case hy2 => (intro w hSw; (try dsimp only at hSw); go_simp; try with_reducible rfl)
  try simp only [Act.put, List.setIfInBounds_toArray, List.set_cons_zero, List.set_cons_succ, List.getElem_toArray, List.getElem_cons_zero, List.getElem_cons_succ]
  refine wpAnyH_take (i := 2) (v := ?v3) rfl (by kernel_rfl) (by kernel_rfl) (by kernel_rfl) (fun _ _ _ h => h) (Or.inl ⟨rfl, ?hy3⟩) hHeld ?rest3
  case hy3 => (intro w hSw; (try dsimp only at hSw); go_simp; try with_reducible rfl)
  try simp only [Act.put, List.setIfInBounds_toArray, List.set_cons_zero, List.set_cons_succ, List.getElem_toArray, List.getElem_cons_zero, List.getElem_cons_succ]
  refine wpAnyH_take (i := 3) (v := ?v4) rfl (by kernel_rfl) (by kernel_rfl) (by kernel_rfl) (fun _ _ _ h => h) (Or.inl ⟨rfl, ?hy4⟩) hHeld ?rest4
  case hy4 => (intro w hSw; (try dsimp only at hSw); go_simp; try with_reducible rfl)
  try simp only [Act.put, List.setIfInBounds_toArray, List.set_cons_zero, List.set_cons_succ, List.getElem_toArray, List.getElem_cons_zero, List.getElem_cons_succ]
  refine wpAnyH_take (i := 5) (v := ?v5) rfl (by kernel_rfl) (by kernel_rfl) (by kernel_rfl) (fun _ _ _ h => h) (Or.inl ⟨rfl, ?hy5⟩) hHeld ?rest5
  case hy5 => (intro w hSw; (try dsimp only at hSw); go_simp; try with_reducible rfl)
  try simp only [Act.put, List.setIfInBounds_toArray, List.set_cons_zero, List.set_cons_succ, List.getElem_toArray, List.getElem_cons_zero, List.getElem_cons_succ]
  refine wpAnyH_take (i := 6) (v := ?v6) rfl (by kernel_rfl) (by kernel_rfl) (by kernel_rfl) (fun _ _ _ h => h) (Or.inl ⟨rfl, ?hy6⟩) hHeld ?rest6
  case hy6 => (intro w hSw; (try dsimp only at hSw); go_simp; try with_reducible rfl)
  try simp only [Act.put, List.setIfInBounds_toArray, List.set_cons_zero, List.set_cons_succ, List.getElem_toArray, List.getElem_cons_zero, List.getElem_cons_succ]
  refine wpAnyH_take (i := 7) (v := ?v7) rfl (by kernel_rfl) (by kernel_rfl) (by kernel_rfl) (fun _ _ _ h => h) (Or.inl ⟨rfl, ?hy7⟩) hHeld ?rest7
  case hy7 => (intro w hSw; (try dsimp only at hSw); go_simp; try with_reducible rfl)
  try simp only [Act.put, List.setIfInBounds_toArray, List.set_cons_zero, List.set_cons_succ, List.getElem_toArray, List.getElem_cons_zero, List.getElem_cons_succ]
  refine wpAnyH_take (i := 8) (v := ?v8) rfl (by kernel_rfl) (by kernel_rfl) (by kernel_rfl) (fun _ _ _ h => h) (Or.inl ⟨rfl, ?hy8⟩) hHeld ?rest8
  case hy8 => (intro w hSw; (try dsimp only at hSw); go_simp; try with_reducible rfl)
  try simp only [Act.put, List.setIfInBounds_toArray, List.set_cons_zero, List.set_cons_succ, List.getElem_toArray, List.getElem_cons_zero, List.getElem_cons_succ]
  refine wpAnyH_ready (rs := [4]) (by kernel_rfl) (by simp) (AllReadyH.cons rfl (fun K hK => ?_) AllReadyH.nil)
  go_simp
  go_at_call 83; refine (up_call (p.extract 0 1) u HU.out hez0 _).mono ?_; rintro e w3 ⟨rfl, hb3⟩
  try dsimp only
  refine hK.out _ _ (carry hb3 (by go_simp)) (fun hNew => ?_)
  have B3 : Below w2.heap.size w2 w3 := Below.trans ((Below.refl w2.heap.size w2).alloc (Nat.le_refl _) (.cells #[.string x, .string ⟨#[]⟩, .string ⟨#[]⟩, .slice none 0 0] 105)).drew (hb3.mono (show w2.heap.size ≤ _ by simp))
  have Bw3 := Lib.hid B3
  have Hrw3 : C4 w3 (w.heap.size) (.string ⟨#[]⟩) (.string ⟨#[]⟩) (.string ⟨#[]⟩) (.slice none 0 0) := C4.below ⟨by go_simp, by go_simp, by go_simp, by go_simp, by go_simp, by go_simp, by go_simp, by go_simp⟩ hb3
  have Htw3 : C4 w3 (w2.heap.size) (.string x) (.string ⟨#[]⟩) (.string ⟨#[]⟩) (.slice none 0 0) := C4.below ⟨by go_simp, by go_simp, by go_simp, by go_simp, by go_simp, by go_simp, by go_simp, by go_simp⟩ hb3
  clear hK K hHeld hb3 B3
  have hHeld := hNew
  clear hNew r0_w2 r1_w2 r2_w2 r3_w2 r4_w2 r5_w2 r6_w2 r7_w2
  obtain ⟨r0_w3, r1_w3, r2_w3, r3_w3, r4_w3, r5_w3, r6_w3, r7_w3⟩ := Hrw3
  obtain ⟨t0_w3, t1_w3, t2_w3, t3_w3, t4_w3, t5_w3, t6_w3, t7_w3⟩ := Htw3
  have qr_w3 := lt_of_cell r0_w3
  have qt_w3 := lt_of_cell t0_w3
  try simp only [Act.put, List.setIfInBounds_toArray, List.set_cons_zero, List.set_cons_succ, List.getElem_toArray, List.getElem_cons_zero, List.getElem_cons_succ]
  refine wpAnyH_take (i := 9) (v := ?v9) rfl (by kernel_rfl) (by kernel_rfl) (by kernel_rfl) (fun _ _ _ h => h) (Or.inl ⟨rfl, ?hy9⟩) hHeld ?rest9
  case hy9 => (intro w hSw; (try dsimp only at hSw); go_simp; try with_reducible rfl)
  try simp only [Act.put, List.setIfInBounds_toArray, List.set_cons_zero, List.set_cons_succ, List.getElem_toArray, List.getElem_cons_zero, List.getElem_cons_succ]
  refine wpAnyH_take (i := 10) (v := ?v10) rfl (by kernel_rfl) (by kernel_rfl) (by kernel_rfl) (fun _ _ _ h => h) (Or.inl ⟨rfl, ?hy10⟩) hHeld ?rest10
  case hy10 => (intro w hSw; (try dsimp only at hSw); go_simp; try with_reducible rfl)
  try simp only [Act.put, List.setIfInBounds_toArray, List.set_cons_zero, List.set_cons_succ, List.getElem_toArray, List.getElem_cons_zero, List.getElem_cons_succ]
  refine wpAnyH_ready (rs := [11]) (by kernel_rfl) (by simp) (AllReadyH.cons rfl (fun K hK => ?_) AllReadyH.nil)
  go_simp
  have hsc4 : u ++ p.extract 1 4 = sc := by rw [hsc, hp4]
  rw [hsc4]
  refine hK.out _ _ (cell_other hHeld (by intro e; injection e with e1; omega)) (fun hNew => ?_)
  clear hK K hHeld hNew hsc4
  refine wpAnyH_done (by kernel_rfl) ?_ _
  have Hrw4 : C4 (w3.setCell ⟨w2.heap.size, 1, none⟩ (.string sc)) (w.heap.size) (.string ⟨#[]⟩) (.string ⟨#[]⟩) (.string ⟨#[]⟩) (.slice none 0 0) := ⟨by go_simp, by go_simp, by go_simp, by go_simp, by go_simp, by go_simp, by go_simp, by go_simp⟩
  have Htw4 : C4 (w3.setCell ⟨w2.heap.size, 1, none⟩ (.string sc)) (w2.heap.size) (.string x) (.string sc) (.string ⟨#[]⟩) (.slice none 0 0) := ⟨by go_simp, by go_simp, by go_simp, by go_simp, by go_simp, by go_simp, by go_simp, by go_simp⟩
  have D4 : Below w2.heap.size w2 (w3.setCell ⟨w2.heap.size, 1, none⟩ (.string sc)) := bel_set Bw3.out (Nat.le_refl _)
  have hq4 : w2.heap.size < (w3.setCell ⟨w2.heap.size, 1, none⟩ (.string sc)).heap.size := lt_of_cell Htw4.c0
  clear r0_w3 r1_w3 r2_w3 r3_w3 r4_w3 r5_w3 r6_w3 r7_w3 t0_w3 t1_w3 t2_w3 t3_w3 t4_w3 t5_w3 t6_w3 t7_w3 qr_w3 qt_w3 Bw3 hcat huz hez hez0 hsc hp4 z1
  generalize (w3.setCell ⟨w2.heap.size, 1, none⟩ (.string sc)) = w4 at *
  clear c0_w2 c1_w2 qr_w2
  obtain ⟨r0_w4, r1_w4, r2_w4, r3_w4, r4_w4, r5_w4, r6_w4, r7_w4⟩ := Hrw4
  have qr_w4 := lt_of_cell r0_w4
  obtain ⟨t0_w4, t1_w4, t2_w4, t3_w4, t4_w4, t5_w4, t6_w4, t7_w4⟩ := Htw4
  have qt_w4 := lt_of_cell t0_w4
  go_wp2_with fail
  have DC : Below w2.heap.size w2 w4 := (by (repeat (first | with_reducible exact Below.refl _ _ | with_reducible refine bel_set ?_ ?_ | with_reducible refine bel_alloc ?_ ?_ | with_reducible refine Below.drew ?_ | with_reducible refine bel_drewN _ ?_ | with_reducible refine bel_call ?_ (by assumption) ?_)); all_goals (first | (simp; done) | omega | (simp; omega)))
  have SC : w2.heap.size < w4.heap.size := by simpa using qt_w4
  have HCL : Hid (∀ (j : Nat) z, ([] : List ByteArray)[j]? = some z → w4.cell? ⟨w1.heap.size, 2 + j, none⟩ = some (.string z)) := Lib.hid (fun j z hz => by simp at hz)
  clear DC
  refine (clone_call w1.heap.size 1 _ _ [] _ rfl (by first | (simp; done) | (simp; omega)) (fun j z hz => by simp at hz)).mono ?_
  rintro e w5 ⟨⟨A, kc, rfl, ho⟩, hb⟩
  have Hrw5 : C4 w5 (w.heap.size) (.string ⟨#[]⟩) (.string ⟨#[]⟩) (.string ⟨#[]⟩) (.slice none 0 0) := C4.below ⟨by go_simp, by go_simp, by go_simp, by go_simp, by go_simp, by go_simp, by go_simp, by go_simp⟩ hb
  have Htw5 : C4 w5 (w2.heap.size) (.string x) (.string sc) (.string ⟨#[]⟩) (.slice none 0 0) := C4.below ⟨by go_simp, by go_simp, by go_simp, by go_simp, by go_simp, by go_simp, by go_simp, by go_simp⟩ hb
  have D5 : Below w2.heap.size w2 w5 := (by (repeat (first | with_reducible exact Below.refl _ _ | with_reducible refine bel_set ?_ ?_ | with_reducible refine bel_alloc ?_ ?_ | with_reducible refine Below.drew ?_ | with_reducible refine bel_drewN _ ?_ | with_reducible refine bel_call ?_ (by assumption) ?_)); all_goals (first | (simp; done) | omega | (simp; omega)))
  clear hb SC HCL ho r0_w4 r1_w4 r2_w4 r3_w4 r4_w4 r5_w4 r6_w4 r7_w4 qr_w4 t0_w4 t1_w4 t2_w4 t3_w4 t4_w4 t5_w4 t6_w4 t7_w4 qt_w4 D4 hq4
  obtain ⟨r0_w5, r1_w5, r2_w5, r3_w5, r4_w5, r5_w5, r6_w5, r7_w5⟩ := Hrw5
  have qr_w5 := lt_of_cell r0_w5
  obtain ⟨t0_w5, t1_w5, t2_w5, t3_w5, t4_w5, t5_w5, t6_w5, t7_w5⟩ := Htw5
  have qt_w5 := lt_of_cell t0_w5
  go_wp2_with fail
  obtain ⟨E, hE⟩ : ∃ E, E = tagErr x.data.toList sc.data.toList (⟨#[]⟩ : ByteArray).data.toList (listsOf []) := ⟨_, rfl⟩
  have KC := Lib.hid (fun W => tag_check x sc ⟨#[]⟩ none 0 [] W (by omega) (by omega) (by decide) (.inl rfl) (by simp) (by simp) (by simp))
  rw [← hE] at KC
  have HE := Lib.hid hE
  clear hE 
  by_cases h0 : E = 0
  · subst h0
    have E0 : errOf 0 = .nilIface := rfl
    rw [E0] at KC
    refine ((KC.out _)).mono ?_
    rintro e w6 ⟨rfl, hb⟩
    have Hrw6 : C4 w6 (w.heap.size) (.string ⟨#[]⟩) (.string ⟨#[]⟩) (.string ⟨#[]⟩) (.slice none 0 0) := C4.below ⟨by go_simp, by go_simp, by go_simp, by go_simp, by go_simp, by go_simp, by go_simp, by go_simp⟩ hb
    have Htw6 : C4 w6 (w2.heap.size) (.string x) (.string sc) (.string ⟨#[]⟩) (.slice none 0 0) := C4.below ⟨by go_simp, by go_simp, by go_simp, by go_simp, by go_simp, by go_simp, by go_simp, by go_simp⟩ hb
    have D6 : Below w2.heap.size w2 w6 := (by (repeat (first | with_reducible exact Below.refl _ _ | with_reducible refine bel_set ?_ ?_ | with_reducible refine bel_alloc ?_ ?_ | with_reducible refine Below.drew ?_ | with_reducible refine bel_drewN _ ?_ | with_reducible refine bel_call ?_ (by assumption) ?_)); all_goals (first | (simp; done) | omega | (simp; omega)))
    clear hb r0_w5 r1_w5 r2_w5 r3_w5 r4_w5 r5_w5 r6_w5 r7_w5 qr_w5 t0_w5 t1_w5 t2_w5 t3_w5 t4_w5 t5_w5 t6_w5 t7_w5 qt_w5 D5 E0
    obtain ⟨r0_w6, r1_w6, r2_w6, r3_w6, r4_w6, r5_w6, r6_w6, r7_w6⟩ := Hrw6
    have qr_w6 := lt_of_cell r0_w6
    obtain ⟨t0_w6, t1_w6, t2_w6, t3_w6, t4_w6, t5_w6, t6_w6, t7_w6⟩ := Htw6
    have qt_w6 := lt_of_cell t0_w6
    have he0 := HE.out.symm
    have hlt := text_len he0
    obtain ⟨t, ht⟩ : ∃ t : ByteArray, t = ⟨(tagText x.data.toList sc.data.toList (⟨#[]⟩ : ByteArray).data.toList (listsOf [])).toArray⟩ := ⟨_, rfl⟩
    have htz : t.size ≤ 100 := by rw [← tsize, ht]; exact hlt
    have KT := Lib.hid (tag_text x sc ⟨#[]⟩ none 0 [] w6 (.inl rfl) (fun _ => rfl) he0)
    rw [← ht] at KT
    obtain ⟨m, hm⟩ : ∃ m : ByteArray, lowerL t.data.toList = m.data.toList := ⟨⟨(lowerL t.data.toList).toArray⟩, rfl⟩
    have HMM := Lib.hid hm
    have HTT := Lib.hid ht
    clear hm ht hlt he0
    go_wp2_with fail
    refine (KT.out).mono ?_
    rintro e w7 ⟨rfl, hb⟩
    have Hrw7 : C4 w7 (w.heap.size) (.string ⟨#[]⟩) (.string ⟨#[]⟩) (.string ⟨#[]⟩) (.slice none 0 0) := C4.below ⟨by go_simp, by go_simp, by go_simp, by go_simp, by go_simp, by go_simp, by go_simp, by go_simp⟩ hb
    have Htw7 : C4 w7 (w2.heap.size) (.string x) (.string sc) (.string ⟨#[]⟩) (.slice none 0 0) := C4.below ⟨by go_simp, by go_simp, by go_simp, by go_simp, by go_simp, by go_simp, by go_simp, by go_simp⟩ hb
    have D7 : Below w2.heap.size w2 w7 := (by (repeat (first | with_reducible exact Below.refl _ _ | with_reducible refine bel_set ?_ ?_ | with_reducible refine bel_alloc ?_ ?_ | with_reducible refine Below.drew ?_ | with_reducible refine bel_drewN _ ?_ | with_reducible refine bel_call ?_ (by assumption) ?_)); all_goals (first | (simp; done) | omega | (simp; omega)))
    clear hb r0_w6 r1_w6 r2_w6 r3_w6 r4_w6 r5_w6 r6_w6 r7_w6 qr_w6 t0_w6 t1_w6 t2_w6 t3_w6 t4_w6 t5_w6 t6_w6 t7_w6 qt_w6 D6
    obtain ⟨r0_w7, r1_w7, r2_w7, r3_w7, r4_w7, r5_w7, r6_w7, r7_w7⟩ := Hrw7
    have qr_w7 := lt_of_cell r0_w7
    obtain ⟨t0_w7, t1_w7, t2_w7, t3_w7, t4_w7, t5_w7, t6_w7, t7_w7⟩ := Htw7
    have qt_w7 := lt_of_cell t0_w7
    go_wp2_with fail
    refine (low_call t m HMM.out (by omega) _).mono ?_
    rintro e w8 ⟨rfl, hb⟩
    have Hrw8 : C4 w8 (w.heap.size) (.string ⟨#[]⟩) (.string ⟨#[]⟩) (.string ⟨#[]⟩) (.slice none 0 0) := C4.below ⟨by go_simp, by go_simp, by go_simp, by go_simp, by go_simp, by go_simp, by go_simp, by go_simp⟩ hb
    have Htw8 : C4 w8 (w2.heap.size) (.string x) (.string sc) (.string ⟨#[]⟩) (.slice none 0 0) := C4.below ⟨by go_simp, by go_simp, by go_simp, by go_simp, by go_simp, by go_simp, by go_simp, by go_simp⟩ hb
    have D8 : Below w2.heap.size w2 w8 := (by (repeat (first | with_reducible exact Below.refl _ _ | with_reducible refine bel_set ?_ ?_ | with_reducible refine bel_alloc ?_ ?_ | with_reducible refine Below.drew ?_ | with_reducible refine bel_drewN _ ?_ | with_reducible refine bel_call ?_ (by assumption) ?_)); all_goals (first | (simp; done) | omega | (simp; omega)))
    clear hb r0_w7 r1_w7 r2_w7 r3_w7 r4_w7 r5_w7 r6_w7 r7_w7 qr_w7 t0_w7 t1_w7 t2_w7 t3_w7 t4_w7 t5_w7 t6_w7 t7_w7 qt_w7 D7
    obtain ⟨r0_w8, r1_w8, r2_w8, r3_w8, r4_w8, r5_w8, r6_w8, r7_w8⟩ := Hrw8
    have qr_w8 := lt_of_cell r0_w8
    obtain ⟨t0_w8, t1_w8, t2_w8, t3_w8, t4_w8, t5_w8, t6_w8, t7_w8⟩ := Htw8
    have qt_w8 := lt_of_cell t0_w8
    go_wp2_with fail
    refine (low_call s L HL.out (by omega) _).mono ?_
    rintro e w9 ⟨rfl, hb⟩
    have Hrw9 : C4 w9 (w.heap.size) (.string ⟨#[]⟩) (.string ⟨#[]⟩) (.string ⟨#[]⟩) (.slice none 0 0) := C4.below ⟨by go_simp, by go_simp, by go_simp, by go_simp, by go_simp, by go_simp, by go_simp, by go_simp⟩ hb
    have Htw9 : C4 w9 (w2.heap.size) (.string x) (.string sc) (.string ⟨#[]⟩) (.slice none 0 0) := C4.below ⟨by go_simp, by go_simp, by go_simp, by go_simp, by go_simp, by go_simp, by go_simp, by go_simp⟩ hb
    have D9 : Below w2.heap.size w2 w9 := (by (repeat (first | with_reducible exact Below.refl _ _ | with_reducible refine bel_set ?_ ?_ | with_reducible refine bel_alloc ?_ ?_ | with_reducible refine Below.drew ?_ | with_reducible refine bel_drewN _ ?_ | with_reducible refine bel_call ?_ (by assumption) ?_)); all_goals (first | (simp; done) | omega | (simp; omega)))
    clear hb r0_w8 r1_w8 r2_w8 r3_w8 r4_w8 r5_w8 r6_w8 r7_w8 qr_w8 t0_w8 t1_w8 t2_w8 t3_w8 t4_w8 t5_w8 t6_w8 t7_w8 qt_w8 D8
    obtain ⟨r0_w9, r1_w9, r2_w9, r3_w9, r4_w9, r5_w9, r6_w9, r7_w9⟩ := Hrw9
    have qr_w9 := lt_of_cell r0_w9
    obtain ⟨t0_w9, t1_w9, t2_w9, t3_w9, t4_w9, t5_w9, t6_w9, t7_w9⟩ := Htw9
    have qt_w9 := lt_of_cell t0_w9
    have hb1 := Bw1.out
    have hb2 := Bw2.out
    have b1 := hb1.size
    have b2 := hb2.size
    have hbD := hb2.trans (D9.mono hb2.size)
    cases hq : (m.toList == L.toList)
    · have hne : lowerL (tagText x.data.toList sc.data.toList (⟨#[]⟩ : ByteArray).data.toList (listsOf [])) ≠ lowerL s.data.toList := fun h => by
        have h2 := HMM.out
        rw [HTT.out] at h2
        rw [h2, HL.out] at h
        rw [Lib.toList_data, Lib.toList_data, h] at hq
        simp at hq
      have HNE := Lib.hid hne
      clear hne
      have hq2 : (m.toList != L.toList) = true := by rw [bne, hq]; rfl
      go_wp2_with fail
      exact bodyPost_ret (v := .tuple #[tagV ⟨#[]⟩ ⟨#[]⟩ ⟨#[]⟩ none 0 0, errT 3]) (by simp [results, Tryz.results55, go_sem, r0_w9, r1_w9, r2_w9, r3_w9, World.cell?_setCell_same, World.cell?_setCell_other]) rfl ⟨.inr ⟨isTag_no2 HT.out HNE.out, rfl⟩, (by (repeat (first | with_reducible exact Below.refl _ _ | with_reducible refine bel_set ?_ ?_ | with_reducible refine bel_alloc ?_ ?_ | with_reducible refine Below.drew ?_ | with_reducible refine bel_drewN _ ?_ | with_reducible refine bel_call ?_ (by assumption) ?_)); all_goals (first | (simp; done) | omega | (simp; omega)))⟩
    · have hyes : isTag s.data.toList = true := isTag_yes HT.out HE.out.symm (by
        have h2 := HMM.out
        rw [HTT.out] at h2
        have h3 := eq_of_beq hq
        rw [Lib.toList_data, Lib.toList_data] at h3
        rw [HL.out, ← h3]
        exact h2)
      have HYES := Lib.hid hyes
      clear hyes
      have hq2 : m.toList = L.toList := by simpa using hq
      go_wp2_with fail
      refine bodyPost_ret (v := .tuple #[tagV x sc ⟨#[]⟩ none 0 0, .nilIface]) (by simp [results, Tryz.results55, go_sem, r0_w9, r1_w9, r2_w9, r3_w9, World.cell?_setCell_same, World.cell?_setCell_other]) rfl ⟨.inl ⟨HYES.out, x, sc, ⟨#[]⟩, none, 0, [], rfl, HT.out, ?_, ?_, ?_⟩, (by (repeat (first | with_reducible exact Below.refl _ _ | with_reducible refine bel_set ?_ ?_ | with_reducible refine bel_alloc ?_ ?_ | with_reducible refine Below.drew ?_ | with_reducible refine bel_drewN _ ?_ | with_reducible refine bel_call ?_ (by assumption) ?_)); all_goals (first | (simp; done) | omega | (simp; omega)))⟩
      · exact .inl rfl
      · exact Nat.le_refl _
      · exact fun _ => rfl
  · have E0 : errOf E = errT E := if_neg h0
    rw [E0] at KC
    have HNE : Hid (tagErr x.data.toList sc.data.toList (⟨#[]⟩ : ByteArray).data.toList (listsOf []) ≠ 0) := Lib.hid (fun h => h0 (HE.out.trans h))
    clear h0 E0 HE
    refine ((KC.out _)).mono ?_
    rintro e w6 ⟨rfl, hb⟩
    have Hrw6 : C4 w6 (w.heap.size) (.string ⟨#[]⟩) (.string ⟨#[]⟩) (.string ⟨#[]⟩) (.slice none 0 0) := C4.below ⟨by go_simp, by go_simp, by go_simp, by go_simp, by go_simp, by go_simp, by go_simp, by go_simp⟩ hb
    have Htw6 : C4 w6 (w2.heap.size) (.string x) (.string sc) (.string ⟨#[]⟩) (.slice none 0 0) := C4.below ⟨by go_simp, by go_simp, by go_simp, by go_simp, by go_simp, by go_simp, by go_simp, by go_simp⟩ hb
    have D6 : Below w2.heap.size w2 w6 := (by (repeat (first | with_reducible exact Below.refl _ _ | with_reducible refine bel_set ?_ ?_ | with_reducible refine bel_alloc ?_ ?_ | with_reducible refine Below.drew ?_ | with_reducible refine bel_drewN _ ?_ | with_reducible refine bel_call ?_ (by assumption) ?_)); all_goals (first | (simp; done) | omega | (simp; omega)))
    clear hb r0_w5 r1_w5 r2_w5 r3_w5 r4_w5 r5_w5 r6_w5 r7_w5 qr_w5 t0_w5 t1_w5 t2_w5 t3_w5 t4_w5 t5_w5 t6_w5 t7_w5 qt_w5 D5
    obtain ⟨r0_w6, r1_w6, r2_w6, r3_w6, r4_w6, r5_w6, r6_w6, r7_w6⟩ := Hrw6
    have qr_w6 := lt_of_cell r0_w6
    obtain ⟨t0_w6, t1_w6, t2_w6, t3_w6, t4_w6, t5_w6, t6_w6, t7_w6⟩ := Htw6
    have qt_w6 := lt_of_cell t0_w6
    have hb1 := Bw1.out
    have hb2 := Bw2.out
    have b1 := hb1.size
    have b2 := hb2.size
    have hbD := hb2.trans (D6.mono hb2.size)
    go_wp2_with fail
    exact bodyPost_ret (v := .tuple #[tagV ⟨#[]⟩ ⟨#[]⟩ ⟨#[]⟩ none 0 0, errT 3]) (by simp [results, Tryz.results55, go_sem, r0_w6, r1_w6, r2_w6, r3_w6, World.cell?_setCell_same, World.cell?_setCell_other]) rfl ⟨.inr ⟨isTag_no1 HT.out HNE.out, rfl⟩, (by (repeat (first | with_reducible exact Below.refl _ _ | with_reducible refine bel_set ?_ ?_ | with_reducible refine bel_alloc ?_ ?_ | with_reducible refine Below.drew ?_ | with_reducible refine bel_drewN _ ?_ | with_reducible refine bel_call ?_ (by assumption) ?_)); all_goals (first | (simp; done) | omega | (simp; omega)))⟩
end Go.Proofs.YtnhlnhmjnnopaaaGreatDoor

/- tag.Parse: way 2. -/
namespace Go.Proofs.YtnhlnhmjnnopaaaGreatDoor
open Go.RowKit

set_option maxHeartbeats 4000000 in
set_option maxRecDepth 100000 in
theorem parse_way2 (s L x p q : ByteArray) (w : World) (hM : MaxL w) (hs : s.size ≤ 1000000000) (hL : lowerL s.data.toList = L.data.toList) (hps : Lib.splitB ⟨#[45]⟩ 0 (Lib.countB L ⟨#[45]⟩) L = x :: p :: q :: []) (hp : madeB lowB p.data.toList 4 4 = true) (hq : regionB (upperL q.data.toList) = true) :
    Calls Tryz.prog 55 #[.string s] w fun e w' => ParseOut s e w' ∧ Below w.heap.size w w' := by
  obtain ⟨hmade, hsz, hcnt⟩ := made_is hL hps
  have hLs : L.size = s.size := by rw [← tsize, ← tsize, ← hL]; unfold lowerL; simp
  have hp4 : p.size = 4 := by have := madeB_len hp; rw [tsize] at this; omega
  obtain ⟨u, hu⟩ : ∃ u : ByteArray, upperL (p.extract 0 1).data.toList = u.data.toList := ⟨⟨(upperL (p.extract 0 1).data.toList).toArray⟩, rfl⟩
  have huz : u.size = 1 := by rw [← tsize, ← hu, upper_len, Lib.extract_from_zero, List.length_take, tsize]; omega
  have hez : (p.extract 1 p.size).size ≤ 4 := by rw [ByteArray.size_extract]; omega
  have hez0 : (p.extract 0 1).size ≤ 9223372036854775807 := by rw [ByteArray.size_extract]; omega
  obtain ⟨sc, hsc, hcat⟩ := add_let u (p.extract 1 p.size) (by omega)
  have hsc2 : sc.data.toList = upperL (p.data.toList.take 1) ++ p.data.toList.drop 1 := by rw [hsc, ByteArray.data_append, Array.toList_append, ← hu, Lib.extract_from_zero, Lib.extract_to_end]
  have hscz : sc.size ≤ 1000000000 := by rw [← tsize, hsc2, List.length_append, upper_len, ← List.length_append, List.take_append_drop, tsize]; omega
  obtain ⟨g, hg⟩ : ∃ g : ByteArray, upperL q.data.toList = g.data.toList := ⟨⟨(upperL q.data.toList).toArray⟩, rfl⟩
  have hgz : g.size ≤ 1000000000 := by have h := hsz q (by simp); rw [← tsize, ← hg, upper_len, tsize]; omega
  rw [hg] at hq
  have hT : madeT s.data.toList = ⟨x.data.toList, sc.data.toList, g.data.toList, listsOf []⟩ := by
    rw [hmade]
    simp [listsOf, List.map_cons, List.map_nil, scrP, regP, if_pos hp, hsc2, hg, if_pos hq]
  have HT := Lib.hid hT
  have zx : x.size ≤ 1000000000 := by have := hsz x (by simp); omega
  have zp : p.size ≤ 1000000000 := by have := hsz p (by simp); omega
  have zq : q.size ≤ 1000000000 := by have := hsz q (by simp); omega
  have HPS := Lib.hid hps
  have HL := Lib.hid hL
  have HM := Lib.hid hM
  have HU := Lib.hid hu
  have HP := Lib.hid hp
  have HG := Lib.hid hg
  have HQ := Lib.hid hq
  clear hmade hsz hcnt hT hps hL hM hu hp hsc2 hg hq
  go_enter Tryz.func55, Tryz.ntmps55
  go_wp2_with fail
  refine (low_call s L HL.out (by omega) _).mono ?_
  rintro e w1 ⟨rfl, hb1⟩
  have Hrw1 : C4 w1 (w.heap.size) (.string ⟨#[]⟩) (.string ⟨#[]⟩) (.string ⟨#[]⟩) (.slice none 0 0) := C4.below ⟨by go_simp, by go_simp, by go_simp, by go_simp, by go_simp, by go_simp, by go_simp, by go_simp⟩ hb1
  have Bw1 := Lib.hid hb1
  obtain ⟨r0_w1, r1_w1, r2_w1, r3_w1, r4_w1, r5_w1, r6_w1, r7_w1⟩ := Hrw1
  have qr_w1 := lt_of_cell r0_w1
  have s1 : w.heap.size < w1.heap.size := qr_w1
  go_wp2_with fail
  refine (split_call L _ HPS.out _ (HM.out.below (((Below.refl _ _).alloc (Nat.le_refl _) _).trans (Bw1.out.mono (by simp)))) (by omega)).mono ?_
  rintro e w2 ⟨rfl, hcp, hb2⟩
  have HCP := Lib.hid hcp
  have c0_w2 : w2.cell? ⟨w1.heap.size, 0, none⟩ = some (.string x) := hcp 0 x rfl
  have c1_w2 : w2.cell? ⟨w1.heap.size, 1, none⟩ = some (.string p) := hcp 1 p rfl
  have c2_w2 : w2.cell? ⟨w1.heap.size, 2, none⟩ = some (.string q) := hcp 2 q rfl
  have Hrw2 : C4 w2 (w.heap.size) (.string ⟨#[]⟩) (.string ⟨#[]⟩) (.string ⟨#[]⟩) (.slice none 0 0) := C4.below ⟨by go_simp, by go_simp, by go_simp, by go_simp, by go_simp, by go_simp, by go_simp, by go_simp⟩ hb2
  have Bw2 := Lib.hid hb2
  clear hcp hb2 r0_w1 r1_w1 r2_w1 r3_w1 r4_w1 r5_w1 r6_w1 r7_w1 qr_w1
  obtain ⟨r0_w2, r1_w2, r2_w2, r3_w2, r4_w2, r5_w2, r6_w2, r7_w2⟩ := Hrw2
  have qr_w2 := lt_of_cell r0_w2
  have qc_w2 := lt_of_cell c0_w2
  simp only [List.length_cons, List.length_nil, Nat.zero_add]
  go_wp2_with fail
  refine (made_call p true HP.out (by omega) _).mono ?_
  rintro e w2x ⟨rfl, rfl⟩
  go_wp2_with fail
  have z1 : (1 : Int) ≤ (p.size : Int) := by omega
  refine wp_region_held_drew (S := fun w' => w'.cell? ⟨w1.heap.size, 1, none⟩ = some (.string p)) (by kernel_rfl) ?_ (fun hHeld => ?_)
  · (try dsimp only); go_simp
  refine wpAnyH_take (i := 0) (v := ?v1) rfl (by kernel_rfl) (by kernel_rfl) (by kernel_rfl) (fun _ _ _ h => h) (Or.inl ⟨rfl, ?hy1⟩) hHeld ?rest1
  case hy1 => (intro w hSw; (try dsimp only at hSw); go_simp; try with_reducible rfl)
  try simp only [Act.put, List.setIfInBounds_toArray, List.set_cons_zero, List.set_cons_succ, List.getElem_toArray, List.getElem_cons_zero, List.getElem_cons_succ]
  refine wpAnyH_take (i := 1) (v := ?v2) rfl (by kernel_rfl) (by kernel_rfl) (by kernel_rfl) (fun _ _ _ h => h) (Or.inl ⟨rfl, ?hy2⟩) hHeld ?rest2
  case hy2 => (intro w hSw; (try dsimp only at hSw); go_simp; try with_reducible rfl)
  try simp only [Act.put, List.setIfInBounds_toArray, List.set_cons_zero, List.set_cons_succ, List.getElem_toArray, List.getElem_cons_zero, List.getElem_cons_succ]
  refine wpAnyH_take (i := 2) (v := ?v3) rfl (by kernel_rfl) (by kernel_rfl) (by kernel_rfl) (fun _ _ _ h => h) (Or.inl ⟨rfl, ?hy3⟩) hHeld ?rest3
  case hy3 => (intro w hSw; (try dsimp only at hSw); go_simp; try with_reducible rfl)
  try simp only [Act.put, List.setIfInBounds_toArray, List.set_cons_zero, List.set_cons_succ, List.getElem_toArray, List.getElem_cons_zero, List.getElem_cons_succ]
  refine wpAnyH_take (i := 3) (v := ?v4) rfl (by kernel_rfl) (by kernel_rfl) (by kernel_rfl) (fun _ _ _ h => h) (Or.inl ⟨rfl, ?hy4⟩) hHeld ?rest4
  case hy4 => (intro w hSw; (try dsimp only at hSw); go_simp; try with_reducible rfl)
  try simp only [Act.put, List.setIfInBounds_toArray, List.set_cons_zero, List.set_cons_succ, List.getElem_toArray, List.getElem_cons_zero, List.getElem_cons_succ]
  refine wpAnyH_take (i := 5) (v := ?v5) rfl (by kernel_rfl) (by kernel_rfl) (by kernel_rfl) (fun _ _ _ h => h) (Or.inl ⟨rfl, ?hy5⟩) hHeld ?rest5
  case hy5 => (intro w hSw; (try dsimp only at hSw); go_simp; try with_reducible rfl)
  try simp only [Act.put, List.setIfInBounds_toArray, List.set_cons_zero, List.set_cons_succ, List.getElem_toArray, List.getElem_cons_zero, List.getElem_cons_succ]
  refine wpAnyH_take (i := 6) (v := ?v6) rfl (by kernel_rfl) (by kernel_rfl) (by kernel_rfl) (fun _ _ _ h => h) (Or.inl ⟨rfl, ?hy6⟩) hHeld ?rest6
  case hy6 => (intro w hSw; (try dsimp only at hSw); go_simp; try with_reducible rfl)
  try simp only [Act.put, List.setIfInBounds_toArray, List.set_cons_zero, List.set_cons_succ, List.getElem_toArray, List.getElem_cons_zero, List.getElem_cons_succ]
  refine wpAnyH_take (i := 7) (v := ?v7) rfl (by kernel_rfl) (by kernel_rfl) (by kernel_rfl) (fun _ _ _ h => h) (Or.inl ⟨rfl, ?hy7⟩) hHeld ?rest7
  case hy7 => (intro w hSw; (try dsimp only at hSw); go_simp; try with_reducible rfl)
  try simp only [Act.put, List.setIfInBounds_toArray, List.set_cons_zero, List.set_cons_succ, List.getElem_toArray, List.getElem_cons_zero, List.getElem_cons_succ]
  refine wpAnyH_take (i := 8) (v := ?v8) rfl (by kernel_rfl) (by kernel_rfl) (by kernel_rfl) (fun _ _ _ h => h) (Or.inl ⟨rfl, ?hy8⟩) hHeld ?rest8
  case hy8 => (intro w hSw; (try dsimp only at hSw); go_simp; try with_reducible rfl)
  try simp only [Act.put, List.setIfInBounds_toArray, List.set_cons_zero, List.set_cons_succ, List.getElem_toArray, List.getElem_cons_zero, List.getElem_cons_succ]
  refine wpAnyH_ready (rs := [4]) (by kernel_rfl) (by simp) (AllReadyH.cons rfl (fun K hK => ?_) AllReadyH.nil)
  go_simp
  go_at_call 83; refine (up_call (p.extract 0 1) u HU.out hez0 _).mono ?_; rintro e w3 ⟨rfl, hb3⟩
  try dsimp only
  refine hK.out _ _ (carry hb3 (by go_simp)) (fun hNew => ?_)
  have B3 : Below w2.heap.size w2 w3 := Below.trans ((Below.refl w2.heap.size w2).alloc (Nat.le_refl _) (.cells #[.string x, .string ⟨#[]⟩, .string ⟨#[]⟩, .slice none 0 0] 105)).drew (hb3.mono (show w2.heap.size ≤ _ by simp))
  have Bw3 := Lib.hid B3
  have Hrw3 : C4 w3 (w.heap.size) (.string ⟨#[]⟩) (.string ⟨#[]⟩) (.string ⟨#[]⟩) (.slice none 0 0) := C4.below ⟨by go_simp, by go_simp, by go_simp, by go_simp, by go_simp, by go_simp, by go_simp, by go_simp⟩ hb3
  have Htw3 : C4 w3 (w2.heap.size) (.string x) (.string ⟨#[]⟩) (.string ⟨#[]⟩) (.slice none 0 0) := C4.below ⟨by go_simp, by go_simp, by go_simp, by go_simp, by go_simp, by go_simp, by go_simp, by go_simp⟩ hb3
  clear hK K hHeld hb3 B3
  have hHeld := hNew
  clear hNew r0_w2 r1_w2 r2_w2 r3_w2 r4_w2 r5_w2 r6_w2 r7_w2
  obtain ⟨r0_w3, r1_w3, r2_w3, r3_w3, r4_w3, r5_w3, r6_w3, r7_w3⟩ := Hrw3
  obtain ⟨t0_w3, t1_w3, t2_w3, t3_w3, t4_w3, t5_w3, t6_w3, t7_w3⟩ := Htw3
  have qr_w3 := lt_of_cell r0_w3
  have qt_w3 := lt_of_cell t0_w3
  try simp only [Act.put, List.setIfInBounds_toArray, List.set_cons_zero, List.set_cons_succ, List.getElem_toArray, List.getElem_cons_zero, List.getElem_cons_succ]
  refine wpAnyH_take (i := 9) (v := ?v9) rfl (by kernel_rfl) (by kernel_rfl) (by kernel_rfl) (fun _ _ _ h => h) (Or.inl ⟨rfl, ?hy9⟩) hHeld ?rest9
  case hy9 => (intro w hSw; (try dsimp only at hSw); go_simp; try with_reducible rfl)
  try simp only [Act.put, List.setIfInBounds_toArray, List.set_cons_zero, List.set_cons_succ, List.getElem_toArray, List.getElem_cons_zero, List.getElem_cons_succ]
  refine wpAnyH_take (i := 10) (v := ?v10) rfl (by kernel_rfl) (by kernel_rfl) (by kernel_rfl) (fun _ _ _ h => h) (Or.inl ⟨rfl, ?hy10⟩) hHeld ?rest10
  case hy10 => (intro w hSw; (try dsimp only at hSw); go_simp; try with_reducible rfl)
  try simp only [Act.put, List.setIfInBounds_toArray, List.set_cons_zero, List.set_cons_succ, List.getElem_toArray, List.getElem_cons_zero, List.getElem_cons_succ]
  refine wpAnyH_ready (rs := [11]) (by kernel_rfl) (by simp) (AllReadyH.cons rfl (fun K hK => ?_) AllReadyH.nil)
  go_simp
  have hsc4 : u ++ p.extract 1 4 = sc := by rw [hsc, hp4]
  rw [hsc4]
  refine hK.out _ _ (cell_other hHeld (by intro e; injection e with e1; omega)) (fun hNew => ?_)
  clear hK K hHeld hNew hsc4
  refine wpAnyH_done (by kernel_rfl) ?_ _
  have Hrw4 : C4 (w3.setCell ⟨w2.heap.size, 1, none⟩ (.string sc)) (w.heap.size) (.string ⟨#[]⟩) (.string ⟨#[]⟩) (.string ⟨#[]⟩) (.slice none 0 0) := ⟨by go_simp, by go_simp, by go_simp, by go_simp, by go_simp, by go_simp, by go_simp, by go_simp⟩
  have Htw4 : C4 (w3.setCell ⟨w2.heap.size, 1, none⟩ (.string sc)) (w2.heap.size) (.string x) (.string sc) (.string ⟨#[]⟩) (.slice none 0 0) := ⟨by go_simp, by go_simp, by go_simp, by go_simp, by go_simp, by go_simp, by go_simp, by go_simp⟩
  have D4 : Below w2.heap.size w2 (w3.setCell ⟨w2.heap.size, 1, none⟩ (.string sc)) := bel_set Bw3.out (Nat.le_refl _)
  have hq4 : w2.heap.size < (w3.setCell ⟨w2.heap.size, 1, none⟩ (.string sc)).heap.size := lt_of_cell Htw4.c0
  clear r0_w3 r1_w3 r2_w3 r3_w3 r4_w3 r5_w3 r6_w3 r7_w3 t0_w3 t1_w3 t2_w3 t3_w3 t4_w3 t5_w3 t6_w3 t7_w3 qr_w3 qt_w3 Bw3 hcat huz hez hez0 hsc hp4 z1
  generalize (w3.setCell ⟨w2.heap.size, 1, none⟩ (.string sc)) = w4 at *
  have c2_w4 : w4.cell? ⟨w1.heap.size, 2, none⟩ = some (.string q) := carry D4 c2_w2
  clear c0_w2 c1_w2 c2_w2 qr_w2
  obtain ⟨r0_w4, r1_w4, r2_w4, r3_w4, r4_w4, r5_w4, r6_w4, r7_w4⟩ := Hrw4
  have qr_w4 := lt_of_cell r0_w4
  obtain ⟨t0_w4, t1_w4, t2_w4, t3_w4, t4_w4, t5_w4, t6_w4, t7_w4⟩ := Htw4
  have qt_w4 := lt_of_cell t0_w4
  go_wp2_with fail
  refine (up_call q g HG.out (by omega) _).mono ?_
  rintro e w5 ⟨rfl, hb⟩
  have Hrw5 : C4 w5 (w.heap.size) (.string ⟨#[]⟩) (.string ⟨#[]⟩) (.string ⟨#[]⟩) (.slice none 0 0) := C4.below ⟨by go_simp, by go_simp, by go_simp, by go_simp, by go_simp, by go_simp, by go_simp, by go_simp⟩ hb
  have Htw5 : C4 w5 (w2.heap.size) (.string x) (.string sc) (.string ⟨#[]⟩) (.slice none 0 0) := C4.below ⟨by go_simp, by go_simp, by go_simp, by go_simp, by go_simp, by go_simp, by go_simp, by go_simp⟩ hb
  have c2_w5 : w5.cell? ⟨w1.heap.size, 2, none⟩ = some (.string q) := carry hb (by go_simp)
  have D5 : Below w2.heap.size w2 w5 := (by (repeat (first | with_reducible exact Below.refl _ _ | with_reducible refine bel_set ?_ ?_ | with_reducible refine bel_alloc ?_ ?_ | with_reducible refine Below.drew ?_ | with_reducible refine bel_drewN _ ?_ | with_reducible refine bel_call ?_ (by assumption) ?_)); all_goals (first | (simp; done) | omega | (simp; omega)))
  clear hb c2_w4 r0_w4 r1_w4 r2_w4 r3_w4 r4_w4 r5_w4 r6_w4 r7_w4 qr_w4 t0_w4 t1_w4 t2_w4 t3_w4 t4_w4 t5_w4 t6_w4 t7_w4 qt_w4 D4 hq4
  obtain ⟨r0_w5, r1_w5, r2_w5, r3_w5, r4_w5, r5_w5, r6_w5, r7_w5⟩ := Hrw5
  have qr_w5 := lt_of_cell r0_w5
  obtain ⟨t0_w5, t1_w5, t2_w5, t3_w5, t4_w5, t5_w5, t6_w5, t7_w5⟩ := Htw5
  have qt_w5 := lt_of_cell t0_w5
  go_wp2_with fail
  refine (reg_call g true HQ.out (by omega) _).mono ?_
  rintro e wx ⟨rfl, rfl⟩
  go_wp2_with fail
  refine (up_call q g HG.out (by omega) _).mono ?_
  rintro e w6 ⟨rfl, hb⟩
  have Hrw6 : C4 w6 (w.heap.size) (.string ⟨#[]⟩) (.string ⟨#[]⟩) (.string ⟨#[]⟩) (.slice none 0 0) := C4.below ⟨by go_simp, by go_simp, by go_simp, by go_simp, by go_simp, by go_simp, by go_simp, by go_simp⟩ hb
  have Htw6 : C4 w6 (w2.heap.size) (.string x) (.string sc) (.string ⟨#[]⟩) (.slice none 0 0) := C4.below ⟨by go_simp, by go_simp, by go_simp, by go_simp, by go_simp, by go_simp, by go_simp, by go_simp⟩ hb
  have c2_w6 : w6.cell? ⟨w1.heap.size, 2, none⟩ = some (.string q) := carry hb (by go_simp)
  have D6 : Below w2.heap.size w2 w6 := (by (repeat (first | with_reducible exact Below.refl _ _ | with_reducible refine bel_set ?_ ?_ | with_reducible refine bel_alloc ?_ ?_ | with_reducible refine Below.drew ?_ | with_reducible refine bel_drewN _ ?_ | with_reducible refine bel_call ?_ (by assumption) ?_)); all_goals (first | (simp; done) | omega | (simp; omega)))
  clear hb c2_w5 r0_w5 r1_w5 r2_w5 r3_w5 r4_w5 r5_w5 r6_w5 r7_w5 qr_w5 t0_w5 t1_w5 t2_w5 t3_w5 t4_w5 t5_w5 t6_w5 t7_w5 qt_w5 D5
  obtain ⟨r0_w6, r1_w6, r2_w6, r3_w6, r4_w6, r5_w6, r6_w6, r7_w6⟩ := Hrw6
  have qr_w6 := lt_of_cell r0_w6
  obtain ⟨t0_w6, t1_w6, t2_w6, t3_w6, t4_w6, t5_w6, t6_w6, t7_w6⟩ := Htw6
  have qt_w6 := lt_of_cell t0_w6
  go_wp2_with fail
  have DC : Below w2.heap.size w2 (w6.setCell ⟨w2.heap.size, 2, none⟩ (.string g)) := (by (repeat (first | with_reducible exact Below.refl _ _ | with_reducible refine bel_set ?_ ?_ | with_reducible refine bel_alloc ?_ ?_ | with_reducible refine Below.drew ?_ | with_reducible refine bel_drewN _ ?_ | with_reducible refine bel_call ?_ (by assumption) ?_)); all_goals (first | (simp; done) | omega | (simp; omega)))
  have SC : w2.heap.size < (w6.setCell ⟨w2.heap.size, 2, none⟩ (.string g)).heap.size := by simpa using qt_w6
  have HCL : Hid (∀ (j : Nat) z, ([] : List ByteArray)[j]? = some z → (w6.setCell ⟨w2.heap.size, 2, none⟩ (.string g)).cell? ⟨w1.heap.size, 3 + j, none⟩ = some (.string z)) := Lib.hid (fun j z hz => by simp at hz)
  clear DC
  refine (clone_call w1.heap.size 2 _ _ [] _ rfl (by first | (simp; done) | (simp; omega)) (fun j z hz => by simp at hz)).mono ?_
  rintro e w7 ⟨⟨A, kc, rfl, ho⟩, hb⟩
  have Hrw7 : C4 w7 (w.heap.size) (.string ⟨#[]⟩) (.string ⟨#[]⟩) (.string ⟨#[]⟩) (.slice none 0 0) := C4.below ⟨by go_simp, by go_simp, by go_simp, by go_simp, by go_simp, by go_simp, by go_simp, by go_simp⟩ hb
  have Htw7 : C4 w7 (w2.heap.size) (.string x) (.string sc) (.string g) (.slice none 0 0) := C4.below ⟨by go_simp, by go_simp, by go_simp, by go_simp, by go_simp, by go_simp, by go_simp, by go_simp⟩ hb
  have D7 : Below w2.heap.size w2 w7 := (by (repeat (first | with_reducible exact Below.refl _ _ | with_reducible refine bel_set ?_ ?_ | with_reducible refine bel_alloc ?_ ?_ | with_reducible refine Below.drew ?_ | with_reducible refine bel_drewN _ ?_ | with_reducible refine bel_call ?_ (by assumption) ?_)); all_goals (first | (simp; done) | omega | (simp; omega)))
  clear hb SC HCL ho c2_w6 r0_w6 r1_w6 r2_w6 r3_w6 r4_w6 r5_w6 r6_w6 r7_w6 qr_w6 t0_w6 t1_w6 t2_w6 t3_w6 t4_w6 t5_w6 t6_w6 t7_w6 qt_w6 D6
  obtain ⟨r0_w7, r1_w7, r2_w7, r3_w7, r4_w7, r5_w7, r6_w7, r7_w7⟩ := Hrw7
  have qr_w7 := lt_of_cell r0_w7
  obtain ⟨t0_w7, t1_w7, t2_w7, t3_w7, t4_w7, t5_w7, t6_w7, t7_w7⟩ := Htw7
  have qt_w7 := lt_of_cell t0_w7
  go_wp2_with fail
  obtain ⟨E, hE⟩ : ∃ E, E = tagErr x.data.toList sc.data.toList g.data.toList (listsOf []) := ⟨_, rfl⟩
  have KC := Lib.hid (fun W => tag_check x sc g none 0 [] W (by omega) (by omega) (by omega) (.inl rfl) (by simp) (by simp) (by simp))
  rw [← hE] at KC
  have HE := Lib.hid hE
  clear hE 
  by_cases h0 : E = 0
  · subst h0
    have E0 : errOf 0 = .nilIface := rfl
    rw [E0] at KC
    refine ((KC.out _)).mono ?_
    rintro e w8 ⟨rfl, hb⟩
    have Hrw8 : C4 w8 (w.heap.size) (.string ⟨#[]⟩) (.string ⟨#[]⟩) (.string ⟨#[]⟩) (.slice none 0 0) := C4.below ⟨by go_simp, by go_simp, by go_simp, by go_simp, by go_simp, by go_simp, by go_simp, by go_simp⟩ hb
    have Htw8 : C4 w8 (w2.heap.size) (.string x) (.string sc) (.string g) (.slice none 0 0) := C4.below ⟨by go_simp, by go_simp, by go_simp, by go_simp, by go_simp, by go_simp, by go_simp, by go_simp⟩ hb
    have D8 : Below w2.heap.size w2 w8 := (by (repeat (first | with_reducible exact Below.refl _ _ | with_reducible refine bel_set ?_ ?_ | with_reducible refine bel_alloc ?_ ?_ | with_reducible refine Below.drew ?_ | with_reducible refine bel_drewN _ ?_ | with_reducible refine bel_call ?_ (by assumption) ?_)); all_goals (first | (simp; done) | omega | (simp; omega)))
    clear hb r0_w7 r1_w7 r2_w7 r3_w7 r4_w7 r5_w7 r6_w7 r7_w7 qr_w7 t0_w7 t1_w7 t2_w7 t3_w7 t4_w7 t5_w7 t6_w7 t7_w7 qt_w7 D7 E0
    obtain ⟨r0_w8, r1_w8, r2_w8, r3_w8, r4_w8, r5_w8, r6_w8, r7_w8⟩ := Hrw8
    have qr_w8 := lt_of_cell r0_w8
    obtain ⟨t0_w8, t1_w8, t2_w8, t3_w8, t4_w8, t5_w8, t6_w8, t7_w8⟩ := Htw8
    have qt_w8 := lt_of_cell t0_w8
    have he0 := HE.out.symm
    have hlt := text_len he0
    obtain ⟨t, ht⟩ : ∃ t : ByteArray, t = ⟨(tagText x.data.toList sc.data.toList g.data.toList (listsOf [])).toArray⟩ := ⟨_, rfl⟩
    have htz : t.size ≤ 100 := by rw [← tsize, ht]; exact hlt
    have KT := Lib.hid (tag_text x sc g none 0 [] w8 (.inl rfl) (fun _ => rfl) he0)
    rw [← ht] at KT
    obtain ⟨m, hm⟩ : ∃ m : ByteArray, lowerL t.data.toList = m.data.toList := ⟨⟨(lowerL t.data.toList).toArray⟩, rfl⟩
    have HMM := Lib.hid hm
    have HTT := Lib.hid ht
    clear hm ht hlt he0
    go_wp2_with fail
    refine (KT.out).mono ?_
    rintro e w9 ⟨rfl, hb⟩
    have Hrw9 : C4 w9 (w.heap.size) (.string ⟨#[]⟩) (.string ⟨#[]⟩) (.string ⟨#[]⟩) (.slice none 0 0) := C4.below ⟨by go_simp, by go_simp, by go_simp, by go_simp, by go_simp, by go_simp, by go_simp, by go_simp⟩ hb
    have Htw9 : C4 w9 (w2.heap.size) (.string x) (.string sc) (.string g) (.slice none 0 0) := C4.below ⟨by go_simp, by go_simp, by go_simp, by go_simp, by go_simp, by go_simp, by go_simp, by go_simp⟩ hb
    have D9 : Below w2.heap.size w2 w9 := (by (repeat (first | with_reducible exact Below.refl _ _ | with_reducible refine bel_set ?_ ?_ | with_reducible refine bel_alloc ?_ ?_ | with_reducible refine Below.drew ?_ | with_reducible refine bel_drewN _ ?_ | with_reducible refine bel_call ?_ (by assumption) ?_)); all_goals (first | (simp; done) | omega | (simp; omega)))
    clear hb r0_w8 r1_w8 r2_w8 r3_w8 r4_w8 r5_w8 r6_w8 r7_w8 qr_w8 t0_w8 t1_w8 t2_w8 t3_w8 t4_w8 t5_w8 t6_w8 t7_w8 qt_w8 D8
    obtain ⟨r0_w9, r1_w9, r2_w9, r3_w9, r4_w9, r5_w9, r6_w9, r7_w9⟩ := Hrw9
    have qr_w9 := lt_of_cell r0_w9
    obtain ⟨t0_w9, t1_w9, t2_w9, t3_w9, t4_w9, t5_w9, t6_w9, t7_w9⟩ := Htw9
    have qt_w9 := lt_of_cell t0_w9
    go_wp2_with fail
    refine (low_call t m HMM.out (by omega) _).mono ?_
    rintro e w10 ⟨rfl, hb⟩
    have Hrw10 : C4 w10 (w.heap.size) (.string ⟨#[]⟩) (.string ⟨#[]⟩) (.string ⟨#[]⟩) (.slice none 0 0) := C4.below ⟨by go_simp, by go_simp, by go_simp, by go_simp, by go_simp, by go_simp, by go_simp, by go_simp⟩ hb
    have Htw10 : C4 w10 (w2.heap.size) (.string x) (.string sc) (.string g) (.slice none 0 0) := C4.below ⟨by go_simp, by go_simp, by go_simp, by go_simp, by go_simp, by go_simp, by go_simp, by go_simp⟩ hb
    have D10 : Below w2.heap.size w2 w10 := (by (repeat (first | with_reducible exact Below.refl _ _ | with_reducible refine bel_set ?_ ?_ | with_reducible refine bel_alloc ?_ ?_ | with_reducible refine Below.drew ?_ | with_reducible refine bel_drewN _ ?_ | with_reducible refine bel_call ?_ (by assumption) ?_)); all_goals (first | (simp; done) | omega | (simp; omega)))
    clear hb r0_w9 r1_w9 r2_w9 r3_w9 r4_w9 r5_w9 r6_w9 r7_w9 qr_w9 t0_w9 t1_w9 t2_w9 t3_w9 t4_w9 t5_w9 t6_w9 t7_w9 qt_w9 D9
    obtain ⟨r0_w10, r1_w10, r2_w10, r3_w10, r4_w10, r5_w10, r6_w10, r7_w10⟩ := Hrw10
    have qr_w10 := lt_of_cell r0_w10
    obtain ⟨t0_w10, t1_w10, t2_w10, t3_w10, t4_w10, t5_w10, t6_w10, t7_w10⟩ := Htw10
    have qt_w10 := lt_of_cell t0_w10
    go_wp2_with fail
    refine (low_call s L HL.out (by omega) _).mono ?_
    rintro e w11 ⟨rfl, hb⟩
    have Hrw11 : C4 w11 (w.heap.size) (.string ⟨#[]⟩) (.string ⟨#[]⟩) (.string ⟨#[]⟩) (.slice none 0 0) := C4.below ⟨by go_simp, by go_simp, by go_simp, by go_simp, by go_simp, by go_simp, by go_simp, by go_simp⟩ hb
    have Htw11 : C4 w11 (w2.heap.size) (.string x) (.string sc) (.string g) (.slice none 0 0) := C4.below ⟨by go_simp, by go_simp, by go_simp, by go_simp, by go_simp, by go_simp, by go_simp, by go_simp⟩ hb
    have D11 : Below w2.heap.size w2 w11 := (by (repeat (first | with_reducible exact Below.refl _ _ | with_reducible refine bel_set ?_ ?_ | with_reducible refine bel_alloc ?_ ?_ | with_reducible refine Below.drew ?_ | with_reducible refine bel_drewN _ ?_ | with_reducible refine bel_call ?_ (by assumption) ?_)); all_goals (first | (simp; done) | omega | (simp; omega)))
    clear hb r0_w10 r1_w10 r2_w10 r3_w10 r4_w10 r5_w10 r6_w10 r7_w10 qr_w10 t0_w10 t1_w10 t2_w10 t3_w10 t4_w10 t5_w10 t6_w10 t7_w10 qt_w10 D10
    obtain ⟨r0_w11, r1_w11, r2_w11, r3_w11, r4_w11, r5_w11, r6_w11, r7_w11⟩ := Hrw11
    have qr_w11 := lt_of_cell r0_w11
    obtain ⟨t0_w11, t1_w11, t2_w11, t3_w11, t4_w11, t5_w11, t6_w11, t7_w11⟩ := Htw11
    have qt_w11 := lt_of_cell t0_w11
    have hb1 := Bw1.out
    have hb2 := Bw2.out
    have b1 := hb1.size
    have b2 := hb2.size
    have hbD := hb2.trans (D11.mono hb2.size)
    cases hq : (m.toList == L.toList)
    · have hne : lowerL (tagText x.data.toList sc.data.toList g.data.toList (listsOf [])) ≠ lowerL s.data.toList := fun h => by
        have h2 := HMM.out
        rw [HTT.out] at h2
        rw [h2, HL.out] at h
        rw [Lib.toList_data, Lib.toList_data, h] at hq
        simp at hq
      have HNE := Lib.hid hne
      clear hne
      have hq2 : (m.toList != L.toList) = true := by rw [bne, hq]; rfl
      go_wp2_with fail
      exact bodyPost_ret (v := .tuple #[tagV ⟨#[]⟩ ⟨#[]⟩ ⟨#[]⟩ none 0 0, errT 3]) (by simp [results, Tryz.results55, go_sem, r0_w11, r1_w11, r2_w11, r3_w11, World.cell?_setCell_same, World.cell?_setCell_other]) rfl ⟨.inr ⟨isTag_no2 HT.out HNE.out, rfl⟩, (by (repeat (first | with_reducible exact Below.refl _ _ | with_reducible refine bel_set ?_ ?_ | with_reducible refine bel_alloc ?_ ?_ | with_reducible refine Below.drew ?_ | with_reducible refine bel_drewN _ ?_ | with_reducible refine bel_call ?_ (by assumption) ?_)); all_goals (first | (simp; done) | omega | (simp; omega)))⟩
    · have hyes : isTag s.data.toList = true := isTag_yes HT.out HE.out.symm (by
        have h2 := HMM.out
        rw [HTT.out] at h2
        have h3 := eq_of_beq hq
        rw [Lib.toList_data, Lib.toList_data] at h3
        rw [HL.out, ← h3]
        exact h2)
      have HYES := Lib.hid hyes
      clear hyes
      have hq2 : m.toList = L.toList := by simpa using hq
      go_wp2_with fail
      refine bodyPost_ret (v := .tuple #[tagV x sc g none 0 0, .nilIface]) (by simp [results, Tryz.results55, go_sem, r0_w11, r1_w11, r2_w11, r3_w11, World.cell?_setCell_same, World.cell?_setCell_other]) rfl ⟨.inl ⟨HYES.out, x, sc, g, none, 0, [], rfl, HT.out, ?_, ?_, ?_⟩, (by (repeat (first | with_reducible exact Below.refl _ _ | with_reducible refine bel_set ?_ ?_ | with_reducible refine bel_alloc ?_ ?_ | with_reducible refine Below.drew ?_ | with_reducible refine bel_drewN _ ?_ | with_reducible refine bel_call ?_ (by assumption) ?_)); all_goals (first | (simp; done) | omega | (simp; omega)))⟩
      · exact .inl rfl
      · exact Nat.le_refl _
      · exact fun _ => rfl
  · have E0 : errOf E = errT E := if_neg h0
    rw [E0] at KC
    have HNE : Hid (tagErr x.data.toList sc.data.toList g.data.toList (listsOf []) ≠ 0) := Lib.hid (fun h => h0 (HE.out.trans h))
    clear h0 E0 HE
    refine ((KC.out _)).mono ?_
    rintro e w8 ⟨rfl, hb⟩
    have Hrw8 : C4 w8 (w.heap.size) (.string ⟨#[]⟩) (.string ⟨#[]⟩) (.string ⟨#[]⟩) (.slice none 0 0) := C4.below ⟨by go_simp, by go_simp, by go_simp, by go_simp, by go_simp, by go_simp, by go_simp, by go_simp⟩ hb
    have Htw8 : C4 w8 (w2.heap.size) (.string x) (.string sc) (.string g) (.slice none 0 0) := C4.below ⟨by go_simp, by go_simp, by go_simp, by go_simp, by go_simp, by go_simp, by go_simp, by go_simp⟩ hb
    have D8 : Below w2.heap.size w2 w8 := (by (repeat (first | with_reducible exact Below.refl _ _ | with_reducible refine bel_set ?_ ?_ | with_reducible refine bel_alloc ?_ ?_ | with_reducible refine Below.drew ?_ | with_reducible refine bel_drewN _ ?_ | with_reducible refine bel_call ?_ (by assumption) ?_)); all_goals (first | (simp; done) | omega | (simp; omega)))
    clear hb r0_w7 r1_w7 r2_w7 r3_w7 r4_w7 r5_w7 r6_w7 r7_w7 qr_w7 t0_w7 t1_w7 t2_w7 t3_w7 t4_w7 t5_w7 t6_w7 t7_w7 qt_w7 D7
    obtain ⟨r0_w8, r1_w8, r2_w8, r3_w8, r4_w8, r5_w8, r6_w8, r7_w8⟩ := Hrw8
    have qr_w8 := lt_of_cell r0_w8
    obtain ⟨t0_w8, t1_w8, t2_w8, t3_w8, t4_w8, t5_w8, t6_w8, t7_w8⟩ := Htw8
    have qt_w8 := lt_of_cell t0_w8
    have hb1 := Bw1.out
    have hb2 := Bw2.out
    have b1 := hb1.size
    have b2 := hb2.size
    have hbD := hb2.trans (D8.mono hb2.size)
    go_wp2_with fail
    exact bodyPost_ret (v := .tuple #[tagV ⟨#[]⟩ ⟨#[]⟩ ⟨#[]⟩ none 0 0, errT 3]) (by simp [results, Tryz.results55, go_sem, r0_w8, r1_w8, r2_w8, r3_w8, World.cell?_setCell_same, World.cell?_setCell_other]) rfl ⟨.inr ⟨isTag_no1 HT.out HNE.out, rfl⟩, (by (repeat (first | with_reducible exact Below.refl _ _ | with_reducible refine bel_set ?_ ?_ | with_reducible refine bel_alloc ?_ ?_ | with_reducible refine Below.drew ?_ | with_reducible refine bel_drewN _ ?_ | with_reducible refine bel_call ?_ (by assumption) ?_)); all_goals (first | (simp; done) | omega | (simp; omega)))⟩
end Go.Proofs.YtnhlnhmjnnopaaaGreatDoor

/- tag.Parse: way 3. -/
namespace Go.Proofs.YtnhlnhmjnnopaaaGreatDoor
open Go.RowKit

set_option maxHeartbeats 4000000 in
set_option maxRecDepth 100000 in
theorem parse_way3 (s L x p q y : ByteArray) (r : List ByteArray) (w : World) (hM : MaxL w) (hs : s.size ≤ 1000000000) (hL : lowerL s.data.toList = L.data.toList) (hps : Lib.splitB ⟨#[45]⟩ 0 (Lib.countB L ⟨#[45]⟩) L = x :: p :: q :: y :: r) (hp : madeB lowB p.data.toList 4 4 = true) (hq : regionB (upperL q.data.toList) = true) :
    Calls Tryz.prog 55 #[.string s] w fun e w' => ParseOut s e w' ∧ Below w.heap.size w w' := by
  obtain ⟨hmade, hsz, hcnt⟩ := made_is hL hps
  have hLs : L.size = s.size := by rw [← tsize, ← tsize, ← hL]; unfold lowerL; simp
  have hp4 : p.size = 4 := by have := madeB_len hp; rw [tsize] at this; omega
  obtain ⟨u, hu⟩ : ∃ u : ByteArray, upperL (p.extract 0 1).data.toList = u.data.toList := ⟨⟨(upperL (p.extract 0 1).data.toList).toArray⟩, rfl⟩
  have huz : u.size = 1 := by rw [← tsize, ← hu, upper_len, Lib.extract_from_zero, List.length_take, tsize]; omega
  have hez : (p.extract 1 p.size).size ≤ 4 := by rw [ByteArray.size_extract]; omega
  have hez0 : (p.extract 0 1).size ≤ 9223372036854775807 := by rw [ByteArray.size_extract]; omega
  obtain ⟨sc, hsc, hcat⟩ := add_let u (p.extract 1 p.size) (by omega)
  have hsc2 : sc.data.toList = upperL (p.data.toList.take 1) ++ p.data.toList.drop 1 := by rw [hsc, ByteArray.data_append, Array.toList_append, ← hu, Lib.extract_from_zero, Lib.extract_to_end]
  have hscz : sc.size ≤ 1000000000 := by rw [← tsize, hsc2, List.length_append, upper_len, ← List.length_append, List.take_append_drop, tsize]; omega
  obtain ⟨g, hg⟩ : ∃ g : ByteArray, upperL q.data.toList = g.data.toList := ⟨⟨(upperL q.data.toList).toArray⟩, rfl⟩
  have hgz : g.size ≤ 1000000000 := by have h := hsz q (by simp); rw [← tsize, ← hg, upper_len, tsize]; omega
  rw [hg] at hq
  have hT : madeT s.data.toList = ⟨x.data.toList, sc.data.toList, g.data.toList, listsOf (y :: r)⟩ := by
    rw [hmade]
    simp [listsOf, List.map_cons, List.map_nil, scrP, regP, if_pos hp, hsc2, hg, if_pos hq]
  have HT := Lib.hid hT
  have zx : x.size ≤ 1000000000 := by have := hsz x (by simp); omega
  have zp : p.size ≤ 1000000000 := by have := hsz p (by simp); omega
  have zq : q.size ≤ 1000000000 := by have := hsz q (by simp); omega
  have zy : y.size ≤ 1000000000 := by have := hsz y (by simp); omega
  have hrl : r.length ≤ 1000000000 := by simp at hcnt; omega
  have HZ : Hid (∀ v ∈ (y :: r), v.size ≤ 1000000000) := Lib.hid (fun v hv => by have := hsz v (List.mem_cons_of_mem _ (List.mem_cons_of_mem _ (List.mem_cons_of_mem _ hv))); omega)
  have HPS := Lib.hid hps
  have HL := Lib.hid hL
  have HM := Lib.hid hM
  have HU := Lib.hid hu
  have HP := Lib.hid hp
  have HG := Lib.hid hg
  have HQ := Lib.hid hq
  clear hmade hsz hcnt hT hps hL hM hu hp hsc2 hg hq
  go_enter Tryz.func55, Tryz.ntmps55
  go_wp2_with fail
  refine (low_call s L HL.out (by omega) _).mono ?_
  rintro e w1 ⟨rfl, hb1⟩
  have Hrw1 : C4 w1 (w.heap.size) (.string ⟨#[]⟩) (.string ⟨#[]⟩) (.string ⟨#[]⟩) (.slice none 0 0) := C4.below ⟨by go_simp, by go_simp, by go_simp, by go_simp, by go_simp, by go_simp, by go_simp, by go_simp⟩ hb1
  have Bw1 := Lib.hid hb1
  obtain ⟨r0_w1, r1_w1, r2_w1, r3_w1, r4_w1, r5_w1, r6_w1, r7_w1⟩ := Hrw1
  have qr_w1 := lt_of_cell r0_w1
  have s1 : w.heap.size < w1.heap.size := qr_w1
  go_wp2_with fail
  refine (split_call L _ HPS.out _ (HM.out.below (((Below.refl _ _).alloc (Nat.le_refl _) _).trans (Bw1.out.mono (by simp)))) (by omega)).mono ?_
  rintro e w2 ⟨rfl, hcp, hb2⟩
  have HCP := Lib.hid hcp
  have c0_w2 : w2.cell? ⟨w1.heap.size, 0, none⟩ = some (.string x) := hcp 0 x rfl
  have c1_w2 : w2.cell? ⟨w1.heap.size, 1, none⟩ = some (.string p) := hcp 1 p rfl
  have c2_w2 : w2.cell? ⟨w1.heap.size, 2, none⟩ = some (.string q) := hcp 2 q rfl
  have c3_w2 : w2.cell? ⟨w1.heap.size, 3, none⟩ = some (.string y) := hcp 3 y rfl
  have Hrw2 : C4 w2 (w.heap.size) (.string ⟨#[]⟩) (.string ⟨#[]⟩) (.string ⟨#[]⟩) (.slice none 0 0) := C4.below ⟨by go_simp, by go_simp, by go_simp, by go_simp, by go_simp, by go_simp, by go_simp, by go_simp⟩ hb2
  have Bw2 := Lib.hid hb2
  clear hcp hb2 r0_w1 r1_w1 r2_w1 r3_w1 r4_w1 r5_w1 r6_w1 r7_w1 qr_w1
  obtain ⟨r0_w2, r1_w2, r2_w2, r3_w2, r4_w2, r5_w2, r6_w2, r7_w2⟩ := Hrw2
  have qr_w2 := lt_of_cell r0_w2
  have qc_w2 := lt_of_cell c0_w2
  simp only [List.length_cons, List.length_nil, Nat.zero_add]
  have l1 : (0 : Int) < (r.length : Int) + 3 := by omega
  have l2 : (0 : Int) < (r.length : Int) + 2 := by omega
  have l3 : (0 : Int) < (r.length : Int) + 1 := by omega
  go_wp2_with fail
  refine (made_call p true HP.out (by omega) _).mono ?_
  rintro e w2x ⟨rfl, rfl⟩
  go_wp2_with fail
  have z1 : (1 : Int) ≤ (p.size : Int) := by omega
  refine wp_region_held_drew (S := fun w' => w'.cell? ⟨w1.heap.size, 1, none⟩ = some (.string p)) (by kernel_rfl) ?_ (fun hHeld => ?_)
  · (try dsimp only); go_simp
  refine wpAnyH_take (i := 0) (v := ?v1) rfl (by kernel_rfl) (by kernel_rfl) (by kernel_rfl) (fun _ _ _ h => h) (Or.inl ⟨rfl, ?hy1⟩) hHeld ?rest1
  case hy1 => (intro w hSw; (try dsimp only at hSw); go_simp; try with_reducible rfl)
  try simp only [Act.put, List.setIfInBounds_toArray, List.set_cons_zero, List.set_cons_succ, List.getElem_toArray, List.getElem_cons_zero, List.getElem_cons_succ]
  refine wpAnyH_take (i := 1) (v := ?v2) rfl (by kernel_rfl) (by kernel_rfl) (by kernel_rfl) (fun _ _ _ h => h) (Or.inl ⟨rfl, ?hy2⟩) hHeld ?rest2
  case hy2 => (intro w hSw; (try dsimp only at hSw); go_simp; try with_reducible rfl)
  try simp only [Act.put, List.setIfInBounds_toArray, List.set_cons_zero, List.set_cons_succ, List.getElem_toArray, List.getElem_cons_zero, List.getElem_cons_succ]
  refine wpAnyH_take (i := 2) (v := ?v3) rfl (by kernel_rfl) (by kernel_rfl) (by kernel_rfl) (fun _ _ _ h => h) (Or.inl ⟨rfl, ?hy3⟩) hHeld ?rest3
  case hy3 => (intro w hSw; (try dsimp only at hSw); go_simp; try with_reducible rfl)
  try simp only [Act.put, List.setIfInBounds_toArray, List.set_cons_zero, List.set_cons_succ, List.getElem_toArray, List.getElem_cons_zero, List.getElem_cons_succ]
  refine wpAnyH_take (i := 3) (v := ?v4) rfl (by kernel_rfl) (by kernel_rfl) (by kernel_rfl) (fun _ _ _ h => h) (Or.inl ⟨rfl, ?hy4⟩) hHeld ?rest4
  case hy4 => (intro w hSw; (try dsimp only at hSw); go_simp; try with_reducible rfl)
  try simp only [Act.put, List.setIfInBounds_toArray, List.set_cons_zero, List.set_cons_succ, List.getElem_toArray, List.getElem_cons_zero, List.getElem_cons_succ]
  refine wpAnyH_take (i := 5) (v := ?v5) rfl (by kernel_rfl) (by kernel_rfl) (by kernel_rfl) (fun _ _ _ h => h) (Or.inl ⟨rfl, ?hy5⟩) hHeld ?rest5
  case hy5 => (intro w hSw; (try dsimp only at hSw); go_simp; try with_reducible rfl)
  try simp only [Act.put, List.setIfInBounds_toArray, List.set_cons_zero, List.set_cons_succ, List.getElem_toArray, List.getElem_cons_zero, List.getElem_cons_succ]
  refine wpAnyH_take (i := 6) (v := ?v6) rfl (by kernel_rfl) (by kernel_rfl) (by kernel_rfl) (fun _ _ _ h => h) (Or.inl ⟨rfl, ?hy6⟩) hHeld ?rest6
  case hy6 => (intro w hSw; (try dsimp only at hSw); go_simp; try with_reducible rfl)
  try simp only [Act.put, List.setIfInBounds_toArray, List.set_cons_zero, List.set_cons_succ, List.getElem_toArray, List.getElem_cons_zero, List.getElem_cons_succ]
  refine wpAnyH_take (i := 7) (v := ?v7) rfl (by kernel_rfl) (by kernel_rfl) (by kernel_rfl) (fun _ _ _ h => h) (Or.inl ⟨rfl, ?hy7⟩) hHeld ?rest7
  case hy7 => (intro w hSw; (try dsimp only at hSw); go_simp; try with_reducible rfl)
  try simp only [Act.put, List.setIfInBounds_toArray, List.set_cons_zero, List.set_cons_succ, List.getElem_toArray, List.getElem_cons_zero, List.getElem_cons_succ]
  refine wpAnyH_take (i := 8) (v := ?v8) rfl (by kernel_rfl) (by kernel_rfl) (by kernel_rfl) (fun _ _ _ h => h) (Or.inl ⟨rfl, ?hy8⟩) hHeld ?rest8
  case hy8 => (intro w hSw; (try dsimp only at hSw); go_simp; try with_reducible rfl)
  try simp only [Act.put, List.setIfInBounds_toArray, List.set_cons_zero, List.set_cons_succ, List.getElem_toArray, List.getElem_cons_zero, List.getElem_cons_succ]
  refine wpAnyH_ready (rs := [4]) (by kernel_rfl) (by simp) (AllReadyH.cons rfl (fun K hK => ?_) AllReadyH.nil)
  go_simp
  go_at_call 83; refine (up_call (p.extract 0 1) u HU.out hez0 _).mono ?_; rintro e w3 ⟨rfl, hb3⟩
  try dsimp only
  refine hK.out _ _ (carry hb3 (by go_simp)) (fun hNew => ?_)
  have B3 : Below w2.heap.size w2 w3 := Below.trans ((Below.refl w2.heap.size w2).alloc (Nat.le_refl _) (.cells #[.string x, .string ⟨#[]⟩, .string ⟨#[]⟩, .slice none 0 0] 105)).drew (hb3.mono (show w2.heap.size ≤ _ by simp))
  have Bw3 := Lib.hid B3
  have Hrw3 : C4 w3 (w.heap.size) (.string ⟨#[]⟩) (.string ⟨#[]⟩) (.string ⟨#[]⟩) (.slice none 0 0) := C4.below ⟨by go_simp, by go_simp, by go_simp, by go_simp, by go_simp, by go_simp, by go_simp, by go_simp⟩ hb3
  have Htw3 : C4 w3 (w2.heap.size) (.string x) (.string ⟨#[]⟩) (.string ⟨#[]⟩) (.slice none 0 0) := C4.below ⟨by go_simp, by go_simp, by go_simp, by go_simp, by go_simp, by go_simp, by go_simp, by go_simp⟩ hb3
  clear hK K hHeld hb3 B3
  have hHeld := hNew
  clear hNew r0_w2 r1_w2 r2_w2 r3_w2 r4_w2 r5_w2 r6_w2 r7_w2
  obtain ⟨r0_w3, r1_w3, r2_w3, r3_w3, r4_w3, r5_w3, r6_w3, r7_w3⟩ := Hrw3
  obtain ⟨t0_w3, t1_w3, t2_w3, t3_w3, t4_w3, t5_w3, t6_w3, t7_w3⟩ := Htw3
  have qr_w3 := lt_of_cell r0_w3
  have qt_w3 := lt_of_cell t0_w3
  try simp only [Act.put, List.setIfInBounds_toArray, List.set_cons_zero, List.set_cons_succ, List.getElem_toArray, List.getElem_cons_zero, List.getElem_cons_succ]
  refine wpAnyH_take (i := 9) (v := ?v9) rfl (by kernel_rfl) (by kernel_rfl) (by kernel_rfl) (fun _ _ _ h => h) (Or.inl ⟨rfl, ?hy9⟩) hHeld ?rest9
  case hy9 => (intro w hSw; (try dsimp only at hSw); go_simp; try with_reducible rfl)
  try simp only [Act.put, List.setIfInBounds_toArray, List.set_cons_zero, List.set_cons_succ, List.getElem_toArray, List.getElem_cons_zero, List.getElem_cons_succ]
  refine wpAnyH_take (i := 10) (v := ?v10) rfl (by kernel_rfl) (by kernel_rfl) (by kernel_rfl) (fun _ _ _ h => h) (Or.inl ⟨rfl, ?hy10⟩) hHeld ?rest10
  case hy10 => (intro w hSw; (try dsimp only at hSw); go_simp; try with_reducible rfl)
  try simp only [Act.put, List.setIfInBounds_toArray, List.set_cons_zero, List.set_cons_succ, List.getElem_toArray, List.getElem_cons_zero, List.getElem_cons_succ]
  refine wpAnyH_ready (rs := [11]) (by kernel_rfl) (by simp) (AllReadyH.cons rfl (fun K hK => ?_) AllReadyH.nil)
  go_simp
  have hsc4 : u ++ p.extract 1 4 = sc := by rw [hsc, hp4]
  rw [hsc4]
  refine hK.out _ _ (cell_other hHeld (by intro e; injection e with e1; omega)) (fun hNew => ?_)
  clear hK K hHeld hNew hsc4
  refine wpAnyH_done (by kernel_rfl) ?_ _
  have Hrw4 : C4 (w3.setCell ⟨w2.heap.size, 1, none⟩ (.string sc)) (w.heap.size) (.string ⟨#[]⟩) (.string ⟨#[]⟩) (.string ⟨#[]⟩) (.slice none 0 0) := ⟨by go_simp, by go_simp, by go_simp, by go_simp, by go_simp, by go_simp, by go_simp, by go_simp⟩
  have Htw4 : C4 (w3.setCell ⟨w2.heap.size, 1, none⟩ (.string sc)) (w2.heap.size) (.string x) (.string sc) (.string ⟨#[]⟩) (.slice none 0 0) := ⟨by go_simp, by go_simp, by go_simp, by go_simp, by go_simp, by go_simp, by go_simp, by go_simp⟩
  have D4 : Below w2.heap.size w2 (w3.setCell ⟨w2.heap.size, 1, none⟩ (.string sc)) := bel_set Bw3.out (Nat.le_refl _)
  have hq4 : w2.heap.size < (w3.setCell ⟨w2.heap.size, 1, none⟩ (.string sc)).heap.size := lt_of_cell Htw4.c0
  clear r0_w3 r1_w3 r2_w3 r3_w3 r4_w3 r5_w3 r6_w3 r7_w3 t0_w3 t1_w3 t2_w3 t3_w3 t4_w3 t5_w3 t6_w3 t7_w3 qr_w3 qt_w3 Bw3 hcat huz hez hez0 hsc hp4 z1
  generalize (w3.setCell ⟨w2.heap.size, 1, none⟩ (.string sc)) = w4 at *
  have c2_w4 : w4.cell? ⟨w1.heap.size, 2, none⟩ = some (.string q) := carry D4 c2_w2
  have c3_w4 : w4.cell? ⟨w1.heap.size, 3, none⟩ = some (.string y) := carry D4 c3_w2
  clear c0_w2 c1_w2 c2_w2 c3_w2 qr_w2
  obtain ⟨r0_w4, r1_w4, r2_w4, r3_w4, r4_w4, r5_w4, r6_w4, r7_w4⟩ := Hrw4
  have qr_w4 := lt_of_cell r0_w4
  obtain ⟨t0_w4, t1_w4, t2_w4, t3_w4, t4_w4, t5_w4, t6_w4, t7_w4⟩ := Htw4
  have qt_w4 := lt_of_cell t0_w4
  go_wp2_with fail
  refine (up_call q g HG.out (by omega) _).mono ?_
  rintro e w5 ⟨rfl, hb⟩
  have Hrw5 : C4 w5 (w.heap.size) (.string ⟨#[]⟩) (.string ⟨#[]⟩) (.string ⟨#[]⟩) (.slice none 0 0) := C4.below ⟨by go_simp, by go_simp, by go_simp, by go_simp, by go_simp, by go_simp, by go_simp, by go_simp⟩ hb
  have Htw5 : C4 w5 (w2.heap.size) (.string x) (.string sc) (.string ⟨#[]⟩) (.slice none 0 0) := C4.below ⟨by go_simp, by go_simp, by go_simp, by go_simp, by go_simp, by go_simp, by go_simp, by go_simp⟩ hb
  have c2_w5 : w5.cell? ⟨w1.heap.size, 2, none⟩ = some (.string q) := carry hb (by go_simp)
  have c3_w5 : w5.cell? ⟨w1.heap.size, 3, none⟩ = some (.string y) := carry hb (by go_simp)
  have D5 : Below w2.heap.size w2 w5 := (by (repeat (first | with_reducible exact Below.refl _ _ | with_reducible refine bel_set ?_ ?_ | with_reducible refine bel_alloc ?_ ?_ | with_reducible refine Below.drew ?_ | with_reducible refine bel_drewN _ ?_ | with_reducible refine bel_call ?_ (by assumption) ?_)); all_goals (first | (simp; done) | omega | (simp; omega)))
  clear hb c2_w4 c3_w4 r0_w4 r1_w4 r2_w4 r3_w4 r4_w4 r5_w4 r6_w4 r7_w4 qr_w4 t0_w4 t1_w4 t2_w4 t3_w4 t4_w4 t5_w4 t6_w4 t7_w4 qt_w4 D4 hq4
  obtain ⟨r0_w5, r1_w5, r2_w5, r3_w5, r4_w5, r5_w5, r6_w5, r7_w5⟩ := Hrw5
  have qr_w5 := lt_of_cell r0_w5
  obtain ⟨t0_w5, t1_w5, t2_w5, t3_w5, t4_w5, t5_w5, t6_w5, t7_w5⟩ := Htw5
  have qt_w5 := lt_of_cell t0_w5
  go_wp2_with fail
  refine (reg_call g true HQ.out (by omega) _).mono ?_
  rintro e wx ⟨rfl, rfl⟩
  go_wp2_with fail
  refine (up_call q g HG.out (by omega) _).mono ?_
  rintro e w6 ⟨rfl, hb⟩
  have Hrw6 : C4 w6 (w.heap.size) (.string ⟨#[]⟩) (.string ⟨#[]⟩) (.string ⟨#[]⟩) (.slice none 0 0) := C4.below ⟨by go_simp, by go_simp, by go_simp, by go_simp, by go_simp, by go_simp, by go_simp, by go_simp⟩ hb
  have Htw6 : C4 w6 (w2.heap.size) (.string x) (.string sc) (.string ⟨#[]⟩) (.slice none 0 0) := C4.below ⟨by go_simp, by go_simp, by go_simp, by go_simp, by go_simp, by go_simp, by go_simp, by go_simp⟩ hb
  have c2_w6 : w6.cell? ⟨w1.heap.size, 2, none⟩ = some (.string q) := carry hb (by go_simp)
  have c3_w6 : w6.cell? ⟨w1.heap.size, 3, none⟩ = some (.string y) := carry hb (by go_simp)
  have D6 : Below w2.heap.size w2 w6 := (by (repeat (first | with_reducible exact Below.refl _ _ | with_reducible refine bel_set ?_ ?_ | with_reducible refine bel_alloc ?_ ?_ | with_reducible refine Below.drew ?_ | with_reducible refine bel_drewN _ ?_ | with_reducible refine bel_call ?_ (by assumption) ?_)); all_goals (first | (simp; done) | omega | (simp; omega)))
  clear hb c2_w5 c3_w5 r0_w5 r1_w5 r2_w5 r3_w5 r4_w5 r5_w5 r6_w5 r7_w5 qr_w5 t0_w5 t1_w5 t2_w5 t3_w5 t4_w5 t5_w5 t6_w5 t7_w5 qt_w5 D5
  obtain ⟨r0_w6, r1_w6, r2_w6, r3_w6, r4_w6, r5_w6, r6_w6, r7_w6⟩ := Hrw6
  have qr_w6 := lt_of_cell r0_w6
  obtain ⟨t0_w6, t1_w6, t2_w6, t3_w6, t4_w6, t5_w6, t6_w6, t7_w6⟩ := Htw6
  have qt_w6 := lt_of_cell t0_w6
  go_wp2_with fail
  have DC : Below w2.heap.size w2 (w6.setCell ⟨w2.heap.size, 2, none⟩ (.string g)) := (by (repeat (first | with_reducible exact Below.refl _ _ | with_reducible refine bel_set ?_ ?_ | with_reducible refine bel_alloc ?_ ?_ | with_reducible refine Below.drew ?_ | with_reducible refine bel_drewN _ ?_ | with_reducible refine bel_call ?_ (by assumption) ?_)); all_goals (first | (simp; done) | omega | (simp; omega)))
  have SC : w2.heap.size < (w6.setCell ⟨w2.heap.size, 2, none⟩ (.string g)).heap.size := by simpa using qt_w6
  have HCL : Hid (∀ (j : Nat) z, (y :: r)[j]? = some z → (w6.setCell ⟨w2.heap.size, 2, none⟩ (.string g)).cell? ⟨w1.heap.size, 3 + j, none⟩ = some (.string z)) := Lib.hid (fun j z hz => carry DC (HCP.out (3 + j) z (by rw [Nat.add_comm]; exact hz)))
  clear DC
  refine (clone_call w1.heap.size 3 _ _ (y :: r) _ rfl (by first | (simp; done) | (simp; omega)) HCL.out).mono ?_
  rintro e w7 ⟨⟨A, kc, rfl, ho⟩, hb⟩
  have Hrw7 : C4 w7 (w.heap.size) (.string ⟨#[]⟩) (.string ⟨#[]⟩) (.string ⟨#[]⟩) (.slice none 0 0) := C4.below ⟨by go_simp, by go_simp, by go_simp, by go_simp, by go_simp, by go_simp, by go_simp, by go_simp⟩ hb
  have Htw7 : C4 w7 (w2.heap.size) (.string x) (.string sc) (.string g) (.slice none 0 0) := C4.below ⟨by go_simp, by go_simp, by go_simp, by go_simp, by go_simp, by go_simp, by go_simp, by go_simp⟩ hb
  have D7 : Below w2.heap.size w2 w7 := (by (repeat (first | with_reducible exact Below.refl _ _ | with_reducible refine bel_set ?_ ?_ | with_reducible refine bel_alloc ?_ ?_ | with_reducible refine Below.drew ?_ | with_reducible refine bel_drewN _ ?_ | with_reducible refine bel_call ?_ (by assumption) ?_)); all_goals (first | (simp; done) | omega | (simp; omega)))
  obtain ⟨bz, hbz⟩ : ∃ b, b = (w6.setCell ⟨w2.heap.size, 2, none⟩ (.string g)).heap.size := ⟨_, rfl⟩
  rw [← hbz] at ho SC
  obtain ⟨hkc, hA⟩ := ho.caps
  have HST := Lib.hid (ho.set w2.heap.size 3 (.slice A (r.length + 1) kc) SC)
  have HA := Lib.hid hA
  have HKC := Lib.hid hkc
  have HSC := Lib.hid SC
  clear hb SC HCL ho hbz hA c2_w6 c3_w6 r0_w6 r1_w6 r2_w6 r3_w6 r4_w6 r5_w6 r6_w6 r7_w6 qr_w6 t0_w6 t1_w6 t2_w6 t3_w6 t4_w6 t5_w6 t6_w6 t7_w6 qt_w6 D6
  obtain ⟨r0_w7, r1_w7, r2_w7, r3_w7, r4_w7, r5_w7, r6_w7, r7_w7⟩ := Hrw7
  have qr_w7 := lt_of_cell r0_w7
  obtain ⟨t0_w7, t1_w7, t2_w7, t3_w7, t4_w7, t5_w7, t6_w7, t7_w7⟩ := Htw7
  have qt_w7 := lt_of_cell t0_w7
  have lz : ((r.length : Int) + 1 == 0) = false := by rw [beq_eq_false_iff_ne]; omega
  go_wp2_with fail
  obtain ⟨E, hE⟩ : ∃ E, E = tagErr x.data.toList sc.data.toList g.data.toList (listsOf (y :: r)) := ⟨_, rfl⟩
  have KC := Lib.hid (tag_check x sc g A kc (y :: r) (w7.setCell ⟨w2.heap.size, 3, none⟩ (.slice A (r.length + 1) kc)) (by omega) (by omega) (by omega) HST.out.strs (by simp; omega) hkc (fun v hv => by have := HZ.out v hv; omega))
  rw [← hE] at KC
  have HE := Lib.hid hE
  clear hE hkc
  by_cases h0 : E = 0
  · subst h0
    have E0 : errOf 0 = .nilIface := rfl
    rw [E0] at KC
    refine (KC.out).mono ?_
    rintro e w8 ⟨rfl, hb⟩
    have Hrw8 : C4 w8 (w.heap.size) (.string ⟨#[]⟩) (.string ⟨#[]⟩) (.string ⟨#[]⟩) (.slice none 0 0) := C4.below ⟨by go_simp, by go_simp, by go_simp, by go_simp, by go_simp, by go_simp, by go_simp, by go_simp⟩ hb
    have Htw8 : C4 w8 (w2.heap.size) (.string x) (.string sc) (.string g) (.slice A (r.length + 1) kc) := C4.below ⟨by go_simp, by go_simp, by go_simp, by go_simp, by go_simp, by go_simp, by go_simp, by go_simp⟩ hb
    have D8 : Below w2.heap.size w2 w8 := (by (repeat (first | with_reducible exact Below.refl _ _ | with_reducible refine bel_set ?_ ?_ | with_reducible refine bel_alloc ?_ ?_ | with_reducible refine Below.drew ?_ | with_reducible refine bel_drewN _ ?_ | with_reducible refine bel_call ?_ (by assumption) ?_)); all_goals (first | (simp; done) | omega | (simp; omega)))
    have hbk := Lib.hid hb
    clear hb r0_w7 r1_w7 r2_w7 r3_w7 r4_w7 r5_w7 r6_w7 r7_w7 qr_w7 t0_w7 t1_w7 t2_w7 t3_w7 t4_w7 t5_w7 t6_w7 t7_w7 qt_w7 D7 E0
    obtain ⟨r0_w8, r1_w8, r2_w8, r3_w8, r4_w8, r5_w8, r6_w8, r7_w8⟩ := Hrw8
    have qr_w8 := lt_of_cell r0_w8
    obtain ⟨t0_w8, t1_w8, t2_w8, t3_w8, t4_w8, t5_w8, t6_w8, t7_w8⟩ := Htw8
    have qt_w8 := lt_of_cell t0_w8
    have he0 := HE.out.symm
    have hlt := text_len he0
    obtain ⟨t, ht⟩ : ∃ t : ByteArray, t = ⟨(tagText x.data.toList sc.data.toList g.data.toList (listsOf (y :: r))).toArray⟩ := ⟨_, rfl⟩
    have htz : t.size ≤ 100 := by rw [← tsize, ht]; exact hlt
    have HST2 := Lib.hid (HST.out.below hbk.out)
    have KT := Lib.hid (tag_text x sc g A kc (y :: r) w8 HST2.out.strs HA.out he0)
    rw [← ht] at KT
    obtain ⟨m, hm⟩ : ∃ m : ByteArray, lowerL t.data.toList = m.data.toList := ⟨⟨(lowerL t.data.toList).toArray⟩, rfl⟩
    have HMM := Lib.hid hm
    have HTT := Lib.hid ht
    clear hm ht hlt he0
    go_wp2_with fail
    clear hbk
    refine (KT.out).mono ?_
    rintro e w9 ⟨rfl, hb⟩
    have Hrw9 : C4 w9 (w.heap.size) (.string ⟨#[]⟩) (.string ⟨#[]⟩) (.string ⟨#[]⟩) (.slice none 0 0) := C4.below ⟨by go_simp, by go_simp, by go_simp, by go_simp, by go_simp, by go_simp, by go_simp, by go_simp⟩ hb
    have Htw9 : C4 w9 (w2.heap.size) (.string x) (.string sc) (.string g) (.slice A (r.length + 1) kc) := C4.below ⟨by go_simp, by go_simp, by go_simp, by go_simp, by go_simp, by go_simp, by go_simp, by go_simp⟩ hb
    have D9 : Below w2.heap.size w2 w9 := (by (repeat (first | with_reducible exact Below.refl _ _ | with_reducible refine bel_set ?_ ?_ | with_reducible refine bel_alloc ?_ ?_ | with_reducible refine Below.drew ?_ | with_reducible refine bel_drewN _ ?_ | with_reducible refine bel_call ?_ (by assumption) ?_)); all_goals (first | (simp; done) | omega | (simp; omega)))
    have hbk := Lib.hid hb
    clear hb r0_w8 r1_w8 r2_w8 r3_w8 r4_w8 r5_w8 r6_w8 r7_w8 qr_w8 t0_w8 t1_w8 t2_w8 t3_w8 t4_w8 t5_w8 t6_w8 t7_w8 qt_w8 D8
    obtain ⟨r0_w9, r1_w9, r2_w9, r3_w9, r4_w9, r5_w9, r6_w9, r7_w9⟩ := Hrw9
    have qr_w9 := lt_of_cell r0_w9
    obtain ⟨t0_w9, t1_w9, t2_w9, t3_w9, t4_w9, t5_w9, t6_w9, t7_w9⟩ := Htw9
    have qt_w9 := lt_of_cell t0_w9
    have HST3 := Lib.hid (HST2.out.below hbk.out)
    clear hbk
    go_wp2_with fail
    refine (low_call t m HMM.out (by omega) _).mono ?_
    rintro e w10 ⟨rfl, hb⟩
    have Hrw10 : C4 w10 (w.heap.size) (.string ⟨#[]⟩) (.string ⟨#[]⟩) (.string ⟨#[]⟩) (.slice none 0 0) := C4.below ⟨by go_simp, by go_simp, by go_simp, by go_simp, by go_simp, by go_simp, by go_simp, by go_simp⟩ hb
    have Htw10 : C4 w10 (w2.heap.size) (.string x) (.string sc) (.string g) (.slice A (r.length + 1) kc) := C4.below ⟨by go_simp, by go_simp, by go_simp, by go_simp, by go_simp, by go_simp, by go_simp, by go_simp⟩ hb
    have D10 : Below w2.heap.size w2 w10 := (by (repeat (first | with_reducible exact Below.refl _ _ | with_reducible refine bel_set ?_ ?_ | with_reducible refine bel_alloc ?_ ?_ | with_reducible refine Below.drew ?_ | with_reducible refine bel_drewN _ ?_ | with_reducible refine bel_call ?_ (by assumption) ?_)); all_goals (first | (simp; done) | omega | (simp; omega)))
    have hbk := Lib.hid hb
    clear hb r0_w9 r1_w9 r2_w9 r3_w9 r4_w9 r5_w9 r6_w9 r7_w9 qr_w9 t0_w9 t1_w9 t2_w9 t3_w9 t4_w9 t5_w9 t6_w9 t7_w9 qt_w9 D9
    obtain ⟨r0_w10, r1_w10, r2_w10, r3_w10, r4_w10, r5_w10, r6_w10, r7_w10⟩ := Hrw10
    have qr_w10 := lt_of_cell r0_w10
    obtain ⟨t0_w10, t1_w10, t2_w10, t3_w10, t4_w10, t5_w10, t6_w10, t7_w10⟩ := Htw10
    have qt_w10 := lt_of_cell t0_w10
    have HST4 := Lib.hid (HST3.out.below hbk.out)
    clear hbk
    go_wp2_with fail
    refine (low_call s L HL.out (by omega) _).mono ?_
    rintro e w11 ⟨rfl, hb⟩
    have Hrw11 : C4 w11 (w.heap.size) (.string ⟨#[]⟩) (.string ⟨#[]⟩) (.string ⟨#[]⟩) (.slice none 0 0) := C4.below ⟨by go_simp, by go_simp, by go_simp, by go_simp, by go_simp, by go_simp, by go_simp, by go_simp⟩ hb
    have Htw11 : C4 w11 (w2.heap.size) (.string x) (.string sc) (.string g) (.slice A (r.length + 1) kc) := C4.below ⟨by go_simp, by go_simp, by go_simp, by go_simp, by go_simp, by go_simp, by go_simp, by go_simp⟩ hb
    have D11 : Below w2.heap.size w2 w11 := (by (repeat (first | with_reducible exact Below.refl _ _ | with_reducible refine bel_set ?_ ?_ | with_reducible refine bel_alloc ?_ ?_ | with_reducible refine Below.drew ?_ | with_reducible refine bel_drewN _ ?_ | with_reducible refine bel_call ?_ (by assumption) ?_)); all_goals (first | (simp; done) | omega | (simp; omega)))
    have hbk := Lib.hid hb
    clear hb r0_w10 r1_w10 r2_w10 r3_w10 r4_w10 r5_w10 r6_w10 r7_w10 qr_w10 t0_w10 t1_w10 t2_w10 t3_w10 t4_w10 t5_w10 t6_w10 t7_w10 qt_w10 D10
    obtain ⟨r0_w11, r1_w11, r2_w11, r3_w11, r4_w11, r5_w11, r6_w11, r7_w11⟩ := Hrw11
    have qr_w11 := lt_of_cell r0_w11
    obtain ⟨t0_w11, t1_w11, t2_w11, t3_w11, t4_w11, t5_w11, t6_w11, t7_w11⟩ := Htw11
    have qt_w11 := lt_of_cell t0_w11
    have HST5 := Lib.hid (HST4.out.below hbk.out)
    clear hbk
    have hb1 := Bw1.out
    have hb2 := Bw2.out
    have b1 := hb1.size
    have b2 := hb2.size
    have hbD := hb2.trans (D11.mono hb2.size)
    cases hq : (m.toList == L.toList)
    · have hne : lowerL (tagText x.data.toList sc.data.toList g.data.toList (listsOf (y :: r))) ≠ lowerL s.data.toList := fun h => by
        have h2 := HMM.out
        rw [HTT.out] at h2
        rw [h2, HL.out] at h
        rw [Lib.toList_data, Lib.toList_data, h] at hq
        simp at hq
      have HNE := Lib.hid hne
      clear hne
      have hq2 : (m.toList != L.toList) = true := by rw [bne, hq]; rfl
      go_wp2_with fail
      exact bodyPost_ret (v := .tuple #[tagV ⟨#[]⟩ ⟨#[]⟩ ⟨#[]⟩ none 0 0, errT 3]) (by simp [results, Tryz.results55, go_sem, r0_w11, r1_w11, r2_w11, r3_w11, World.cell?_setCell_same, World.cell?_setCell_other]) rfl ⟨.inr ⟨isTag_no2 HT.out HNE.out, rfl⟩, (by (repeat (first | with_reducible exact Below.refl _ _ | with_reducible refine bel_set ?_ ?_ | with_reducible refine bel_alloc ?_ ?_ | with_reducible refine Below.drew ?_ | with_reducible refine bel_drewN _ ?_ | with_reducible refine bel_call ?_ (by assumption) ?_)); all_goals (first | (simp; done) | omega | (simp; omega)))⟩
    · have hyes : isTag s.data.toList = true := isTag_yes HT.out HE.out.symm (by
        have h2 := HMM.out
        rw [HTT.out] at h2
        have h3 := eq_of_beq hq
        rw [Lib.toList_data, Lib.toList_data] at h3
        rw [HL.out, ← h3]
        exact h2)
      have HYES := Lib.hid hyes
      clear hyes
      have hq2 : m.toList = L.toList := by simpa using hq
      go_wp2_with fail
      refine bodyPost_ret (v := .tuple #[tagV x sc g A (y :: r).length kc, .nilIface]) (by simp [results, Tryz.results55, go_sem, r0_w11, r1_w11, r2_w11, r3_w11, World.cell?_setCell_same, World.cell?_setCell_other]) rfl ⟨.inl ⟨HYES.out, x, sc, g, A, kc, (y :: r), rfl, HT.out, ?_, ?_, ?_⟩, (by (repeat (first | with_reducible exact Below.refl _ _ | with_reducible refine bel_set ?_ ?_ | with_reducible refine bel_alloc ?_ ?_ | with_reducible refine Below.drew ?_ | with_reducible refine bel_drewN _ ?_ | with_reducible refine bel_call ?_ (by assumption) ?_)); all_goals (first | (simp; done) | omega | (simp; omega)))⟩
      · have hl : w.heap.size < bz := by have := HSC.out; omega
        exact ((((HST5.out.set _ _ _ hl).set _ _ _ hl).set _ _ _ hl).set _ _ _ hl).strs
      · exact HKC.out
      · exact HA.out
  · have E0 : errOf E = errT E := if_neg h0
    rw [E0] at KC
    have HNE : Hid (tagErr x.data.toList sc.data.toList g.data.toList (listsOf (y :: r)) ≠ 0) := Lib.hid (fun h => h0 (HE.out.trans h))
    clear h0 E0 HE
    refine (KC.out).mono ?_
    rintro e w8 ⟨rfl, hb⟩
    have Hrw8 : C4 w8 (w.heap.size) (.string ⟨#[]⟩) (.string ⟨#[]⟩) (.string ⟨#[]⟩) (.slice none 0 0) := C4.below ⟨by go_simp, by go_simp, by go_simp, by go_simp, by go_simp, by go_simp, by go_simp, by go_simp⟩ hb
    have Htw8 : C4 w8 (w2.heap.size) (.string x) (.string sc) (.string g) (.slice A (r.length + 1) kc) := C4.below ⟨by go_simp, by go_simp, by go_simp, by go_simp, by go_simp, by go_simp, by go_simp, by go_simp⟩ hb
    have D8 : Below w2.heap.size w2 w8 := (by (repeat (first | with_reducible exact Below.refl _ _ | with_reducible refine bel_set ?_ ?_ | with_reducible refine bel_alloc ?_ ?_ | with_reducible refine Below.drew ?_ | with_reducible refine bel_drewN _ ?_ | with_reducible refine bel_call ?_ (by assumption) ?_)); all_goals (first | (simp; done) | omega | (simp; omega)))
    clear hb r0_w7 r1_w7 r2_w7 r3_w7 r4_w7 r5_w7 r6_w7 r7_w7 qr_w7 t0_w7 t1_w7 t2_w7 t3_w7 t4_w7 t5_w7 t6_w7 t7_w7 qt_w7 D7
    obtain ⟨r0_w8, r1_w8, r2_w8, r3_w8, r4_w8, r5_w8, r6_w8, r7_w8⟩ := Hrw8
    have qr_w8 := lt_of_cell r0_w8
    obtain ⟨t0_w8, t1_w8, t2_w8, t3_w8, t4_w8, t5_w8, t6_w8, t7_w8⟩ := Htw8
    have qt_w8 := lt_of_cell t0_w8
    have hb1 := Bw1.out
    have hb2 := Bw2.out
    have b1 := hb1.size
    have b2 := hb2.size
    have hbD := hb2.trans (D8.mono hb2.size)
    go_wp2_with fail
    exact bodyPost_ret (v := .tuple #[tagV ⟨#[]⟩ ⟨#[]⟩ ⟨#[]⟩ none 0 0, errT 3]) (by simp [results, Tryz.results55, go_sem, r0_w8, r1_w8, r2_w8, r3_w8, World.cell?_setCell_same, World.cell?_setCell_other]) rfl ⟨.inr ⟨isTag_no1 HT.out HNE.out, rfl⟩, (by (repeat (first | with_reducible exact Below.refl _ _ | with_reducible refine bel_set ?_ ?_ | with_reducible refine bel_alloc ?_ ?_ | with_reducible refine Below.drew ?_ | with_reducible refine bel_drewN _ ?_ | with_reducible refine bel_call ?_ (by assumption) ?_)); all_goals (first | (simp; done) | omega | (simp; omega)))⟩
end Go.Proofs.YtnhlnhmjnnopaaaGreatDoor

/- tag.Parse: way 4. -/
namespace Go.Proofs.YtnhlnhmjnnopaaaGreatDoor
open Go.RowKit

set_option maxHeartbeats 4000000 in
set_option maxRecDepth 100000 in
theorem parse_way4 (s L x p y : ByteArray) (r : List ByteArray) (w : World) (hM : MaxL w) (hs : s.size ≤ 1000000000) (hL : lowerL s.data.toList = L.data.toList) (hps : Lib.splitB ⟨#[45]⟩ 0 (Lib.countB L ⟨#[45]⟩) L = x :: p :: y :: r) (hp : madeB lowB p.data.toList 4 4 = true) (hm : regionB (upperL y.data.toList) = false) :
    Calls Tryz.prog 55 #[.string s] w fun e w' => ParseOut s e w' ∧ Below w.heap.size w w' := by
  obtain ⟨hmade, hsz, hcnt⟩ := made_is hL hps
  have hLs : L.size = s.size := by rw [← tsize, ← tsize, ← hL]; unfold lowerL; simp
  have hp4 : p.size = 4 := by have := madeB_len hp; rw [tsize] at this; omega
  obtain ⟨u, hu⟩ : ∃ u : ByteArray, upperL (p.extract 0 1).data.toList = u.data.toList := ⟨⟨(upperL (p.extract 0 1).data.toList).toArray⟩, rfl⟩
  have huz : u.size = 1 := by rw [← tsize, ← hu, upper_len, Lib.extract_from_zero, List.length_take, tsize]; omega
  have hez : (p.extract 1 p.size).size ≤ 4 := by rw [ByteArray.size_extract]; omega
  have hez0 : (p.extract 0 1).size ≤ 9223372036854775807 := by rw [ByteArray.size_extract]; omega
  obtain ⟨sc, hsc, hcat⟩ := add_let u (p.extract 1 p.size) (by omega)
  have hsc2 : sc.data.toList = upperL (p.data.toList.take 1) ++ p.data.toList.drop 1 := by rw [hsc, ByteArray.data_append, Array.toList_append, ← hu, Lib.extract_from_zero, Lib.extract_to_end]
  have hscz : sc.size ≤ 1000000000 := by rw [← tsize, hsc2, List.length_append, upper_len, ← List.length_append, List.take_append_drop, tsize]; omega
  obtain ⟨g, hg⟩ : ∃ g : ByteArray, upperL y.data.toList = g.data.toList := ⟨⟨(upperL y.data.toList).toArray⟩, rfl⟩
  have hgz : g.size ≤ 1000000000 := by have h := hsz y (by simp); rw [← tsize, ← hg, upper_len, tsize]; omega
  rw [hg] at hm
  have hT : madeT s.data.toList = ⟨x.data.toList, sc.data.toList, [], listsOf (y :: r)⟩ := by
    rw [hmade]
    simp [listsOf, List.map_cons, List.map_nil, scrP, regP, if_pos hp, hsc2, hg, hm]
  have HT := Lib.hid hT
  have zx : x.size ≤ 1000000000 := by have := hsz x (by simp); omega
  have zp : p.size ≤ 1000000000 := by have := hsz p (by simp); omega
  have zy : y.size ≤ 1000000000 := by have := hsz y (by simp); omega
  have hrl : r.length ≤ 1000000000 := by simp at hcnt; omega
  have HZ : Hid (∀ v ∈ (y :: r), v.size ≤ 1000000000) := Lib.hid (fun v hv => by have := hsz v (List.mem_cons_of_mem _ (List.mem_cons_of_mem _ hv)); omega)
  have HPS := Lib.hid hps
  have HL := Lib.hid hL
  have HM := Lib.hid hM
  have HU := Lib.hid hu
  have HP := Lib.hid hp
  have HG := Lib.hid hg
  have HQ := Lib.hid hm
  clear hmade hsz hcnt hT hps hL hM hu hp hsc2 hg hm
  go_enter Tryz.func55, Tryz.ntmps55
  go_wp2_with fail
  refine (low_call s L HL.out (by omega) _).mono ?_
  rintro e w1 ⟨rfl, hb1⟩
  have Hrw1 : C4 w1 (w.heap.size) (.string ⟨#[]⟩) (.string ⟨#[]⟩) (.string ⟨#[]⟩) (.slice none 0 0) := C4.below ⟨by go_simp, by go_simp, by go_simp, by go_simp, by go_simp, by go_simp, by go_simp, by go_simp⟩ hb1
  have Bw1 := Lib.hid hb1
  obtain ⟨r0_w1, r1_w1, r2_w1, r3_w1, r4_w1, r5_w1, r6_w1, r7_w1⟩ := Hrw1
  have qr_w1 := lt_of_cell r0_w1
  have s1 : w.heap.size < w1.heap.size := qr_w1
  go_wp2_with fail
  refine (split_call L _ HPS.out _ (HM.out.below (((Below.refl _ _).alloc (Nat.le_refl _) _).trans (Bw1.out.mono (by simp)))) (by omega)).mono ?_
  rintro e w2 ⟨rfl, hcp, hb2⟩
  have HCP := Lib.hid hcp
  have c0_w2 : w2.cell? ⟨w1.heap.size, 0, none⟩ = some (.string x) := hcp 0 x rfl
  have c1_w2 : w2.cell? ⟨w1.heap.size, 1, none⟩ = some (.string p) := hcp 1 p rfl
  have c2_w2 : w2.cell? ⟨w1.heap.size, 2, none⟩ = some (.string y) := hcp 2 y rfl
  have Hrw2 : C4 w2 (w.heap.size) (.string ⟨#[]⟩) (.string ⟨#[]⟩) (.string ⟨#[]⟩) (.slice none 0 0) := C4.below ⟨by go_simp, by go_simp, by go_simp, by go_simp, by go_simp, by go_simp, by go_simp, by go_simp⟩ hb2
  have Bw2 := Lib.hid hb2
  clear hcp hb2 r0_w1 r1_w1 r2_w1 r3_w1 r4_w1 r5_w1 r6_w1 r7_w1 qr_w1
  obtain ⟨r0_w2, r1_w2, r2_w2, r3_w2, r4_w2, r5_w2, r6_w2, r7_w2⟩ := Hrw2
  have qr_w2 := lt_of_cell r0_w2
  have qc_w2 := lt_of_cell c0_w2
  simp only [List.length_cons, List.length_nil, Nat.zero_add]
  have l1 : (0 : Int) < (r.length : Int) + 2 := by omega
  have l2 : (0 : Int) < (r.length : Int) + 1 := by omega
  go_wp2_with fail
  refine (made_call p true HP.out (by omega) _).mono ?_
  rintro e w2x ⟨rfl, rfl⟩
  go_wp2_with fail
  have z1 : (1 : Int) ≤ (p.size : Int) := by omega
  refine wp_region_held_drew (S := fun w' => w'.cell? ⟨w1.heap.size, 1, none⟩ = some (.string p)) (by kernel_rfl) ?_ (fun hHeld => ?_)
  · (try dsimp only); go_simp
  refine wpAnyH_take (i := 0) (v := ?v1) rfl (by kernel_rfl) (by kernel_rfl) (by kernel_rfl) (fun _ _ _ h => h) (Or.inl ⟨rfl, ?hy1⟩) hHeld ?rest1
  case hy1 => (intro w hSw; (try dsimp only at hSw); go_simp; try with_reducible rfl)
  try simp only [Act.put, List.setIfInBounds_toArray, List.set_cons_zero, List.set_cons_succ, List.getElem_toArray, List.getElem_cons_zero, List.getElem_cons_succ]
  refine wpAnyH_take (i := 1) (v := ?v2) rfl (by kernel_rfl) (by kernel_rfl) (by kernel_rfl) (fun _ _ _ h => h) (Or.inl ⟨rfl, ?hy2⟩) hHeld ?rest2
  case hy2 => (intro w hSw; (try dsimp only at hSw); go_simp; try with_reducible rfl)
  try simp only [Act.put, List.setIfInBounds_toArray, List.set_cons_zero, List.set_cons_succ, List.getElem_toArray, List.getElem_cons_zero, List.getElem_cons_succ]
  refine wpAnyH_take (i := 2) (v := ?v3) rfl (by kernel_rfl) (by kernel_rfl) (by kernel_rfl) (fun _ _ _ h => h) (Or.inl ⟨rfl, ?hy3⟩) hHeld ?rest3
  case hy3 => (intro w hSw; (try dsimp only at hSw); go_simp; try with_reducible rfl)
  try simp only [Act.put, List.setIfInBounds_toArray, List.set_cons_zero, List.set_cons_succ, List.getElem_toArray, List.getElem_cons_zero, List.getElem_cons_succ]
  refine wpAnyH_take (i := 3) (v := ?v4) rfl (by kernel_rfl) (by kernel_rfl) (by kernel_rfl) (fun _ _ _ h => h) (Or.inl ⟨rfl, ?hy4⟩) hHeld ?rest4
  case hy4 => (intro w hSw; (try dsimp only at hSw); go_simp; try with_reducible rfl)
  try simp only [Act.put, List.setIfInBounds_toArray, List.set_cons_zero, List.set_cons_succ, List.getElem_toArray, List.getElem_cons_zero, List.getElem_cons_succ]
  refine wpAnyH_take (i := 5) (v := ?v5) rfl (by kernel_rfl) (by kernel_rfl) (by kernel_rfl) (fun _ _ _ h => h) (Or.inl ⟨rfl, ?hy5⟩) hHeld ?rest5
  case hy5 => (intro w hSw; (try dsimp only at hSw); go_simp; try with_reducible rfl)
  try simp only [Act.put, List.setIfInBounds_toArray, List.set_cons_zero, List.set_cons_succ, List.getElem_toArray, List.getElem_cons_zero, List.getElem_cons_succ]
  refine wpAnyH_take (i := 6) (v := ?v6) rfl (by kernel_rfl) (by kernel_rfl) (by kernel_rfl) (fun _ _ _ h => h) (Or.inl ⟨rfl, ?hy6⟩) hHeld ?rest6
  case hy6 => (intro w hSw; (try dsimp only at hSw); go_simp; try with_reducible rfl)
  try simp only [Act.put, List.setIfInBounds_toArray, List.set_cons_zero, List.set_cons_succ, List.getElem_toArray, List.getElem_cons_zero, List.getElem_cons_succ]
  refine wpAnyH_take (i := 7) (v := ?v7) rfl (by kernel_rfl) (by kernel_rfl) (by kernel_rfl) (fun _ _ _ h => h) (Or.inl ⟨rfl, ?hy7⟩) hHeld ?rest7
  case hy7 => (intro w hSw; (try dsimp only at hSw); go_simp; try with_reducible rfl)
  try simp only [Act.put, List.setIfInBounds_toArray, List.set_cons_zero, List.set_cons_succ, List.getElem_toArray, List.getElem_cons_zero, List.getElem_cons_succ]
  refine wpAnyH_take (i := 8) (v := ?v8) rfl (by kernel_rfl) (by kernel_rfl) (by kernel_rfl) (fun _ _ _ h => h) (Or.inl ⟨rfl, ?hy8⟩) hHeld ?rest8
  case hy8 => (intro w hSw; (try dsimp only at hSw); go_simp; try with_reducible rfl)
  try simp only [Act.put, List.setIfInBounds_toArray, List.set_cons_zero, List.set_cons_succ, List.getElem_toArray, List.getElem_cons_zero, List.getElem_cons_succ]
  refine wpAnyH_ready (rs := [4]) (by kernel_rfl) (by simp) (AllReadyH.cons rfl (fun K hK => ?_) AllReadyH.nil)
  go_simp
  go_at_call 83; refine (up_call (p.extract 0 1) u HU.out hez0 _).mono ?_; rintro e w3 ⟨rfl, hb3⟩
  try dsimp only
  refine hK.out _ _ (carry hb3 (by go_simp)) (fun hNew => ?_)
  have B3 : Below w2.heap.size w2 w3 := Below.trans ((Below.refl w2.heap.size w2).alloc (Nat.le_refl _) (.cells #[.string x, .string ⟨#[]⟩, .string ⟨#[]⟩, .slice none 0 0] 105)).drew (hb3.mono (show w2.heap.size ≤ _ by simp))
  have Bw3 := Lib.hid B3
  have Hrw3 : C4 w3 (w.heap.size) (.string ⟨#[]⟩) (.string ⟨#[]⟩) (.string ⟨#[]⟩) (.slice none 0 0) := C4.below ⟨by go_simp, by go_simp, by go_simp, by go_simp, by go_simp, by go_simp, by go_simp, by go_simp⟩ hb3
  have Htw3 : C4 w3 (w2.heap.size) (.string x) (.string ⟨#[]⟩) (.string ⟨#[]⟩) (.slice none 0 0) := C4.below ⟨by go_simp, by go_simp, by go_simp, by go_simp, by go_simp, by go_simp, by go_simp, by go_simp⟩ hb3
  clear hK K hHeld hb3 B3
  have hHeld := hNew
  clear hNew r0_w2 r1_w2 r2_w2 r3_w2 r4_w2 r5_w2 r6_w2 r7_w2
  obtain ⟨r0_w3, r1_w3, r2_w3, r3_w3, r4_w3, r5_w3, r6_w3, r7_w3⟩ := Hrw3
  obtain ⟨t0_w3, t1_w3, t2_w3, t3_w3, t4_w3, t5_w3, t6_w3, t7_w3⟩ := Htw3
  have qr_w3 := lt_of_cell r0_w3
  have qt_w3 := lt_of_cell t0_w3
  try simp only [Act.put, List.setIfInBounds_toArray, List.set_cons_zero, List.set_cons_succ, List.getElem_toArray, List.getElem_cons_zero, List.getElem_cons_succ]
  refine wpAnyH_take (i := 9) (v := ?v9) rfl (by kernel_rfl) (by kernel_rfl) (by kernel_rfl) (fun _ _ _ h => h) (Or.inl ⟨rfl, ?hy9⟩) hHeld ?rest9
  case hy9 => (intro w hSw; (try dsimp only at hSw); go_simp; try with_reducible rfl)
  try simp only [Act.put, List.setIfInBounds_toArray, List.set_cons_zero, List.set_cons_succ, List.getElem_toArray, List.getElem_cons_zero, List.getElem_cons_succ]
  refine wpAnyH_take (i := 10) (v := ?v10) rfl (by kernel_rfl) (by kernel_rfl) (by kernel_rfl) (fun _ _ _ h => h) (Or.inl ⟨rfl, ?hy10⟩) hHeld ?rest10
  case hy10 => (intro w hSw; (try dsimp only at hSw); go_simp; try with_reducible rfl)
  try simp only [Act.put, List.setIfInBounds_toArray, List.set_cons_zero, List.set_cons_succ, List.getElem_toArray, List.getElem_cons_zero, List.getElem_cons_succ]
  refine wpAnyH_ready (rs := [11]) (by kernel_rfl) (by simp) (AllReadyH.cons rfl (fun K hK => ?_) AllReadyH.nil)
  go_simp
  have hsc4 : u ++ p.extract 1 4 = sc := by rw [hsc, hp4]
  rw [hsc4]
  refine hK.out _ _ (cell_other hHeld (by intro e; injection e with e1; omega)) (fun hNew => ?_)
  clear hK K hHeld hNew hsc4
  refine wpAnyH_done (by kernel_rfl) ?_ _
  have Hrw4 : C4 (w3.setCell ⟨w2.heap.size, 1, none⟩ (.string sc)) (w.heap.size) (.string ⟨#[]⟩) (.string ⟨#[]⟩) (.string ⟨#[]⟩) (.slice none 0 0) := ⟨by go_simp, by go_simp, by go_simp, by go_simp, by go_simp, by go_simp, by go_simp, by go_simp⟩
  have Htw4 : C4 (w3.setCell ⟨w2.heap.size, 1, none⟩ (.string sc)) (w2.heap.size) (.string x) (.string sc) (.string ⟨#[]⟩) (.slice none 0 0) := ⟨by go_simp, by go_simp, by go_simp, by go_simp, by go_simp, by go_simp, by go_simp, by go_simp⟩
  have D4 : Below w2.heap.size w2 (w3.setCell ⟨w2.heap.size, 1, none⟩ (.string sc)) := bel_set Bw3.out (Nat.le_refl _)
  have hq4 : w2.heap.size < (w3.setCell ⟨w2.heap.size, 1, none⟩ (.string sc)).heap.size := lt_of_cell Htw4.c0
  clear r0_w3 r1_w3 r2_w3 r3_w3 r4_w3 r5_w3 r6_w3 r7_w3 t0_w3 t1_w3 t2_w3 t3_w3 t4_w3 t5_w3 t6_w3 t7_w3 qr_w3 qt_w3 Bw3 hcat huz hez hez0 hsc hp4 z1
  generalize (w3.setCell ⟨w2.heap.size, 1, none⟩ (.string sc)) = w4 at *
  have c2_w4 : w4.cell? ⟨w1.heap.size, 2, none⟩ = some (.string y) := carry D4 c2_w2
  clear c0_w2 c1_w2 c2_w2 qr_w2
  obtain ⟨r0_w4, r1_w4, r2_w4, r3_w4, r4_w4, r5_w4, r6_w4, r7_w4⟩ := Hrw4
  have qr_w4 := lt_of_cell r0_w4
  obtain ⟨t0_w4, t1_w4, t2_w4, t3_w4, t4_w4, t5_w4, t6_w4, t7_w4⟩ := Htw4
  have qt_w4 := lt_of_cell t0_w4
  go_wp2_with fail
  refine (up_call y g HG.out (by omega) _).mono ?_
  rintro e w5 ⟨rfl, hb⟩
  have Hrw5 : C4 w5 (w.heap.size) (.string ⟨#[]⟩) (.string ⟨#[]⟩) (.string ⟨#[]⟩) (.slice none 0 0) := C4.below ⟨by go_simp, by go_simp, by go_simp, by go_simp, by go_simp, by go_simp, by go_simp, by go_simp⟩ hb
  have Htw5 : C4 w5 (w2.heap.size) (.string x) (.string sc) (.string ⟨#[]⟩) (.slice none 0 0) := C4.below ⟨by go_simp, by go_simp, by go_simp, by go_simp, by go_simp, by go_simp, by go_simp, by go_simp⟩ hb
  have c2_w5 : w5.cell? ⟨w1.heap.size, 2, none⟩ = some (.string y) := carry hb (by go_simp)
  have D5 : Below w2.heap.size w2 w5 := (by (repeat (first | with_reducible exact Below.refl _ _ | with_reducible refine bel_set ?_ ?_ | with_reducible refine bel_alloc ?_ ?_ | with_reducible refine Below.drew ?_ | with_reducible refine bel_drewN _ ?_ | with_reducible refine bel_call ?_ (by assumption) ?_)); all_goals (first | (simp; done) | omega | (simp; omega)))
  clear hb c2_w4 r0_w4 r1_w4 r2_w4 r3_w4 r4_w4 r5_w4 r6_w4 r7_w4 qr_w4 t0_w4 t1_w4 t2_w4 t3_w4 t4_w4 t5_w4 t6_w4 t7_w4 qt_w4 D4 hq4
  obtain ⟨r0_w5, r1_w5, r2_w5, r3_w5, r4_w5, r5_w5, r6_w5, r7_w5⟩ := Hrw5
  have qr_w5 := lt_of_cell r0_w5
  obtain ⟨t0_w5, t1_w5, t2_w5, t3_w5, t4_w5, t5_w5, t6_w5, t7_w5⟩ := Htw5
  have qt_w5 := lt_of_cell t0_w5
  go_wp2_with fail
  refine (reg_call g false HQ.out (by omega) _).mono ?_
  rintro e wx ⟨rfl, rfl⟩
  go_wp2_with fail
  have DC : Below w2.heap.size w2 w5 := (by (repeat (first | with_reducible exact Below.refl _ _ | with_reducible refine bel_set ?_ ?_ | with_reducible refine bel_alloc ?_ ?_ | with_reducible refine Below.drew ?_ | with_reducible refine bel_drewN _ ?_ | with_reducible refine bel_call ?_ (by assumption) ?_)); all_goals (first | (simp; done) | omega | (simp; omega)))
  have SC : w2.heap.size < w5.heap.size := by simpa using qt_w5
  have HCL : Hid (∀ (j : Nat) z, (y :: r)[j]? = some z → w5.cell? ⟨w1.heap.size, 2 + j, none⟩ = some (.string z)) := Lib.hid (fun j z hz => carry DC (HCP.out (2 + j) z (by rw [Nat.add_comm]; exact hz)))
  clear DC
  refine (clone_call w1.heap.size 2 _ _ (y :: r) _ rfl (by first | (simp; done) | (simp; omega)) HCL.out).mono ?_
  rintro e w6 ⟨⟨A, kc, rfl, ho⟩, hb⟩
  have Hrw6 : C4 w6 (w.heap.size) (.string ⟨#[]⟩) (.string ⟨#[]⟩) (.string ⟨#[]⟩) (.slice none 0 0) := C4.below ⟨by go_simp, by go_simp, by go_simp, by go_simp, by go_simp, by go_simp, by go_simp, by go_simp⟩ hb
  have Htw6 : C4 w6 (w2.heap.size) (.string x) (.string sc) (.string ⟨#[]⟩) (.slice none 0 0) := C4.below ⟨by go_simp, by go_simp, by go_simp, by go_simp, by go_simp, by go_simp, by go_simp, by go_simp⟩ hb
  have D6 : Below w2.heap.size w2 w6 := (by (repeat (first | with_reducible exact Below.refl _ _ | with_reducible refine bel_set ?_ ?_ | with_reducible refine bel_alloc ?_ ?_ | with_reducible refine Below.drew ?_ | with_reducible refine bel_drewN _ ?_ | with_reducible refine bel_call ?_ (by assumption) ?_)); all_goals (first | (simp; done) | omega | (simp; omega)))
  obtain ⟨bz, hbz⟩ : ∃ b, b = w5.heap.size := ⟨_, rfl⟩
  rw [← hbz] at ho SC
  obtain ⟨hkc, hA⟩ := ho.caps
  have HST := Lib.hid (ho.set w2.heap.size 3 (.slice A (r.length + 1) kc) SC)
  have HA := Lib.hid hA
  have HKC := Lib.hid hkc
  have HSC := Lib.hid SC
  clear hb SC HCL ho hbz hA c2_w5 r0_w5 r1_w5 r2_w5 r3_w5 r4_w5 r5_w5 r6_w5 r7_w5 qr_w5 t0_w5 t1_w5 t2_w5 t3_w5 t4_w5 t5_w5 t6_w5 t7_w5 qt_w5 D5
  obtain ⟨r0_w6, r1_w6, r2_w6, r3_w6, r4_w6, r5_w6, r6_w6, r7_w6⟩ := Hrw6
  have qr_w6 := lt_of_cell r0_w6
  obtain ⟨t0_w6, t1_w6, t2_w6, t3_w6, t4_w6, t5_w6, t6_w6, t7_w6⟩ := Htw6
  have qt_w6 := lt_of_cell t0_w6
  have lz : ((r.length : Int) + 1 == 0) = false := by rw [beq_eq_false_iff_ne]; omega
  go_wp2_with fail
  obtain ⟨E, hE⟩ : ∃ E, E = tagErr x.data.toList sc.data.toList (⟨#[]⟩ : ByteArray).data.toList (listsOf (y :: r)) := ⟨_, rfl⟩
  have KC := Lib.hid (tag_check x sc ⟨#[]⟩ A kc (y :: r) (w6.setCell ⟨w2.heap.size, 3, none⟩ (.slice A (r.length + 1) kc)) (by omega) (by omega) (by decide) HST.out.strs (by simp; omega) hkc (fun v hv => by have := HZ.out v hv; omega))
  rw [← hE] at KC
  have HE := Lib.hid hE
  clear hE hkc
  by_cases h0 : E = 0
  · subst h0
    have E0 : errOf 0 = .nilIface := rfl
    rw [E0] at KC
    refine (KC.out).mono ?_
    rintro e w7 ⟨rfl, hb⟩
    have Hrw7 : C4 w7 (w.heap.size) (.string ⟨#[]⟩) (.string ⟨#[]⟩) (.string ⟨#[]⟩) (.slice none 0 0) := C4.below ⟨by go_simp, by go_simp, by go_simp, by go_simp, by go_simp, by go_simp, by go_simp, by go_simp⟩ hb
    have Htw7 : C4 w7 (w2.heap.size) (.string x) (.string sc) (.string ⟨#[]⟩) (.slice A (r.length + 1) kc) := C4.below ⟨by go_simp, by go_simp, by go_simp, by go_simp, by go_simp, by go_simp, by go_simp, by go_simp⟩ hb
    have D7 : Below w2.heap.size w2 w7 := (by (repeat (first | with_reducible exact Below.refl _ _ | with_reducible refine bel_set ?_ ?_ | with_reducible refine bel_alloc ?_ ?_ | with_reducible refine Below.drew ?_ | with_reducible refine bel_drewN _ ?_ | with_reducible refine bel_call ?_ (by assumption) ?_)); all_goals (first | (simp; done) | omega | (simp; omega)))
    have hbk := Lib.hid hb
    clear hb r0_w6 r1_w6 r2_w6 r3_w6 r4_w6 r5_w6 r6_w6 r7_w6 qr_w6 t0_w6 t1_w6 t2_w6 t3_w6 t4_w6 t5_w6 t6_w6 t7_w6 qt_w6 D6 E0
    obtain ⟨r0_w7, r1_w7, r2_w7, r3_w7, r4_w7, r5_w7, r6_w7, r7_w7⟩ := Hrw7
    have qr_w7 := lt_of_cell r0_w7
    obtain ⟨t0_w7, t1_w7, t2_w7, t3_w7, t4_w7, t5_w7, t6_w7, t7_w7⟩ := Htw7
    have qt_w7 := lt_of_cell t0_w7
    have he0 := HE.out.symm
    have hlt := text_len he0
    obtain ⟨t, ht⟩ : ∃ t : ByteArray, t = ⟨(tagText x.data.toList sc.data.toList (⟨#[]⟩ : ByteArray).data.toList (listsOf (y :: r))).toArray⟩ := ⟨_, rfl⟩
    have htz : t.size ≤ 100 := by rw [← tsize, ht]; exact hlt
    have HST2 := Lib.hid (HST.out.below hbk.out)
    have KT := Lib.hid (tag_text x sc ⟨#[]⟩ A kc (y :: r) w7 HST2.out.strs HA.out he0)
    rw [← ht] at KT
    obtain ⟨m, hm⟩ : ∃ m : ByteArray, lowerL t.data.toList = m.data.toList := ⟨⟨(lowerL t.data.toList).toArray⟩, rfl⟩
    have HMM := Lib.hid hm
    have HTT := Lib.hid ht
    clear hm ht hlt he0
    go_wp2_with fail
    clear hbk
    refine (KT.out).mono ?_
    rintro e w8 ⟨rfl, hb⟩
    have Hrw8 : C4 w8 (w.heap.size) (.string ⟨#[]⟩) (.string ⟨#[]⟩) (.string ⟨#[]⟩) (.slice none 0 0) := C4.below ⟨by go_simp, by go_simp, by go_simp, by go_simp, by go_simp, by go_simp, by go_simp, by go_simp⟩ hb
    have Htw8 : C4 w8 (w2.heap.size) (.string x) (.string sc) (.string ⟨#[]⟩) (.slice A (r.length + 1) kc) := C4.below ⟨by go_simp, by go_simp, by go_simp, by go_simp, by go_simp, by go_simp, by go_simp, by go_simp⟩ hb
    have D8 : Below w2.heap.size w2 w8 := (by (repeat (first | with_reducible exact Below.refl _ _ | with_reducible refine bel_set ?_ ?_ | with_reducible refine bel_alloc ?_ ?_ | with_reducible refine Below.drew ?_ | with_reducible refine bel_drewN _ ?_ | with_reducible refine bel_call ?_ (by assumption) ?_)); all_goals (first | (simp; done) | omega | (simp; omega)))
    have hbk := Lib.hid hb
    clear hb r0_w7 r1_w7 r2_w7 r3_w7 r4_w7 r5_w7 r6_w7 r7_w7 qr_w7 t0_w7 t1_w7 t2_w7 t3_w7 t4_w7 t5_w7 t6_w7 t7_w7 qt_w7 D7
    obtain ⟨r0_w8, r1_w8, r2_w8, r3_w8, r4_w8, r5_w8, r6_w8, r7_w8⟩ := Hrw8
    have qr_w8 := lt_of_cell r0_w8
    obtain ⟨t0_w8, t1_w8, t2_w8, t3_w8, t4_w8, t5_w8, t6_w8, t7_w8⟩ := Htw8
    have qt_w8 := lt_of_cell t0_w8
    have HST3 := Lib.hid (HST2.out.below hbk.out)
    clear hbk
    go_wp2_with fail
    refine (low_call t m HMM.out (by omega) _).mono ?_
    rintro e w9 ⟨rfl, hb⟩
    have Hrw9 : C4 w9 (w.heap.size) (.string ⟨#[]⟩) (.string ⟨#[]⟩) (.string ⟨#[]⟩) (.slice none 0 0) := C4.below ⟨by go_simp, by go_simp, by go_simp, by go_simp, by go_simp, by go_simp, by go_simp, by go_simp⟩ hb
    have Htw9 : C4 w9 (w2.heap.size) (.string x) (.string sc) (.string ⟨#[]⟩) (.slice A (r.length + 1) kc) := C4.below ⟨by go_simp, by go_simp, by go_simp, by go_simp, by go_simp, by go_simp, by go_simp, by go_simp⟩ hb
    have D9 : Below w2.heap.size w2 w9 := (by (repeat (first | with_reducible exact Below.refl _ _ | with_reducible refine bel_set ?_ ?_ | with_reducible refine bel_alloc ?_ ?_ | with_reducible refine Below.drew ?_ | with_reducible refine bel_drewN _ ?_ | with_reducible refine bel_call ?_ (by assumption) ?_)); all_goals (first | (simp; done) | omega | (simp; omega)))
    have hbk := Lib.hid hb
    clear hb r0_w8 r1_w8 r2_w8 r3_w8 r4_w8 r5_w8 r6_w8 r7_w8 qr_w8 t0_w8 t1_w8 t2_w8 t3_w8 t4_w8 t5_w8 t6_w8 t7_w8 qt_w8 D8
    obtain ⟨r0_w9, r1_w9, r2_w9, r3_w9, r4_w9, r5_w9, r6_w9, r7_w9⟩ := Hrw9
    have qr_w9 := lt_of_cell r0_w9
    obtain ⟨t0_w9, t1_w9, t2_w9, t3_w9, t4_w9, t5_w9, t6_w9, t7_w9⟩ := Htw9
    have qt_w9 := lt_of_cell t0_w9
    have HST4 := Lib.hid (HST3.out.below hbk.out)
    clear hbk
    go_wp2_with fail
    refine (low_call s L HL.out (by omega) _).mono ?_
    rintro e w10 ⟨rfl, hb⟩
    have Hrw10 : C4 w10 (w.heap.size) (.string ⟨#[]⟩) (.string ⟨#[]⟩) (.string ⟨#[]⟩) (.slice none 0 0) := C4.below ⟨by go_simp, by go_simp, by go_simp, by go_simp, by go_simp, by go_simp, by go_simp, by go_simp⟩ hb
    have Htw10 : C4 w10 (w2.heap.size) (.string x) (.string sc) (.string ⟨#[]⟩) (.slice A (r.length + 1) kc) := C4.below ⟨by go_simp, by go_simp, by go_simp, by go_simp, by go_simp, by go_simp, by go_simp, by go_simp⟩ hb
    have D10 : Below w2.heap.size w2 w10 := (by (repeat (first | with_reducible exact Below.refl _ _ | with_reducible refine bel_set ?_ ?_ | with_reducible refine bel_alloc ?_ ?_ | with_reducible refine Below.drew ?_ | with_reducible refine bel_drewN _ ?_ | with_reducible refine bel_call ?_ (by assumption) ?_)); all_goals (first | (simp; done) | omega | (simp; omega)))
    have hbk := Lib.hid hb
    clear hb r0_w9 r1_w9 r2_w9 r3_w9 r4_w9 r5_w9 r6_w9 r7_w9 qr_w9 t0_w9 t1_w9 t2_w9 t3_w9 t4_w9 t5_w9 t6_w9 t7_w9 qt_w9 D9
    obtain ⟨r0_w10, r1_w10, r2_w10, r3_w10, r4_w10, r5_w10, r6_w10, r7_w10⟩ := Hrw10
    have qr_w10 := lt_of_cell r0_w10
    obtain ⟨t0_w10, t1_w10, t2_w10, t3_w10, t4_w10, t5_w10, t6_w10, t7_w10⟩ := Htw10
    have qt_w10 := lt_of_cell t0_w10
    have HST5 := Lib.hid (HST4.out.below hbk.out)
    clear hbk
    have hb1 := Bw1.out
    have hb2 := Bw2.out
    have b1 := hb1.size
    have b2 := hb2.size
    have hbD := hb2.trans (D10.mono hb2.size)
    cases hq : (m.toList == L.toList)
    · have hne : lowerL (tagText x.data.toList sc.data.toList (⟨#[]⟩ : ByteArray).data.toList (listsOf (y :: r))) ≠ lowerL s.data.toList := fun h => by
        have h2 := HMM.out
        rw [HTT.out] at h2
        rw [h2, HL.out] at h
        rw [Lib.toList_data, Lib.toList_data, h] at hq
        simp at hq
      have HNE := Lib.hid hne
      clear hne
      have hq2 : (m.toList != L.toList) = true := by rw [bne, hq]; rfl
      go_wp2_with fail
      exact bodyPost_ret (v := .tuple #[tagV ⟨#[]⟩ ⟨#[]⟩ ⟨#[]⟩ none 0 0, errT 3]) (by simp [results, Tryz.results55, go_sem, r0_w10, r1_w10, r2_w10, r3_w10, World.cell?_setCell_same, World.cell?_setCell_other]) rfl ⟨.inr ⟨isTag_no2 HT.out HNE.out, rfl⟩, (by (repeat (first | with_reducible exact Below.refl _ _ | with_reducible refine bel_set ?_ ?_ | with_reducible refine bel_alloc ?_ ?_ | with_reducible refine Below.drew ?_ | with_reducible refine bel_drewN _ ?_ | with_reducible refine bel_call ?_ (by assumption) ?_)); all_goals (first | (simp; done) | omega | (simp; omega)))⟩
    · have hyes : isTag s.data.toList = true := isTag_yes HT.out HE.out.symm (by
        have h2 := HMM.out
        rw [HTT.out] at h2
        have h3 := eq_of_beq hq
        rw [Lib.toList_data, Lib.toList_data] at h3
        rw [HL.out, ← h3]
        exact h2)
      have HYES := Lib.hid hyes
      clear hyes
      have hq2 : m.toList = L.toList := by simpa using hq
      go_wp2_with fail
      refine bodyPost_ret (v := .tuple #[tagV x sc ⟨#[]⟩ A (y :: r).length kc, .nilIface]) (by simp [results, Tryz.results55, go_sem, r0_w10, r1_w10, r2_w10, r3_w10, World.cell?_setCell_same, World.cell?_setCell_other]) rfl ⟨.inl ⟨HYES.out, x, sc, ⟨#[]⟩, A, kc, (y :: r), rfl, HT.out, ?_, ?_, ?_⟩, (by (repeat (first | with_reducible exact Below.refl _ _ | with_reducible refine bel_set ?_ ?_ | with_reducible refine bel_alloc ?_ ?_ | with_reducible refine Below.drew ?_ | with_reducible refine bel_drewN _ ?_ | with_reducible refine bel_call ?_ (by assumption) ?_)); all_goals (first | (simp; done) | omega | (simp; omega)))⟩
      · have hl : w.heap.size < bz := by have := HSC.out; omega
        exact ((((HST5.out.set _ _ _ hl).set _ _ _ hl).set _ _ _ hl).set _ _ _ hl).strs
      · exact HKC.out
      · exact HA.out
  · have E0 : errOf E = errT E := if_neg h0
    rw [E0] at KC
    have HNE : Hid (tagErr x.data.toList sc.data.toList (⟨#[]⟩ : ByteArray).data.toList (listsOf (y :: r)) ≠ 0) := Lib.hid (fun h => h0 (HE.out.trans h))
    clear h0 E0 HE
    refine (KC.out).mono ?_
    rintro e w7 ⟨rfl, hb⟩
    have Hrw7 : C4 w7 (w.heap.size) (.string ⟨#[]⟩) (.string ⟨#[]⟩) (.string ⟨#[]⟩) (.slice none 0 0) := C4.below ⟨by go_simp, by go_simp, by go_simp, by go_simp, by go_simp, by go_simp, by go_simp, by go_simp⟩ hb
    have Htw7 : C4 w7 (w2.heap.size) (.string x) (.string sc) (.string ⟨#[]⟩) (.slice A (r.length + 1) kc) := C4.below ⟨by go_simp, by go_simp, by go_simp, by go_simp, by go_simp, by go_simp, by go_simp, by go_simp⟩ hb
    have D7 : Below w2.heap.size w2 w7 := (by (repeat (first | with_reducible exact Below.refl _ _ | with_reducible refine bel_set ?_ ?_ | with_reducible refine bel_alloc ?_ ?_ | with_reducible refine Below.drew ?_ | with_reducible refine bel_drewN _ ?_ | with_reducible refine bel_call ?_ (by assumption) ?_)); all_goals (first | (simp; done) | omega | (simp; omega)))
    clear hb r0_w6 r1_w6 r2_w6 r3_w6 r4_w6 r5_w6 r6_w6 r7_w6 qr_w6 t0_w6 t1_w6 t2_w6 t3_w6 t4_w6 t5_w6 t6_w6 t7_w6 qt_w6 D6
    obtain ⟨r0_w7, r1_w7, r2_w7, r3_w7, r4_w7, r5_w7, r6_w7, r7_w7⟩ := Hrw7
    have qr_w7 := lt_of_cell r0_w7
    obtain ⟨t0_w7, t1_w7, t2_w7, t3_w7, t4_w7, t5_w7, t6_w7, t7_w7⟩ := Htw7
    have qt_w7 := lt_of_cell t0_w7
    have hb1 := Bw1.out
    have hb2 := Bw2.out
    have b1 := hb1.size
    have b2 := hb2.size
    have hbD := hb2.trans (D7.mono hb2.size)
    go_wp2_with fail
    exact bodyPost_ret (v := .tuple #[tagV ⟨#[]⟩ ⟨#[]⟩ ⟨#[]⟩ none 0 0, errT 3]) (by simp [results, Tryz.results55, go_sem, r0_w7, r1_w7, r2_w7, r3_w7, World.cell?_setCell_same, World.cell?_setCell_other]) rfl ⟨.inr ⟨isTag_no1 HT.out HNE.out, rfl⟩, (by (repeat (first | with_reducible exact Below.refl _ _ | with_reducible refine bel_set ?_ ?_ | with_reducible refine bel_alloc ?_ ?_ | with_reducible refine Below.drew ?_ | with_reducible refine bel_drewN _ ?_ | with_reducible refine bel_call ?_ (by assumption) ?_)); all_goals (first | (simp; done) | omega | (simp; omega)))⟩
end Go.Proofs.YtnhlnhmjnnopaaaGreatDoor

/- tag.Parse: way 5. -/
namespace Go.Proofs.YtnhlnhmjnnopaaaGreatDoor
open Go.RowKit

set_option maxHeartbeats 4000000 in
set_option maxRecDepth 100000 in
theorem parse_way5 (s L x q : ByteArray) (w : World) (hM : MaxL w) (hs : s.size ≤ 1000000000) (hL : lowerL s.data.toList = L.data.toList) (hps : Lib.splitB ⟨#[45]⟩ 0 (Lib.countB L ⟨#[45]⟩) L = x :: q :: []) (hn : madeB lowB q.data.toList 4 4 = false) (hq : regionB (upperL q.data.toList) = true) :
    Calls Tryz.prog 55 #[.string s] w fun e w' => ParseOut s e w' ∧ Below w.heap.size w w' := by
  obtain ⟨hmade, hsz, hcnt⟩ := made_is hL hps
  have hLs : L.size = s.size := by rw [← tsize, ← tsize, ← hL]; unfold lowerL; simp
  obtain ⟨g, hg⟩ : ∃ g : ByteArray, upperL q.data.toList = g.data.toList := ⟨⟨(upperL q.data.toList).toArray⟩, rfl⟩
  have hgz : g.size ≤ 1000000000 := by have h := hsz q (by simp); rw [← tsize, ← hg, upper_len, tsize]; omega
  rw [hg] at hq
  have hT : madeT s.data.toList = ⟨x.data.toList, [], g.data.toList, listsOf []⟩ := by
    rw [hmade]
    simp [listsOf, List.map_cons, List.map_nil, scrP, regP, hn, hg, if_pos hq]
  have HT := Lib.hid hT
  have zx : x.size ≤ 1000000000 := by have := hsz x (by simp); omega
  have zq : q.size ≤ 1000000000 := by have := hsz q (by simp); omega
  have HPS := Lib.hid hps
  have HL := Lib.hid hL
  have HM := Lib.hid hM
  have HN := Lib.hid hn
  have HG := Lib.hid hg
  have HQ := Lib.hid hq
  clear hmade hsz hcnt hT hps hL hM hn hg hq
  go_enter Tryz.func55, Tryz.ntmps55
  go_wp2_with fail
  refine (low_call s L HL.out (by omega) _).mono ?_
  rintro e w1 ⟨rfl, hb1⟩
  have Hrw1 : C4 w1 (w.heap.size) (.string ⟨#[]⟩) (.string ⟨#[]⟩) (.string ⟨#[]⟩) (.slice none 0 0) := C4.below ⟨by go_simp, by go_simp, by go_simp, by go_simp, by go_simp, by go_simp, by go_simp, by go_simp⟩ hb1
  have Bw1 := Lib.hid hb1
  obtain ⟨r0_w1, r1_w1, r2_w1, r3_w1, r4_w1, r5_w1, r6_w1, r7_w1⟩ := Hrw1
  have qr_w1 := lt_of_cell r0_w1
  have s1 : w.heap.size < w1.heap.size := qr_w1
  go_wp2_with fail
  refine (split_call L _ HPS.out _ (HM.out.below (((Below.refl _ _).alloc (Nat.le_refl _) _).trans (Bw1.out.mono (by simp)))) (by omega)).mono ?_
  rintro e w2 ⟨rfl, hcp, hb2⟩
  have HCP := Lib.hid hcp
  have c0_w2 : w2.cell? ⟨w1.heap.size, 0, none⟩ = some (.string x) := hcp 0 x rfl
  have c1_w2 : w2.cell? ⟨w1.heap.size, 1, none⟩ = some (.string q) := hcp 1 q rfl
  have Hrw2 : C4 w2 (w.heap.size) (.string ⟨#[]⟩) (.string ⟨#[]⟩) (.string ⟨#[]⟩) (.slice none 0 0) := C4.below ⟨by go_simp, by go_simp, by go_simp, by go_simp, by go_simp, by go_simp, by go_simp, by go_simp⟩ hb2
  have Bw2 := Lib.hid hb2
  clear hcp hb2 r0_w1 r1_w1 r2_w1 r3_w1 r4_w1 r5_w1 r6_w1 r7_w1 qr_w1
  obtain ⟨r0_w2, r1_w2, r2_w2, r3_w2, r4_w2, r5_w2, r6_w2, r7_w2⟩ := Hrw2
  have qr_w2 := lt_of_cell r0_w2
  have qc_w2 := lt_of_cell c0_w2
  simp only [List.length_cons, List.length_nil, Nat.zero_add]
  go_wp2_with fail
  refine (made_call q false HN.out (by omega) _).mono ?_
  rintro e w2x ⟨rfl, rfl⟩
  go_wp2_with fail
  refine (up_call q g HG.out (by omega) _).mono ?_
  rintro e w5 ⟨rfl, hb⟩
  have Hrw5 : C4 w5 (w.heap.size) (.string ⟨#[]⟩) (.string ⟨#[]⟩) (.string ⟨#[]⟩) (.slice none 0 0) := C4.below ⟨by go_simp, by go_simp, by go_simp, by go_simp, by go_simp, by go_simp, by go_simp, by go_simp⟩ hb
  have Htw5 : C4 w5 (w2.heap.size) (.string x) (.string ⟨#[]⟩) (.string ⟨#[]⟩) (.slice none 0 0) := C4.below ⟨by go_simp, by go_simp, by go_simp, by go_simp, by go_simp, by go_simp, by go_simp, by go_simp⟩ hb
  have c1_w5 : w5.cell? ⟨w1.heap.size, 1, none⟩ = some (.string q) := carry hb (by go_simp)
  have D5 : Below w2.heap.size w2 w5 := (by (repeat (first | with_reducible exact Below.refl _ _ | with_reducible refine bel_set ?_ ?_ | with_reducible refine bel_alloc ?_ ?_ | with_reducible refine Below.drew ?_ | with_reducible refine bel_drewN _ ?_ | with_reducible refine bel_call ?_ (by assumption) ?_)); all_goals (first | (simp; done) | omega | (simp; omega)))
  clear hb r0_w2 r1_w2 r2_w2 r3_w2 r4_w2 r5_w2 r6_w2 r7_w2 qr_w2 c0_w2 c1_w2
  obtain ⟨r0_w5, r1_w5, r2_w5, r3_w5, r4_w5, r5_w5, r6_w5, r7_w5⟩ := Hrw5
  have qr_w5 := lt_of_cell r0_w5
  obtain ⟨t0_w5, t1_w5, t2_w5, t3_w5, t4_w5, t5_w5, t6_w5, t7_w5⟩ := Htw5
  have qt_w5 := lt_of_cell t0_w5
  go_wp2_with fail
  refine (reg_call g true HQ.out (by omega) _).mono ?_
  rintro e wx ⟨rfl, rfl⟩
  go_wp2_with fail
  refine (up_call q g HG.out (by omega) _).mono ?_
  rintro e w6 ⟨rfl, hb⟩
  have Hrw6 : C4 w6 (w.heap.size) (.string ⟨#[]⟩) (.string ⟨#[]⟩) (.string ⟨#[]⟩) (.slice none 0 0) := C4.below ⟨by go_simp, by go_simp, by go_simp, by go_simp, by go_simp, by go_simp, by go_simp, by go_simp⟩ hb
  have Htw6 : C4 w6 (w2.heap.size) (.string x) (.string ⟨#[]⟩) (.string ⟨#[]⟩) (.slice none 0 0) := C4.below ⟨by go_simp, by go_simp, by go_simp, by go_simp, by go_simp, by go_simp, by go_simp, by go_simp⟩ hb
  have c1_w6 : w6.cell? ⟨w1.heap.size, 1, none⟩ = some (.string q) := carry hb (by go_simp)
  have D6 : Below w2.heap.size w2 w6 := (by (repeat (first | with_reducible exact Below.refl _ _ | with_reducible refine bel_set ?_ ?_ | with_reducible refine bel_alloc ?_ ?_ | with_reducible refine Below.drew ?_ | with_reducible refine bel_drewN _ ?_ | with_reducible refine bel_call ?_ (by assumption) ?_)); all_goals (first | (simp; done) | omega | (simp; omega)))
  clear hb c1_w5 r0_w5 r1_w5 r2_w5 r3_w5 r4_w5 r5_w5 r6_w5 r7_w5 qr_w5 t0_w5 t1_w5 t2_w5 t3_w5 t4_w5 t5_w5 t6_w5 t7_w5 qt_w5 D5
  obtain ⟨r0_w6, r1_w6, r2_w6, r3_w6, r4_w6, r5_w6, r6_w6, r7_w6⟩ := Hrw6
  have qr_w6 := lt_of_cell r0_w6
  obtain ⟨t0_w6, t1_w6, t2_w6, t3_w6, t4_w6, t5_w6, t6_w6, t7_w6⟩ := Htw6
  have qt_w6 := lt_of_cell t0_w6
  go_wp2_with fail
  have DC : Below w2.heap.size w2 (w6.setCell ⟨w2.heap.size, 2, none⟩ (.string g)) := (by (repeat (first | with_reducible exact Below.refl _ _ | with_reducible refine bel_set ?_ ?_ | with_reducible refine bel_alloc ?_ ?_ | with_reducible refine Below.drew ?_ | with_reducible refine bel_drewN _ ?_ | with_reducible refine bel_call ?_ (by assumption) ?_)); all_goals (first | (simp; done) | omega | (simp; omega)))
  have SC : w2.heap.size < (w6.setCell ⟨w2.heap.size, 2, none⟩ (.string g)).heap.size := by simpa using qt_w6
  have HCL : Hid (∀ (j : Nat) z, ([] : List ByteArray)[j]? = some z → (w6.setCell ⟨w2.heap.size, 2, none⟩ (.string g)).cell? ⟨w1.heap.size, 2 + j, none⟩ = some (.string z)) := Lib.hid (fun j z hz => by simp at hz)
  clear DC
  refine (clone_call w1.heap.size 1 _ _ [] _ rfl (by first | (simp; done) | (simp; omega)) (fun j z hz => by simp at hz)).mono ?_
  rintro e w7 ⟨⟨A, kc, rfl, ho⟩, hb⟩
  have Hrw7 : C4 w7 (w.heap.size) (.string ⟨#[]⟩) (.string ⟨#[]⟩) (.string ⟨#[]⟩) (.slice none 0 0) := C4.below ⟨by go_simp, by go_simp, by go_simp, by go_simp, by go_simp, by go_simp, by go_simp, by go_simp⟩ hb
  have Htw7 : C4 w7 (w2.heap.size) (.string x) (.string ⟨#[]⟩) (.string g) (.slice none 0 0) := C4.below ⟨by go_simp, by go_simp, by go_simp, by go_simp, by go_simp, by go_simp, by go_simp, by go_simp⟩ hb
  have D7 : Below w2.heap.size w2 w7 := (by (repeat (first | with_reducible exact Below.refl _ _ | with_reducible refine bel_set ?_ ?_ | with_reducible refine bel_alloc ?_ ?_ | with_reducible refine Below.drew ?_ | with_reducible refine bel_drewN _ ?_ | with_reducible refine bel_call ?_ (by assumption) ?_)); all_goals (first | (simp; done) | omega | (simp; omega)))
  clear hb SC HCL ho c1_w6 r0_w6 r1_w6 r2_w6 r3_w6 r4_w6 r5_w6 r6_w6 r7_w6 qr_w6 t0_w6 t1_w6 t2_w6 t3_w6 t4_w6 t5_w6 t6_w6 t7_w6 qt_w6 D6
  obtain ⟨r0_w7, r1_w7, r2_w7, r3_w7, r4_w7, r5_w7, r6_w7, r7_w7⟩ := Hrw7
  have qr_w7 := lt_of_cell r0_w7
  obtain ⟨t0_w7, t1_w7, t2_w7, t3_w7, t4_w7, t5_w7, t6_w7, t7_w7⟩ := Htw7
  have qt_w7 := lt_of_cell t0_w7
  go_wp2_with fail
  obtain ⟨E, hE⟩ : ∃ E, E = tagErr x.data.toList (⟨#[]⟩ : ByteArray).data.toList g.data.toList (listsOf []) := ⟨_, rfl⟩
  have KC := Lib.hid (fun W => tag_check x ⟨#[]⟩ g none 0 [] W (by omega) (by decide) (by omega) (.inl rfl) (by simp) (by simp) (by simp))
  rw [← hE] at KC
  have HE := Lib.hid hE
  clear hE 
  by_cases h0 : E = 0
  · subst h0
    have E0 : errOf 0 = .nilIface := rfl
    rw [E0] at KC
    refine ((KC.out _)).mono ?_
    rintro e w8 ⟨rfl, hb⟩
    have Hrw8 : C4 w8 (w.heap.size) (.string ⟨#[]⟩) (.string ⟨#[]⟩) (.string ⟨#[]⟩) (.slice none 0 0) := C4.below ⟨by go_simp, by go_simp, by go_simp, by go_simp, by go_simp, by go_simp, by go_simp, by go_simp⟩ hb
    have Htw8 : C4 w8 (w2.heap.size) (.string x) (.string ⟨#[]⟩) (.string g) (.slice none 0 0) := C4.below ⟨by go_simp, by go_simp, by go_simp, by go_simp, by go_simp, by go_simp, by go_simp, by go_simp⟩ hb
    have D8 : Below w2.heap.size w2 w8 := (by (repeat (first | with_reducible exact Below.refl _ _ | with_reducible refine bel_set ?_ ?_ | with_reducible refine bel_alloc ?_ ?_ | with_reducible refine Below.drew ?_ | with_reducible refine bel_drewN _ ?_ | with_reducible refine bel_call ?_ (by assumption) ?_)); all_goals (first | (simp; done) | omega | (simp; omega)))
    clear hb r0_w7 r1_w7 r2_w7 r3_w7 r4_w7 r5_w7 r6_w7 r7_w7 qr_w7 t0_w7 t1_w7 t2_w7 t3_w7 t4_w7 t5_w7 t6_w7 t7_w7 qt_w7 D7 E0
    obtain ⟨r0_w8, r1_w8, r2_w8, r3_w8, r4_w8, r5_w8, r6_w8, r7_w8⟩ := Hrw8
    have qr_w8 := lt_of_cell r0_w8
    obtain ⟨t0_w8, t1_w8, t2_w8, t3_w8, t4_w8, t5_w8, t6_w8, t7_w8⟩ := Htw8
    have qt_w8 := lt_of_cell t0_w8
    have he0 := HE.out.symm
    have hlt := text_len he0
    obtain ⟨t, ht⟩ : ∃ t : ByteArray, t = ⟨(tagText x.data.toList (⟨#[]⟩ : ByteArray).data.toList g.data.toList (listsOf [])).toArray⟩ := ⟨_, rfl⟩
    have htz : t.size ≤ 100 := by rw [← tsize, ht]; exact hlt
    have KT := Lib.hid (tag_text x ⟨#[]⟩ g none 0 [] w8 (.inl rfl) (fun _ => rfl) he0)
    rw [← ht] at KT
    obtain ⟨m, hm⟩ : ∃ m : ByteArray, lowerL t.data.toList = m.data.toList := ⟨⟨(lowerL t.data.toList).toArray⟩, rfl⟩
    have HMM := Lib.hid hm
    have HTT := Lib.hid ht
    clear hm ht hlt he0
    go_wp2_with fail
    refine (KT.out).mono ?_
    rintro e w9 ⟨rfl, hb⟩
    have Hrw9 : C4 w9 (w.heap.size) (.string ⟨#[]⟩) (.string ⟨#[]⟩) (.string ⟨#[]⟩) (.slice none 0 0) := C4.below ⟨by go_simp, by go_simp, by go_simp, by go_simp, by go_simp, by go_simp, by go_simp, by go_simp⟩ hb
    have Htw9 : C4 w9 (w2.heap.size) (.string x) (.string ⟨#[]⟩) (.string g) (.slice none 0 0) := C4.below ⟨by go_simp, by go_simp, by go_simp, by go_simp, by go_simp, by go_simp, by go_simp, by go_simp⟩ hb
    have D9 : Below w2.heap.size w2 w9 := (by (repeat (first | with_reducible exact Below.refl _ _ | with_reducible refine bel_set ?_ ?_ | with_reducible refine bel_alloc ?_ ?_ | with_reducible refine Below.drew ?_ | with_reducible refine bel_drewN _ ?_ | with_reducible refine bel_call ?_ (by assumption) ?_)); all_goals (first | (simp; done) | omega | (simp; omega)))
    clear hb r0_w8 r1_w8 r2_w8 r3_w8 r4_w8 r5_w8 r6_w8 r7_w8 qr_w8 t0_w8 t1_w8 t2_w8 t3_w8 t4_w8 t5_w8 t6_w8 t7_w8 qt_w8 D8
    obtain ⟨r0_w9, r1_w9, r2_w9, r3_w9, r4_w9, r5_w9, r6_w9, r7_w9⟩ := Hrw9
    have qr_w9 := lt_of_cell r0_w9
    obtain ⟨t0_w9, t1_w9, t2_w9, t3_w9, t4_w9, t5_w9, t6_w9, t7_w9⟩ := Htw9
    have qt_w9 := lt_of_cell t0_w9
    go_wp2_with fail
    refine (low_call t m HMM.out (by omega) _).mono ?_
    rintro e w10 ⟨rfl, hb⟩
    have Hrw10 : C4 w10 (w.heap.size) (.string ⟨#[]⟩) (.string ⟨#[]⟩) (.string ⟨#[]⟩) (.slice none 0 0) := C4.below ⟨by go_simp, by go_simp, by go_simp, by go_simp, by go_simp, by go_simp, by go_simp, by go_simp⟩ hb
    have Htw10 : C4 w10 (w2.heap.size) (.string x) (.string ⟨#[]⟩) (.string g) (.slice none 0 0) := C4.below ⟨by go_simp, by go_simp, by go_simp, by go_simp, by go_simp, by go_simp, by go_simp, by go_simp⟩ hb
    have D10 : Below w2.heap.size w2 w10 := (by (repeat (first | with_reducible exact Below.refl _ _ | with_reducible refine bel_set ?_ ?_ | with_reducible refine bel_alloc ?_ ?_ | with_reducible refine Below.drew ?_ | with_reducible refine bel_drewN _ ?_ | with_reducible refine bel_call ?_ (by assumption) ?_)); all_goals (first | (simp; done) | omega | (simp; omega)))
    clear hb r0_w9 r1_w9 r2_w9 r3_w9 r4_w9 r5_w9 r6_w9 r7_w9 qr_w9 t0_w9 t1_w9 t2_w9 t3_w9 t4_w9 t5_w9 t6_w9 t7_w9 qt_w9 D9
    obtain ⟨r0_w10, r1_w10, r2_w10, r3_w10, r4_w10, r5_w10, r6_w10, r7_w10⟩ := Hrw10
    have qr_w10 := lt_of_cell r0_w10
    obtain ⟨t0_w10, t1_w10, t2_w10, t3_w10, t4_w10, t5_w10, t6_w10, t7_w10⟩ := Htw10
    have qt_w10 := lt_of_cell t0_w10
    go_wp2_with fail
    refine (low_call s L HL.out (by omega) _).mono ?_
    rintro e w11 ⟨rfl, hb⟩
    have Hrw11 : C4 w11 (w.heap.size) (.string ⟨#[]⟩) (.string ⟨#[]⟩) (.string ⟨#[]⟩) (.slice none 0 0) := C4.below ⟨by go_simp, by go_simp, by go_simp, by go_simp, by go_simp, by go_simp, by go_simp, by go_simp⟩ hb
    have Htw11 : C4 w11 (w2.heap.size) (.string x) (.string ⟨#[]⟩) (.string g) (.slice none 0 0) := C4.below ⟨by go_simp, by go_simp, by go_simp, by go_simp, by go_simp, by go_simp, by go_simp, by go_simp⟩ hb
    have D11 : Below w2.heap.size w2 w11 := (by (repeat (first | with_reducible exact Below.refl _ _ | with_reducible refine bel_set ?_ ?_ | with_reducible refine bel_alloc ?_ ?_ | with_reducible refine Below.drew ?_ | with_reducible refine bel_drewN _ ?_ | with_reducible refine bel_call ?_ (by assumption) ?_)); all_goals (first | (simp; done) | omega | (simp; omega)))
    clear hb r0_w10 r1_w10 r2_w10 r3_w10 r4_w10 r5_w10 r6_w10 r7_w10 qr_w10 t0_w10 t1_w10 t2_w10 t3_w10 t4_w10 t5_w10 t6_w10 t7_w10 qt_w10 D10
    obtain ⟨r0_w11, r1_w11, r2_w11, r3_w11, r4_w11, r5_w11, r6_w11, r7_w11⟩ := Hrw11
    have qr_w11 := lt_of_cell r0_w11
    obtain ⟨t0_w11, t1_w11, t2_w11, t3_w11, t4_w11, t5_w11, t6_w11, t7_w11⟩ := Htw11
    have qt_w11 := lt_of_cell t0_w11
    have hb1 := Bw1.out
    have hb2 := Bw2.out
    have b1 := hb1.size
    have b2 := hb2.size
    have hbD := hb2.trans (D11.mono hb2.size)
    cases hq : (m.toList == L.toList)
    · have hne : lowerL (tagText x.data.toList (⟨#[]⟩ : ByteArray).data.toList g.data.toList (listsOf [])) ≠ lowerL s.data.toList := fun h => by
        have h2 := HMM.out
        rw [HTT.out] at h2
        rw [h2, HL.out] at h
        rw [Lib.toList_data, Lib.toList_data, h] at hq
        simp at hq
      have HNE := Lib.hid hne
      clear hne
      have hq2 : (m.toList != L.toList) = true := by rw [bne, hq]; rfl
      go_wp2_with fail
      exact bodyPost_ret (v := .tuple #[tagV ⟨#[]⟩ ⟨#[]⟩ ⟨#[]⟩ none 0 0, errT 3]) (by simp [results, Tryz.results55, go_sem, r0_w11, r1_w11, r2_w11, r3_w11, World.cell?_setCell_same, World.cell?_setCell_other]) rfl ⟨.inr ⟨isTag_no2 HT.out HNE.out, rfl⟩, (by (repeat (first | with_reducible exact Below.refl _ _ | with_reducible refine bel_set ?_ ?_ | with_reducible refine bel_alloc ?_ ?_ | with_reducible refine Below.drew ?_ | with_reducible refine bel_drewN _ ?_ | with_reducible refine bel_call ?_ (by assumption) ?_)); all_goals (first | (simp; done) | omega | (simp; omega)))⟩
    · have hyes : isTag s.data.toList = true := isTag_yes HT.out HE.out.symm (by
        have h2 := HMM.out
        rw [HTT.out] at h2
        have h3 := eq_of_beq hq
        rw [Lib.toList_data, Lib.toList_data] at h3
        rw [HL.out, ← h3]
        exact h2)
      have HYES := Lib.hid hyes
      clear hyes
      have hq2 : m.toList = L.toList := by simpa using hq
      go_wp2_with fail
      refine bodyPost_ret (v := .tuple #[tagV x ⟨#[]⟩ g none 0 0, .nilIface]) (by simp [results, Tryz.results55, go_sem, r0_w11, r1_w11, r2_w11, r3_w11, World.cell?_setCell_same, World.cell?_setCell_other]) rfl ⟨.inl ⟨HYES.out, x, ⟨#[]⟩, g, none, 0, [], rfl, HT.out, ?_, ?_, ?_⟩, (by (repeat (first | with_reducible exact Below.refl _ _ | with_reducible refine bel_set ?_ ?_ | with_reducible refine bel_alloc ?_ ?_ | with_reducible refine Below.drew ?_ | with_reducible refine bel_drewN _ ?_ | with_reducible refine bel_call ?_ (by assumption) ?_)); all_goals (first | (simp; done) | omega | (simp; omega)))⟩
      · exact .inl rfl
      · exact Nat.le_refl _
      · exact fun _ => rfl
  · have E0 : errOf E = errT E := if_neg h0
    rw [E0] at KC
    have HNE : Hid (tagErr x.data.toList (⟨#[]⟩ : ByteArray).data.toList g.data.toList (listsOf []) ≠ 0) := Lib.hid (fun h => h0 (HE.out.trans h))
    clear h0 E0 HE
    refine ((KC.out _)).mono ?_
    rintro e w8 ⟨rfl, hb⟩
    have Hrw8 : C4 w8 (w.heap.size) (.string ⟨#[]⟩) (.string ⟨#[]⟩) (.string ⟨#[]⟩) (.slice none 0 0) := C4.below ⟨by go_simp, by go_simp, by go_simp, by go_simp, by go_simp, by go_simp, by go_simp, by go_simp⟩ hb
    have Htw8 : C4 w8 (w2.heap.size) (.string x) (.string ⟨#[]⟩) (.string g) (.slice none 0 0) := C4.below ⟨by go_simp, by go_simp, by go_simp, by go_simp, by go_simp, by go_simp, by go_simp, by go_simp⟩ hb
    have D8 : Below w2.heap.size w2 w8 := (by (repeat (first | with_reducible exact Below.refl _ _ | with_reducible refine bel_set ?_ ?_ | with_reducible refine bel_alloc ?_ ?_ | with_reducible refine Below.drew ?_ | with_reducible refine bel_drewN _ ?_ | with_reducible refine bel_call ?_ (by assumption) ?_)); all_goals (first | (simp; done) | omega | (simp; omega)))
    clear hb r0_w7 r1_w7 r2_w7 r3_w7 r4_w7 r5_w7 r6_w7 r7_w7 qr_w7 t0_w7 t1_w7 t2_w7 t3_w7 t4_w7 t5_w7 t6_w7 t7_w7 qt_w7 D7
    obtain ⟨r0_w8, r1_w8, r2_w8, r3_w8, r4_w8, r5_w8, r6_w8, r7_w8⟩ := Hrw8
    have qr_w8 := lt_of_cell r0_w8
    obtain ⟨t0_w8, t1_w8, t2_w8, t3_w8, t4_w8, t5_w8, t6_w8, t7_w8⟩ := Htw8
    have qt_w8 := lt_of_cell t0_w8
    have hb1 := Bw1.out
    have hb2 := Bw2.out
    have b1 := hb1.size
    have b2 := hb2.size
    have hbD := hb2.trans (D8.mono hb2.size)
    go_wp2_with fail
    exact bodyPost_ret (v := .tuple #[tagV ⟨#[]⟩ ⟨#[]⟩ ⟨#[]⟩ none 0 0, errT 3]) (by simp [results, Tryz.results55, go_sem, r0_w8, r1_w8, r2_w8, r3_w8, World.cell?_setCell_same, World.cell?_setCell_other]) rfl ⟨.inr ⟨isTag_no1 HT.out HNE.out, rfl⟩, (by (repeat (first | with_reducible exact Below.refl _ _ | with_reducible refine bel_set ?_ ?_ | with_reducible refine bel_alloc ?_ ?_ | with_reducible refine Below.drew ?_ | with_reducible refine bel_drewN _ ?_ | with_reducible refine bel_call ?_ (by assumption) ?_)); all_goals (first | (simp; done) | omega | (simp; omega)))⟩
end Go.Proofs.YtnhlnhmjnnopaaaGreatDoor

/- tag.Parse: way 6. -/
namespace Go.Proofs.YtnhlnhmjnnopaaaGreatDoor
open Go.RowKit

set_option maxHeartbeats 4000000 in
set_option maxRecDepth 100000 in
theorem parse_way6 (s L x q y : ByteArray) (r : List ByteArray) (w : World) (hM : MaxL w) (hs : s.size ≤ 1000000000) (hL : lowerL s.data.toList = L.data.toList) (hps : Lib.splitB ⟨#[45]⟩ 0 (Lib.countB L ⟨#[45]⟩) L = x :: q :: y :: r) (hn : madeB lowB q.data.toList 4 4 = false) (hq : regionB (upperL q.data.toList) = true) :
    Calls Tryz.prog 55 #[.string s] w fun e w' => ParseOut s e w' ∧ Below w.heap.size w w' := by
  obtain ⟨hmade, hsz, hcnt⟩ := made_is hL hps
  have hLs : L.size = s.size := by rw [← tsize, ← tsize, ← hL]; unfold lowerL; simp
  obtain ⟨g, hg⟩ : ∃ g : ByteArray, upperL q.data.toList = g.data.toList := ⟨⟨(upperL q.data.toList).toArray⟩, rfl⟩
  have hgz : g.size ≤ 1000000000 := by have h := hsz q (by simp); rw [← tsize, ← hg, upper_len, tsize]; omega
  rw [hg] at hq
  have hT : madeT s.data.toList = ⟨x.data.toList, [], g.data.toList, listsOf (y :: r)⟩ := by
    rw [hmade]
    simp [listsOf, List.map_cons, List.map_nil, scrP, regP, hn, hg, if_pos hq]
  have HT := Lib.hid hT
  have zx : x.size ≤ 1000000000 := by have := hsz x (by simp); omega
  have zq : q.size ≤ 1000000000 := by have := hsz q (by simp); omega
  have zy : y.size ≤ 1000000000 := by have := hsz y (by simp); omega
  have hrl : r.length ≤ 1000000000 := by simp at hcnt; omega
  have HZ : Hid (∀ v ∈ (y :: r), v.size ≤ 1000000000) := Lib.hid (fun v hv => by have := hsz v (List.mem_cons_of_mem _ (List.mem_cons_of_mem _ hv)); omega)
  have HPS := Lib.hid hps
  have HL := Lib.hid hL
  have HM := Lib.hid hM
  have HN := Lib.hid hn
  have HG := Lib.hid hg
  have HQ := Lib.hid hq
  clear hmade hsz hcnt hT hps hL hM hn hg hq
  go_enter Tryz.func55, Tryz.ntmps55
  go_wp2_with fail
  refine (low_call s L HL.out (by omega) _).mono ?_
  rintro e w1 ⟨rfl, hb1⟩
  have Hrw1 : C4 w1 (w.heap.size) (.string ⟨#[]⟩) (.string ⟨#[]⟩) (.string ⟨#[]⟩) (.slice none 0 0) := C4.below ⟨by go_simp, by go_simp, by go_simp, by go_simp, by go_simp, by go_simp, by go_simp, by go_simp⟩ hb1
  have Bw1 := Lib.hid hb1
  obtain ⟨r0_w1, r1_w1, r2_w1, r3_w1, r4_w1, r5_w1, r6_w1, r7_w1⟩ := Hrw1
  have qr_w1 := lt_of_cell r0_w1
  have s1 : w.heap.size < w1.heap.size := qr_w1
  go_wp2_with fail
  refine (split_call L _ HPS.out _ (HM.out.below (((Below.refl _ _).alloc (Nat.le_refl _) _).trans (Bw1.out.mono (by simp)))) (by omega)).mono ?_
  rintro e w2 ⟨rfl, hcp, hb2⟩
  have HCP := Lib.hid hcp
  have c0_w2 : w2.cell? ⟨w1.heap.size, 0, none⟩ = some (.string x) := hcp 0 x rfl
  have c1_w2 : w2.cell? ⟨w1.heap.size, 1, none⟩ = some (.string q) := hcp 1 q rfl
  have c2_w2 : w2.cell? ⟨w1.heap.size, 2, none⟩ = some (.string y) := hcp 2 y rfl
  have Hrw2 : C4 w2 (w.heap.size) (.string ⟨#[]⟩) (.string ⟨#[]⟩) (.string ⟨#[]⟩) (.slice none 0 0) := C4.below ⟨by go_simp, by go_simp, by go_simp, by go_simp, by go_simp, by go_simp, by go_simp, by go_simp⟩ hb2
  have Bw2 := Lib.hid hb2
  clear hcp hb2 r0_w1 r1_w1 r2_w1 r3_w1 r4_w1 r5_w1 r6_w1 r7_w1 qr_w1
  obtain ⟨r0_w2, r1_w2, r2_w2, r3_w2, r4_w2, r5_w2, r6_w2, r7_w2⟩ := Hrw2
  have qr_w2 := lt_of_cell r0_w2
  have qc_w2 := lt_of_cell c0_w2
  simp only [List.length_cons, List.length_nil, Nat.zero_add]
  have l1 : (0 : Int) < (r.length : Int) + 2 := by omega
  have l2 : (0 : Int) < (r.length : Int) + 1 := by omega
  go_wp2_with fail
  refine (made_call q false HN.out (by omega) _).mono ?_
  rintro e w2x ⟨rfl, rfl⟩
  go_wp2_with fail
  refine (up_call q g HG.out (by omega) _).mono ?_
  rintro e w5 ⟨rfl, hb⟩
  have Hrw5 : C4 w5 (w.heap.size) (.string ⟨#[]⟩) (.string ⟨#[]⟩) (.string ⟨#[]⟩) (.slice none 0 0) := C4.below ⟨by go_simp, by go_simp, by go_simp, by go_simp, by go_simp, by go_simp, by go_simp, by go_simp⟩ hb
  have Htw5 : C4 w5 (w2.heap.size) (.string x) (.string ⟨#[]⟩) (.string ⟨#[]⟩) (.slice none 0 0) := C4.below ⟨by go_simp, by go_simp, by go_simp, by go_simp, by go_simp, by go_simp, by go_simp, by go_simp⟩ hb
  have c1_w5 : w5.cell? ⟨w1.heap.size, 1, none⟩ = some (.string q) := carry hb (by go_simp)
  have c2_w5 : w5.cell? ⟨w1.heap.size, 2, none⟩ = some (.string y) := carry hb (by go_simp)
  have D5 : Below w2.heap.size w2 w5 := (by (repeat (first | with_reducible exact Below.refl _ _ | with_reducible refine bel_set ?_ ?_ | with_reducible refine bel_alloc ?_ ?_ | with_reducible refine Below.drew ?_ | with_reducible refine bel_drewN _ ?_ | with_reducible refine bel_call ?_ (by assumption) ?_)); all_goals (first | (simp; done) | omega | (simp; omega)))
  clear hb r0_w2 r1_w2 r2_w2 r3_w2 r4_w2 r5_w2 r6_w2 r7_w2 qr_w2 c0_w2 c1_w2 c2_w2
  obtain ⟨r0_w5, r1_w5, r2_w5, r3_w5, r4_w5, r5_w5, r6_w5, r7_w5⟩ := Hrw5
  have qr_w5 := lt_of_cell r0_w5
  obtain ⟨t0_w5, t1_w5, t2_w5, t3_w5, t4_w5, t5_w5, t6_w5, t7_w5⟩ := Htw5
  have qt_w5 := lt_of_cell t0_w5
  go_wp2_with fail
  refine (reg_call g true HQ.out (by omega) _).mono ?_
  rintro e wx ⟨rfl, rfl⟩
  go_wp2_with fail
  refine (up_call q g HG.out (by omega) _).mono ?_
  rintro e w6 ⟨rfl, hb⟩
  have Hrw6 : C4 w6 (w.heap.size) (.string ⟨#[]⟩) (.string ⟨#[]⟩) (.string ⟨#[]⟩) (.slice none 0 0) := C4.below ⟨by go_simp, by go_simp, by go_simp, by go_simp, by go_simp, by go_simp, by go_simp, by go_simp⟩ hb
  have Htw6 : C4 w6 (w2.heap.size) (.string x) (.string ⟨#[]⟩) (.string ⟨#[]⟩) (.slice none 0 0) := C4.below ⟨by go_simp, by go_simp, by go_simp, by go_simp, by go_simp, by go_simp, by go_simp, by go_simp⟩ hb
  have c1_w6 : w6.cell? ⟨w1.heap.size, 1, none⟩ = some (.string q) := carry hb (by go_simp)
  have c2_w6 : w6.cell? ⟨w1.heap.size, 2, none⟩ = some (.string y) := carry hb (by go_simp)
  have D6 : Below w2.heap.size w2 w6 := (by (repeat (first | with_reducible exact Below.refl _ _ | with_reducible refine bel_set ?_ ?_ | with_reducible refine bel_alloc ?_ ?_ | with_reducible refine Below.drew ?_ | with_reducible refine bel_drewN _ ?_ | with_reducible refine bel_call ?_ (by assumption) ?_)); all_goals (first | (simp; done) | omega | (simp; omega)))
  clear hb c1_w5 c2_w5 r0_w5 r1_w5 r2_w5 r3_w5 r4_w5 r5_w5 r6_w5 r7_w5 qr_w5 t0_w5 t1_w5 t2_w5 t3_w5 t4_w5 t5_w5 t6_w5 t7_w5 qt_w5 D5
  obtain ⟨r0_w6, r1_w6, r2_w6, r3_w6, r4_w6, r5_w6, r6_w6, r7_w6⟩ := Hrw6
  have qr_w6 := lt_of_cell r0_w6
  obtain ⟨t0_w6, t1_w6, t2_w6, t3_w6, t4_w6, t5_w6, t6_w6, t7_w6⟩ := Htw6
  have qt_w6 := lt_of_cell t0_w6
  go_wp2_with fail
  have DC : Below w2.heap.size w2 (w6.setCell ⟨w2.heap.size, 2, none⟩ (.string g)) := (by (repeat (first | with_reducible exact Below.refl _ _ | with_reducible refine bel_set ?_ ?_ | with_reducible refine bel_alloc ?_ ?_ | with_reducible refine Below.drew ?_ | with_reducible refine bel_drewN _ ?_ | with_reducible refine bel_call ?_ (by assumption) ?_)); all_goals (first | (simp; done) | omega | (simp; omega)))
  have SC : w2.heap.size < (w6.setCell ⟨w2.heap.size, 2, none⟩ (.string g)).heap.size := by simpa using qt_w6
  have HCL : Hid (∀ (j : Nat) z, (y :: r)[j]? = some z → (w6.setCell ⟨w2.heap.size, 2, none⟩ (.string g)).cell? ⟨w1.heap.size, 2 + j, none⟩ = some (.string z)) := Lib.hid (fun j z hz => carry DC (HCP.out (2 + j) z (by rw [Nat.add_comm]; exact hz)))
  clear DC
  refine (clone_call w1.heap.size 2 _ _ (y :: r) _ rfl (by first | (simp; done) | (simp; omega)) HCL.out).mono ?_
  rintro e w7 ⟨⟨A, kc, rfl, ho⟩, hb⟩
  have Hrw7 : C4 w7 (w.heap.size) (.string ⟨#[]⟩) (.string ⟨#[]⟩) (.string ⟨#[]⟩) (.slice none 0 0) := C4.below ⟨by go_simp, by go_simp, by go_simp, by go_simp, by go_simp, by go_simp, by go_simp, by go_simp⟩ hb
  have Htw7 : C4 w7 (w2.heap.size) (.string x) (.string ⟨#[]⟩) (.string g) (.slice none 0 0) := C4.below ⟨by go_simp, by go_simp, by go_simp, by go_simp, by go_simp, by go_simp, by go_simp, by go_simp⟩ hb
  have D7 : Below w2.heap.size w2 w7 := (by (repeat (first | with_reducible exact Below.refl _ _ | with_reducible refine bel_set ?_ ?_ | with_reducible refine bel_alloc ?_ ?_ | with_reducible refine Below.drew ?_ | with_reducible refine bel_drewN _ ?_ | with_reducible refine bel_call ?_ (by assumption) ?_)); all_goals (first | (simp; done) | omega | (simp; omega)))
  obtain ⟨bz, hbz⟩ : ∃ b, b = (w6.setCell ⟨w2.heap.size, 2, none⟩ (.string g)).heap.size := ⟨_, rfl⟩
  rw [← hbz] at ho SC
  obtain ⟨hkc, hA⟩ := ho.caps
  have HST := Lib.hid (ho.set w2.heap.size 3 (.slice A (r.length + 1) kc) SC)
  have HA := Lib.hid hA
  have HKC := Lib.hid hkc
  have HSC := Lib.hid SC
  clear hb SC HCL ho hbz hA c1_w6 c2_w6 r0_w6 r1_w6 r2_w6 r3_w6 r4_w6 r5_w6 r6_w6 r7_w6 qr_w6 t0_w6 t1_w6 t2_w6 t3_w6 t4_w6 t5_w6 t6_w6 t7_w6 qt_w6 D6
  obtain ⟨r0_w7, r1_w7, r2_w7, r3_w7, r4_w7, r5_w7, r6_w7, r7_w7⟩ := Hrw7
  have qr_w7 := lt_of_cell r0_w7
  obtain ⟨t0_w7, t1_w7, t2_w7, t3_w7, t4_w7, t5_w7, t6_w7, t7_w7⟩ := Htw7
  have qt_w7 := lt_of_cell t0_w7
  have lz : ((r.length : Int) + 1 == 0) = false := by rw [beq_eq_false_iff_ne]; omega
  go_wp2_with fail
  obtain ⟨E, hE⟩ : ∃ E, E = tagErr x.data.toList (⟨#[]⟩ : ByteArray).data.toList g.data.toList (listsOf (y :: r)) := ⟨_, rfl⟩
  have KC := Lib.hid (tag_check x ⟨#[]⟩ g A kc (y :: r) (w7.setCell ⟨w2.heap.size, 3, none⟩ (.slice A (r.length + 1) kc)) (by omega) (by decide) (by omega) HST.out.strs (by simp; omega) hkc (fun v hv => by have := HZ.out v hv; omega))
  rw [← hE] at KC
  have HE := Lib.hid hE
  clear hE hkc
  by_cases h0 : E = 0
  · subst h0
    have E0 : errOf 0 = .nilIface := rfl
    rw [E0] at KC
    refine (KC.out).mono ?_
    rintro e w8 ⟨rfl, hb⟩
    have Hrw8 : C4 w8 (w.heap.size) (.string ⟨#[]⟩) (.string ⟨#[]⟩) (.string ⟨#[]⟩) (.slice none 0 0) := C4.below ⟨by go_simp, by go_simp, by go_simp, by go_simp, by go_simp, by go_simp, by go_simp, by go_simp⟩ hb
    have Htw8 : C4 w8 (w2.heap.size) (.string x) (.string ⟨#[]⟩) (.string g) (.slice A (r.length + 1) kc) := C4.below ⟨by go_simp, by go_simp, by go_simp, by go_simp, by go_simp, by go_simp, by go_simp, by go_simp⟩ hb
    have D8 : Below w2.heap.size w2 w8 := (by (repeat (first | with_reducible exact Below.refl _ _ | with_reducible refine bel_set ?_ ?_ | with_reducible refine bel_alloc ?_ ?_ | with_reducible refine Below.drew ?_ | with_reducible refine bel_drewN _ ?_ | with_reducible refine bel_call ?_ (by assumption) ?_)); all_goals (first | (simp; done) | omega | (simp; omega)))
    have hbk := Lib.hid hb
    clear hb r0_w7 r1_w7 r2_w7 r3_w7 r4_w7 r5_w7 r6_w7 r7_w7 qr_w7 t0_w7 t1_w7 t2_w7 t3_w7 t4_w7 t5_w7 t6_w7 t7_w7 qt_w7 D7 E0
    obtain ⟨r0_w8, r1_w8, r2_w8, r3_w8, r4_w8, r5_w8, r6_w8, r7_w8⟩ := Hrw8
    have qr_w8 := lt_of_cell r0_w8
    obtain ⟨t0_w8, t1_w8, t2_w8, t3_w8, t4_w8, t5_w8, t6_w8, t7_w8⟩ := Htw8
    have qt_w8 := lt_of_cell t0_w8
    have he0 := HE.out.symm
    have hlt := text_len he0
    obtain ⟨t, ht⟩ : ∃ t : ByteArray, t = ⟨(tagText x.data.toList (⟨#[]⟩ : ByteArray).data.toList g.data.toList (listsOf (y :: r))).toArray⟩ := ⟨_, rfl⟩
    have htz : t.size ≤ 100 := by rw [← tsize, ht]; exact hlt
    have HST2 := Lib.hid (HST.out.below hbk.out)
    have KT := Lib.hid (tag_text x ⟨#[]⟩ g A kc (y :: r) w8 HST2.out.strs HA.out he0)
    rw [← ht] at KT
    obtain ⟨m, hm⟩ : ∃ m : ByteArray, lowerL t.data.toList = m.data.toList := ⟨⟨(lowerL t.data.toList).toArray⟩, rfl⟩
    have HMM := Lib.hid hm
    have HTT := Lib.hid ht
    clear hm ht hlt he0
    go_wp2_with fail
    clear hbk
    refine (KT.out).mono ?_
    rintro e w9 ⟨rfl, hb⟩
    have Hrw9 : C4 w9 (w.heap.size) (.string ⟨#[]⟩) (.string ⟨#[]⟩) (.string ⟨#[]⟩) (.slice none 0 0) := C4.below ⟨by go_simp, by go_simp, by go_simp, by go_simp, by go_simp, by go_simp, by go_simp, by go_simp⟩ hb
    have Htw9 : C4 w9 (w2.heap.size) (.string x) (.string ⟨#[]⟩) (.string g) (.slice A (r.length + 1) kc) := C4.below ⟨by go_simp, by go_simp, by go_simp, by go_simp, by go_simp, by go_simp, by go_simp, by go_simp⟩ hb
    have D9 : Below w2.heap.size w2 w9 := (by (repeat (first | with_reducible exact Below.refl _ _ | with_reducible refine bel_set ?_ ?_ | with_reducible refine bel_alloc ?_ ?_ | with_reducible refine Below.drew ?_ | with_reducible refine bel_drewN _ ?_ | with_reducible refine bel_call ?_ (by assumption) ?_)); all_goals (first | (simp; done) | omega | (simp; omega)))
    have hbk := Lib.hid hb
    clear hb r0_w8 r1_w8 r2_w8 r3_w8 r4_w8 r5_w8 r6_w8 r7_w8 qr_w8 t0_w8 t1_w8 t2_w8 t3_w8 t4_w8 t5_w8 t6_w8 t7_w8 qt_w8 D8
    obtain ⟨r0_w9, r1_w9, r2_w9, r3_w9, r4_w9, r5_w9, r6_w9, r7_w9⟩ := Hrw9
    have qr_w9 := lt_of_cell r0_w9
    obtain ⟨t0_w9, t1_w9, t2_w9, t3_w9, t4_w9, t5_w9, t6_w9, t7_w9⟩ := Htw9
    have qt_w9 := lt_of_cell t0_w9
    have HST3 := Lib.hid (HST2.out.below hbk.out)
    clear hbk
    go_wp2_with fail
    refine (low_call t m HMM.out (by omega) _).mono ?_
    rintro e w10 ⟨rfl, hb⟩
    have Hrw10 : C4 w10 (w.heap.size) (.string ⟨#[]⟩) (.string ⟨#[]⟩) (.string ⟨#[]⟩) (.slice none 0 0) := C4.below ⟨by go_simp, by go_simp, by go_simp, by go_simp, by go_simp, by go_simp, by go_simp, by go_simp⟩ hb
    have Htw10 : C4 w10 (w2.heap.size) (.string x) (.string ⟨#[]⟩) (.string g) (.slice A (r.length + 1) kc) := C4.below ⟨by go_simp, by go_simp, by go_simp, by go_simp, by go_simp, by go_simp, by go_simp, by go_simp⟩ hb
    have D10 : Below w2.heap.size w2 w10 := (by (repeat (first | with_reducible exact Below.refl _ _ | with_reducible refine bel_set ?_ ?_ | with_reducible refine bel_alloc ?_ ?_ | with_reducible refine Below.drew ?_ | with_reducible refine bel_drewN _ ?_ | with_reducible refine bel_call ?_ (by assumption) ?_)); all_goals (first | (simp; done) | omega | (simp; omega)))
    have hbk := Lib.hid hb
    clear hb r0_w9 r1_w9 r2_w9 r3_w9 r4_w9 r5_w9 r6_w9 r7_w9 qr_w9 t0_w9 t1_w9 t2_w9 t3_w9 t4_w9 t5_w9 t6_w9 t7_w9 qt_w9 D9
    obtain ⟨r0_w10, r1_w10, r2_w10, r3_w10, r4_w10, r5_w10, r6_w10, r7_w10⟩ := Hrw10
    have qr_w10 := lt_of_cell r0_w10
    obtain ⟨t0_w10, t1_w10, t2_w10, t3_w10, t4_w10, t5_w10, t6_w10, t7_w10⟩ := Htw10
    have qt_w10 := lt_of_cell t0_w10
    have HST4 := Lib.hid (HST3.out.below hbk.out)
    clear hbk
    go_wp2_with fail
    refine (low_call s L HL.out (by omega) _).mono ?_
    rintro e w11 ⟨rfl, hb⟩
    have Hrw11 : C4 w11 (w.heap.size) (.string ⟨#[]⟩) (.string ⟨#[]⟩) (.string ⟨#[]⟩) (.slice none 0 0) := C4.below ⟨by go_simp, by go_simp, by go_simp, by go_simp, by go_simp, by go_simp, by go_simp, by go_simp⟩ hb
    have Htw11 : C4 w11 (w2.heap.size) (.string x) (.string ⟨#[]⟩) (.string g) (.slice A (r.length + 1) kc) := C4.below ⟨by go_simp, by go_simp, by go_simp, by go_simp, by go_simp, by go_simp, by go_simp, by go_simp⟩ hb
    have D11 : Below w2.heap.size w2 w11 := (by (repeat (first | with_reducible exact Below.refl _ _ | with_reducible refine bel_set ?_ ?_ | with_reducible refine bel_alloc ?_ ?_ | with_reducible refine Below.drew ?_ | with_reducible refine bel_drewN _ ?_ | with_reducible refine bel_call ?_ (by assumption) ?_)); all_goals (first | (simp; done) | omega | (simp; omega)))
    have hbk := Lib.hid hb
    clear hb r0_w10 r1_w10 r2_w10 r3_w10 r4_w10 r5_w10 r6_w10 r7_w10 qr_w10 t0_w10 t1_w10 t2_w10 t3_w10 t4_w10 t5_w10 t6_w10 t7_w10 qt_w10 D10
    obtain ⟨r0_w11, r1_w11, r2_w11, r3_w11, r4_w11, r5_w11, r6_w11, r7_w11⟩ := Hrw11
    have qr_w11 := lt_of_cell r0_w11
    obtain ⟨t0_w11, t1_w11, t2_w11, t3_w11, t4_w11, t5_w11, t6_w11, t7_w11⟩ := Htw11
    have qt_w11 := lt_of_cell t0_w11
    have HST5 := Lib.hid (HST4.out.below hbk.out)
    clear hbk
    have hb1 := Bw1.out
    have hb2 := Bw2.out
    have b1 := hb1.size
    have b2 := hb2.size
    have hbD := hb2.trans (D11.mono hb2.size)
    cases hq : (m.toList == L.toList)
    · have hne : lowerL (tagText x.data.toList (⟨#[]⟩ : ByteArray).data.toList g.data.toList (listsOf (y :: r))) ≠ lowerL s.data.toList := fun h => by
        have h2 := HMM.out
        rw [HTT.out] at h2
        rw [h2, HL.out] at h
        rw [Lib.toList_data, Lib.toList_data, h] at hq
        simp at hq
      have HNE := Lib.hid hne
      clear hne
      have hq2 : (m.toList != L.toList) = true := by rw [bne, hq]; rfl
      go_wp2_with fail
      exact bodyPost_ret (v := .tuple #[tagV ⟨#[]⟩ ⟨#[]⟩ ⟨#[]⟩ none 0 0, errT 3]) (by simp [results, Tryz.results55, go_sem, r0_w11, r1_w11, r2_w11, r3_w11, World.cell?_setCell_same, World.cell?_setCell_other]) rfl ⟨.inr ⟨isTag_no2 HT.out HNE.out, rfl⟩, (by (repeat (first | with_reducible exact Below.refl _ _ | with_reducible refine bel_set ?_ ?_ | with_reducible refine bel_alloc ?_ ?_ | with_reducible refine Below.drew ?_ | with_reducible refine bel_drewN _ ?_ | with_reducible refine bel_call ?_ (by assumption) ?_)); all_goals (first | (simp; done) | omega | (simp; omega)))⟩
    · have hyes : isTag s.data.toList = true := isTag_yes HT.out HE.out.symm (by
        have h2 := HMM.out
        rw [HTT.out] at h2
        have h3 := eq_of_beq hq
        rw [Lib.toList_data, Lib.toList_data] at h3
        rw [HL.out, ← h3]
        exact h2)
      have HYES := Lib.hid hyes
      clear hyes
      have hq2 : m.toList = L.toList := by simpa using hq
      go_wp2_with fail
      refine bodyPost_ret (v := .tuple #[tagV x ⟨#[]⟩ g A (y :: r).length kc, .nilIface]) (by simp [results, Tryz.results55, go_sem, r0_w11, r1_w11, r2_w11, r3_w11, World.cell?_setCell_same, World.cell?_setCell_other]) rfl ⟨.inl ⟨HYES.out, x, ⟨#[]⟩, g, A, kc, (y :: r), rfl, HT.out, ?_, ?_, ?_⟩, (by (repeat (first | with_reducible exact Below.refl _ _ | with_reducible refine bel_set ?_ ?_ | with_reducible refine bel_alloc ?_ ?_ | with_reducible refine Below.drew ?_ | with_reducible refine bel_drewN _ ?_ | with_reducible refine bel_call ?_ (by assumption) ?_)); all_goals (first | (simp; done) | omega | (simp; omega)))⟩
      · have hl : w.heap.size < bz := by have := HSC.out; omega
        exact ((((HST5.out.set _ _ _ hl).set _ _ _ hl).set _ _ _ hl).set _ _ _ hl).strs
      · exact HKC.out
      · exact HA.out
  · have E0 : errOf E = errT E := if_neg h0
    rw [E0] at KC
    have HNE : Hid (tagErr x.data.toList (⟨#[]⟩ : ByteArray).data.toList g.data.toList (listsOf (y :: r)) ≠ 0) := Lib.hid (fun h => h0 (HE.out.trans h))
    clear h0 E0 HE
    refine (KC.out).mono ?_
    rintro e w8 ⟨rfl, hb⟩
    have Hrw8 : C4 w8 (w.heap.size) (.string ⟨#[]⟩) (.string ⟨#[]⟩) (.string ⟨#[]⟩) (.slice none 0 0) := C4.below ⟨by go_simp, by go_simp, by go_simp, by go_simp, by go_simp, by go_simp, by go_simp, by go_simp⟩ hb
    have Htw8 : C4 w8 (w2.heap.size) (.string x) (.string ⟨#[]⟩) (.string g) (.slice A (r.length + 1) kc) := C4.below ⟨by go_simp, by go_simp, by go_simp, by go_simp, by go_simp, by go_simp, by go_simp, by go_simp⟩ hb
    have D8 : Below w2.heap.size w2 w8 := (by (repeat (first | with_reducible exact Below.refl _ _ | with_reducible refine bel_set ?_ ?_ | with_reducible refine bel_alloc ?_ ?_ | with_reducible refine Below.drew ?_ | with_reducible refine bel_drewN _ ?_ | with_reducible refine bel_call ?_ (by assumption) ?_)); all_goals (first | (simp; done) | omega | (simp; omega)))
    clear hb r0_w7 r1_w7 r2_w7 r3_w7 r4_w7 r5_w7 r6_w7 r7_w7 qr_w7 t0_w7 t1_w7 t2_w7 t3_w7 t4_w7 t5_w7 t6_w7 t7_w7 qt_w7 D7
    obtain ⟨r0_w8, r1_w8, r2_w8, r3_w8, r4_w8, r5_w8, r6_w8, r7_w8⟩ := Hrw8
    have qr_w8 := lt_of_cell r0_w8
    obtain ⟨t0_w8, t1_w8, t2_w8, t3_w8, t4_w8, t5_w8, t6_w8, t7_w8⟩ := Htw8
    have qt_w8 := lt_of_cell t0_w8
    have hb1 := Bw1.out
    have hb2 := Bw2.out
    have b1 := hb1.size
    have b2 := hb2.size
    have hbD := hb2.trans (D8.mono hb2.size)
    go_wp2_with fail
    exact bodyPost_ret (v := .tuple #[tagV ⟨#[]⟩ ⟨#[]⟩ ⟨#[]⟩ none 0 0, errT 3]) (by simp [results, Tryz.results55, go_sem, r0_w8, r1_w8, r2_w8, r3_w8, World.cell?_setCell_same, World.cell?_setCell_other]) rfl ⟨.inr ⟨isTag_no1 HT.out HNE.out, rfl⟩, (by (repeat (first | with_reducible exact Below.refl _ _ | with_reducible refine bel_set ?_ ?_ | with_reducible refine bel_alloc ?_ ?_ | with_reducible refine Below.drew ?_ | with_reducible refine bel_drewN _ ?_ | with_reducible refine bel_call ?_ (by assumption) ?_)); all_goals (first | (simp; done) | omega | (simp; omega)))⟩
end Go.Proofs.YtnhlnhmjnnopaaaGreatDoor

/- tag.Parse: way 7. -/
namespace Go.Proofs.YtnhlnhmjnnopaaaGreatDoor
open Go.RowKit

set_option maxHeartbeats 4000000 in
set_option maxRecDepth 100000 in
theorem parse_way7 (s L x y : ByteArray) (r : List ByteArray) (w : World) (hM : MaxL w) (hs : s.size ≤ 1000000000) (hL : lowerL s.data.toList = L.data.toList) (hps : Lib.splitB ⟨#[45]⟩ 0 (Lib.countB L ⟨#[45]⟩) L = x :: y :: r) (hn : madeB lowB y.data.toList 4 4 = false) (hm : regionB (upperL y.data.toList) = false) :
    Calls Tryz.prog 55 #[.string s] w fun e w' => ParseOut s e w' ∧ Below w.heap.size w w' := by
  obtain ⟨hmade, hsz, hcnt⟩ := made_is hL hps
  have hLs : L.size = s.size := by rw [← tsize, ← tsize, ← hL]; unfold lowerL; simp
  obtain ⟨g, hg⟩ : ∃ g : ByteArray, upperL y.data.toList = g.data.toList := ⟨⟨(upperL y.data.toList).toArray⟩, rfl⟩
  have hgz : g.size ≤ 1000000000 := by have h := hsz y (by simp); rw [← tsize, ← hg, upper_len, tsize]; omega
  rw [hg] at hm
  have hT : madeT s.data.toList = ⟨x.data.toList, [], [], listsOf (y :: r)⟩ := by
    rw [hmade]
    simp [listsOf, List.map_cons, List.map_nil, scrP, regP, hn, hg, hm]
  have HT := Lib.hid hT
  have zx : x.size ≤ 1000000000 := by have := hsz x (by simp); omega
  have zy : y.size ≤ 1000000000 := by have := hsz y (by simp); omega
  have hrl : r.length ≤ 1000000000 := by simp at hcnt; omega
  have HZ : Hid (∀ v ∈ (y :: r), v.size ≤ 1000000000) := Lib.hid (fun v hv => by have := hsz v (List.mem_cons_of_mem _ hv); omega)
  have HPS := Lib.hid hps
  have HL := Lib.hid hL
  have HM := Lib.hid hM
  have HN := Lib.hid hn
  have HG := Lib.hid hg
  have HQ := Lib.hid hm
  clear hmade hsz hcnt hT hps hL hM hn hg hm
  go_enter Tryz.func55, Tryz.ntmps55
  go_wp2_with fail
  refine (low_call s L HL.out (by omega) _).mono ?_
  rintro e w1 ⟨rfl, hb1⟩
  have Hrw1 : C4 w1 (w.heap.size) (.string ⟨#[]⟩) (.string ⟨#[]⟩) (.string ⟨#[]⟩) (.slice none 0 0) := C4.below ⟨by go_simp, by go_simp, by go_simp, by go_simp, by go_simp, by go_simp, by go_simp, by go_simp⟩ hb1
  have Bw1 := Lib.hid hb1
  obtain ⟨r0_w1, r1_w1, r2_w1, r3_w1, r4_w1, r5_w1, r6_w1, r7_w1⟩ := Hrw1
  have qr_w1 := lt_of_cell r0_w1
  have s1 : w.heap.size < w1.heap.size := qr_w1
  go_wp2_with fail
  refine (split_call L _ HPS.out _ (HM.out.below (((Below.refl _ _).alloc (Nat.le_refl _) _).trans (Bw1.out.mono (by simp)))) (by omega)).mono ?_
  rintro e w2 ⟨rfl, hcp, hb2⟩
  have HCP := Lib.hid hcp
  have c0_w2 : w2.cell? ⟨w1.heap.size, 0, none⟩ = some (.string x) := hcp 0 x rfl
  have c1_w2 : w2.cell? ⟨w1.heap.size, 1, none⟩ = some (.string y) := hcp 1 y rfl
  have Hrw2 : C4 w2 (w.heap.size) (.string ⟨#[]⟩) (.string ⟨#[]⟩) (.string ⟨#[]⟩) (.slice none 0 0) := C4.below ⟨by go_simp, by go_simp, by go_simp, by go_simp, by go_simp, by go_simp, by go_simp, by go_simp⟩ hb2
  have Bw2 := Lib.hid hb2
  clear hcp hb2 r0_w1 r1_w1 r2_w1 r3_w1 r4_w1 r5_w1 r6_w1 r7_w1 qr_w1
  obtain ⟨r0_w2, r1_w2, r2_w2, r3_w2, r4_w2, r5_w2, r6_w2, r7_w2⟩ := Hrw2
  have qr_w2 := lt_of_cell r0_w2
  have qc_w2 := lt_of_cell c0_w2
  simp only [List.length_cons, List.length_nil, Nat.zero_add]
  have l1 : (0 : Int) < (r.length : Int) + 1 := by omega
  go_wp2_with fail
  refine (made_call y false HN.out (by omega) _).mono ?_
  rintro e w2x ⟨rfl, rfl⟩
  go_wp2_with fail
  refine (up_call y g HG.out (by omega) _).mono ?_
  rintro e w5 ⟨rfl, hb⟩
  have Hrw5 : C4 w5 (w.heap.size) (.string ⟨#[]⟩) (.string ⟨#[]⟩) (.string ⟨#[]⟩) (.slice none 0 0) := C4.below ⟨by go_simp, by go_simp, by go_simp, by go_simp, by go_simp, by go_simp, by go_simp, by go_simp⟩ hb
  have Htw5 : C4 w5 (w2.heap.size) (.string x) (.string ⟨#[]⟩) (.string ⟨#[]⟩) (.slice none 0 0) := C4.below ⟨by go_simp, by go_simp, by go_simp, by go_simp, by go_simp, by go_simp, by go_simp, by go_simp⟩ hb
  have c1_w5 : w5.cell? ⟨w1.heap.size, 1, none⟩ = some (.string y) := carry hb (by go_simp)
  have D5 : Below w2.heap.size w2 w5 := (by (repeat (first | with_reducible exact Below.refl _ _ | with_reducible refine bel_set ?_ ?_ | with_reducible refine bel_alloc ?_ ?_ | with_reducible refine Below.drew ?_ | with_reducible refine bel_drewN _ ?_ | with_reducible refine bel_call ?_ (by assumption) ?_)); all_goals (first | (simp; done) | omega | (simp; omega)))
  clear hb r0_w2 r1_w2 r2_w2 r3_w2 r4_w2 r5_w2 r6_w2 r7_w2 qr_w2 c0_w2 c1_w2
  obtain ⟨r0_w5, r1_w5, r2_w5, r3_w5, r4_w5, r5_w5, r6_w5, r7_w5⟩ := Hrw5
  have qr_w5 := lt_of_cell r0_w5
  obtain ⟨t0_w5, t1_w5, t2_w5, t3_w5, t4_w5, t5_w5, t6_w5, t7_w5⟩ := Htw5
  have qt_w5 := lt_of_cell t0_w5
  go_wp2_with fail
  refine (reg_call g false HQ.out (by omega) _).mono ?_
  rintro e wx ⟨rfl, rfl⟩
  go_wp2_with fail
  have DC : Below w2.heap.size w2 w5 := (by (repeat (first | with_reducible exact Below.refl _ _ | with_reducible refine bel_set ?_ ?_ | with_reducible refine bel_alloc ?_ ?_ | with_reducible refine Below.drew ?_ | with_reducible refine bel_drewN _ ?_ | with_reducible refine bel_call ?_ (by assumption) ?_)); all_goals (first | (simp; done) | omega | (simp; omega)))
  have SC : w2.heap.size < w5.heap.size := by simpa using qt_w5
  have HCL : Hid (∀ (j : Nat) z, (y :: r)[j]? = some z → w5.cell? ⟨w1.heap.size, 1 + j, none⟩ = some (.string z)) := Lib.hid (fun j z hz => carry DC (HCP.out (1 + j) z (by rw [Nat.add_comm]; exact hz)))
  clear DC
  refine (clone_call w1.heap.size 1 _ _ (y :: r) _ rfl (by first | (simp; done) | (simp; omega)) HCL.out).mono ?_
  rintro e w6 ⟨⟨A, kc, rfl, ho⟩, hb⟩
  have Hrw6 : C4 w6 (w.heap.size) (.string ⟨#[]⟩) (.string ⟨#[]⟩) (.string ⟨#[]⟩) (.slice none 0 0) := C4.below ⟨by go_simp, by go_simp, by go_simp, by go_simp, by go_simp, by go_simp, by go_simp, by go_simp⟩ hb
  have Htw6 : C4 w6 (w2.heap.size) (.string x) (.string ⟨#[]⟩) (.string ⟨#[]⟩) (.slice none 0 0) := C4.below ⟨by go_simp, by go_simp, by go_simp, by go_simp, by go_simp, by go_simp, by go_simp, by go_simp⟩ hb
  have D6 : Below w2.heap.size w2 w6 := (by (repeat (first | with_reducible exact Below.refl _ _ | with_reducible refine bel_set ?_ ?_ | with_reducible refine bel_alloc ?_ ?_ | with_reducible refine Below.drew ?_ | with_reducible refine bel_drewN _ ?_ | with_reducible refine bel_call ?_ (by assumption) ?_)); all_goals (first | (simp; done) | omega | (simp; omega)))
  obtain ⟨bz, hbz⟩ : ∃ b, b = w5.heap.size := ⟨_, rfl⟩
  rw [← hbz] at ho SC
  obtain ⟨hkc, hA⟩ := ho.caps
  have HST := Lib.hid (ho.set w2.heap.size 3 (.slice A (r.length + 1) kc) SC)
  have HA := Lib.hid hA
  have HKC := Lib.hid hkc
  have HSC := Lib.hid SC
  clear hb SC HCL ho hbz hA c1_w5 r0_w5 r1_w5 r2_w5 r3_w5 r4_w5 r5_w5 r6_w5 r7_w5 qr_w5 t0_w5 t1_w5 t2_w5 t3_w5 t4_w5 t5_w5 t6_w5 t7_w5 qt_w5 D5
  obtain ⟨r0_w6, r1_w6, r2_w6, r3_w6, r4_w6, r5_w6, r6_w6, r7_w6⟩ := Hrw6
  have qr_w6 := lt_of_cell r0_w6
  obtain ⟨t0_w6, t1_w6, t2_w6, t3_w6, t4_w6, t5_w6, t6_w6, t7_w6⟩ := Htw6
  have qt_w6 := lt_of_cell t0_w6
  have lz : ((r.length : Int) + 1 == 0) = false := by rw [beq_eq_false_iff_ne]; omega
  go_wp2_with fail
  obtain ⟨E, hE⟩ : ∃ E, E = tagErr x.data.toList (⟨#[]⟩ : ByteArray).data.toList (⟨#[]⟩ : ByteArray).data.toList (listsOf (y :: r)) := ⟨_, rfl⟩
  have KC := Lib.hid (tag_check x ⟨#[]⟩ ⟨#[]⟩ A kc (y :: r) (w6.setCell ⟨w2.heap.size, 3, none⟩ (.slice A (r.length + 1) kc)) (by omega) (by decide) (by decide) HST.out.strs (by simp; omega) hkc (fun v hv => by have := HZ.out v hv; omega))
  rw [← hE] at KC
  have HE := Lib.hid hE
  clear hE hkc
  by_cases h0 : E = 0
  · subst h0
    have E0 : errOf 0 = .nilIface := rfl
    rw [E0] at KC
    refine (KC.out).mono ?_
    rintro e w7 ⟨rfl, hb⟩
    have Hrw7 : C4 w7 (w.heap.size) (.string ⟨#[]⟩) (.string ⟨#[]⟩) (.string ⟨#[]⟩) (.slice none 0 0) := C4.below ⟨by go_simp, by go_simp, by go_simp, by go_simp, by go_simp, by go_simp, by go_simp, by go_simp⟩ hb
    have Htw7 : C4 w7 (w2.heap.size) (.string x) (.string ⟨#[]⟩) (.string ⟨#[]⟩) (.slice A (r.length + 1) kc) := C4.below ⟨by go_simp, by go_simp, by go_simp, by go_simp, by go_simp, by go_simp, by go_simp, by go_simp⟩ hb
    have D7 : Below w2.heap.size w2 w7 := (by (repeat (first | with_reducible exact Below.refl _ _ | with_reducible refine bel_set ?_ ?_ | with_reducible refine bel_alloc ?_ ?_ | with_reducible refine Below.drew ?_ | with_reducible refine bel_drewN _ ?_ | with_reducible refine bel_call ?_ (by assumption) ?_)); all_goals (first | (simp; done) | omega | (simp; omega)))
    have hbk := Lib.hid hb
    clear hb r0_w6 r1_w6 r2_w6 r3_w6 r4_w6 r5_w6 r6_w6 r7_w6 qr_w6 t0_w6 t1_w6 t2_w6 t3_w6 t4_w6 t5_w6 t6_w6 t7_w6 qt_w6 D6 E0
    obtain ⟨r0_w7, r1_w7, r2_w7, r3_w7, r4_w7, r5_w7, r6_w7, r7_w7⟩ := Hrw7
    have qr_w7 := lt_of_cell r0_w7
    obtain ⟨t0_w7, t1_w7, t2_w7, t3_w7, t4_w7, t5_w7, t6_w7, t7_w7⟩ := Htw7
    have qt_w7 := lt_of_cell t0_w7
    have he0 := HE.out.symm
    have hlt := text_len he0
    obtain ⟨t, ht⟩ : ∃ t : ByteArray, t = ⟨(tagText x.data.toList (⟨#[]⟩ : ByteArray).data.toList (⟨#[]⟩ : ByteArray).data.toList (listsOf (y :: r))).toArray⟩ := ⟨_, rfl⟩
    have htz : t.size ≤ 100 := by rw [← tsize, ht]; exact hlt
    have HST2 := Lib.hid (HST.out.below hbk.out)
    have KT := Lib.hid (tag_text x ⟨#[]⟩ ⟨#[]⟩ A kc (y :: r) w7 HST2.out.strs HA.out he0)
    rw [← ht] at KT
    obtain ⟨m, hm⟩ : ∃ m : ByteArray, lowerL t.data.toList = m.data.toList := ⟨⟨(lowerL t.data.toList).toArray⟩, rfl⟩
    have HMM := Lib.hid hm
    have HTT := Lib.hid ht
    clear hm ht hlt he0
    go_wp2_with fail
    clear hbk
    refine (KT.out).mono ?_
    rintro e w8 ⟨rfl, hb⟩
    have Hrw8 : C4 w8 (w.heap.size) (.string ⟨#[]⟩) (.string ⟨#[]⟩) (.string ⟨#[]⟩) (.slice none 0 0) := C4.below ⟨by go_simp, by go_simp, by go_simp, by go_simp, by go_simp, by go_simp, by go_simp, by go_simp⟩ hb
    have Htw8 : C4 w8 (w2.heap.size) (.string x) (.string ⟨#[]⟩) (.string ⟨#[]⟩) (.slice A (r.length + 1) kc) := C4.below ⟨by go_simp, by go_simp, by go_simp, by go_simp, by go_simp, by go_simp, by go_simp, by go_simp⟩ hb
    have D8 : Below w2.heap.size w2 w8 := (by (repeat (first | with_reducible exact Below.refl _ _ | with_reducible refine bel_set ?_ ?_ | with_reducible refine bel_alloc ?_ ?_ | with_reducible refine Below.drew ?_ | with_reducible refine bel_drewN _ ?_ | with_reducible refine bel_call ?_ (by assumption) ?_)); all_goals (first | (simp; done) | omega | (simp; omega)))
    have hbk := Lib.hid hb
    clear hb r0_w7 r1_w7 r2_w7 r3_w7 r4_w7 r5_w7 r6_w7 r7_w7 qr_w7 t0_w7 t1_w7 t2_w7 t3_w7 t4_w7 t5_w7 t6_w7 t7_w7 qt_w7 D7
    obtain ⟨r0_w8, r1_w8, r2_w8, r3_w8, r4_w8, r5_w8, r6_w8, r7_w8⟩ := Hrw8
    have qr_w8 := lt_of_cell r0_w8
    obtain ⟨t0_w8, t1_w8, t2_w8, t3_w8, t4_w8, t5_w8, t6_w8, t7_w8⟩ := Htw8
    have qt_w8 := lt_of_cell t0_w8
    have HST3 := Lib.hid (HST2.out.below hbk.out)
    clear hbk
    go_wp2_with fail
    refine (low_call t m HMM.out (by omega) _).mono ?_
    rintro e w9 ⟨rfl, hb⟩
    have Hrw9 : C4 w9 (w.heap.size) (.string ⟨#[]⟩) (.string ⟨#[]⟩) (.string ⟨#[]⟩) (.slice none 0 0) := C4.below ⟨by go_simp, by go_simp, by go_simp, by go_simp, by go_simp, by go_simp, by go_simp, by go_simp⟩ hb
    have Htw9 : C4 w9 (w2.heap.size) (.string x) (.string ⟨#[]⟩) (.string ⟨#[]⟩) (.slice A (r.length + 1) kc) := C4.below ⟨by go_simp, by go_simp, by go_simp, by go_simp, by go_simp, by go_simp, by go_simp, by go_simp⟩ hb
    have D9 : Below w2.heap.size w2 w9 := (by (repeat (first | with_reducible exact Below.refl _ _ | with_reducible refine bel_set ?_ ?_ | with_reducible refine bel_alloc ?_ ?_ | with_reducible refine Below.drew ?_ | with_reducible refine bel_drewN _ ?_ | with_reducible refine bel_call ?_ (by assumption) ?_)); all_goals (first | (simp; done) | omega | (simp; omega)))
    have hbk := Lib.hid hb
    clear hb r0_w8 r1_w8 r2_w8 r3_w8 r4_w8 r5_w8 r6_w8 r7_w8 qr_w8 t0_w8 t1_w8 t2_w8 t3_w8 t4_w8 t5_w8 t6_w8 t7_w8 qt_w8 D8
    obtain ⟨r0_w9, r1_w9, r2_w9, r3_w9, r4_w9, r5_w9, r6_w9, r7_w9⟩ := Hrw9
    have qr_w9 := lt_of_cell r0_w9
    obtain ⟨t0_w9, t1_w9, t2_w9, t3_w9, t4_w9, t5_w9, t6_w9, t7_w9⟩ := Htw9
    have qt_w9 := lt_of_cell t0_w9
    have HST4 := Lib.hid (HST3.out.below hbk.out)
    clear hbk
    go_wp2_with fail
    refine (low_call s L HL.out (by omega) _).mono ?_
    rintro e w10 ⟨rfl, hb⟩
    have Hrw10 : C4 w10 (w.heap.size) (.string ⟨#[]⟩) (.string ⟨#[]⟩) (.string ⟨#[]⟩) (.slice none 0 0) := C4.below ⟨by go_simp, by go_simp, by go_simp, by go_simp, by go_simp, by go_simp, by go_simp, by go_simp⟩ hb
    have Htw10 : C4 w10 (w2.heap.size) (.string x) (.string ⟨#[]⟩) (.string ⟨#[]⟩) (.slice A (r.length + 1) kc) := C4.below ⟨by go_simp, by go_simp, by go_simp, by go_simp, by go_simp, by go_simp, by go_simp, by go_simp⟩ hb
    have D10 : Below w2.heap.size w2 w10 := (by (repeat (first | with_reducible exact Below.refl _ _ | with_reducible refine bel_set ?_ ?_ | with_reducible refine bel_alloc ?_ ?_ | with_reducible refine Below.drew ?_ | with_reducible refine bel_drewN _ ?_ | with_reducible refine bel_call ?_ (by assumption) ?_)); all_goals (first | (simp; done) | omega | (simp; omega)))
    have hbk := Lib.hid hb
    clear hb r0_w9 r1_w9 r2_w9 r3_w9 r4_w9 r5_w9 r6_w9 r7_w9 qr_w9 t0_w9 t1_w9 t2_w9 t3_w9 t4_w9 t5_w9 t6_w9 t7_w9 qt_w9 D9
    obtain ⟨r0_w10, r1_w10, r2_w10, r3_w10, r4_w10, r5_w10, r6_w10, r7_w10⟩ := Hrw10
    have qr_w10 := lt_of_cell r0_w10
    obtain ⟨t0_w10, t1_w10, t2_w10, t3_w10, t4_w10, t5_w10, t6_w10, t7_w10⟩ := Htw10
    have qt_w10 := lt_of_cell t0_w10
    have HST5 := Lib.hid (HST4.out.below hbk.out)
    clear hbk
    have hb1 := Bw1.out
    have hb2 := Bw2.out
    have b1 := hb1.size
    have b2 := hb2.size
    have hbD := hb2.trans (D10.mono hb2.size)
    cases hq : (m.toList == L.toList)
    · have hne : lowerL (tagText x.data.toList (⟨#[]⟩ : ByteArray).data.toList (⟨#[]⟩ : ByteArray).data.toList (listsOf (y :: r))) ≠ lowerL s.data.toList := fun h => by
        have h2 := HMM.out
        rw [HTT.out] at h2
        rw [h2, HL.out] at h
        rw [Lib.toList_data, Lib.toList_data, h] at hq
        simp at hq
      have HNE := Lib.hid hne
      clear hne
      have hq2 : (m.toList != L.toList) = true := by rw [bne, hq]; rfl
      go_wp2_with fail
      exact bodyPost_ret (v := .tuple #[tagV ⟨#[]⟩ ⟨#[]⟩ ⟨#[]⟩ none 0 0, errT 3]) (by simp [results, Tryz.results55, go_sem, r0_w10, r1_w10, r2_w10, r3_w10, World.cell?_setCell_same, World.cell?_setCell_other]) rfl ⟨.inr ⟨isTag_no2 HT.out HNE.out, rfl⟩, (by (repeat (first | with_reducible exact Below.refl _ _ | with_reducible refine bel_set ?_ ?_ | with_reducible refine bel_alloc ?_ ?_ | with_reducible refine Below.drew ?_ | with_reducible refine bel_drewN _ ?_ | with_reducible refine bel_call ?_ (by assumption) ?_)); all_goals (first | (simp; done) | omega | (simp; omega)))⟩
    · have hyes : isTag s.data.toList = true := isTag_yes HT.out HE.out.symm (by
        have h2 := HMM.out
        rw [HTT.out] at h2
        have h3 := eq_of_beq hq
        rw [Lib.toList_data, Lib.toList_data] at h3
        rw [HL.out, ← h3]
        exact h2)
      have HYES := Lib.hid hyes
      clear hyes
      have hq2 : m.toList = L.toList := by simpa using hq
      go_wp2_with fail
      refine bodyPost_ret (v := .tuple #[tagV x ⟨#[]⟩ ⟨#[]⟩ A (y :: r).length kc, .nilIface]) (by simp [results, Tryz.results55, go_sem, r0_w10, r1_w10, r2_w10, r3_w10, World.cell?_setCell_same, World.cell?_setCell_other]) rfl ⟨.inl ⟨HYES.out, x, ⟨#[]⟩, ⟨#[]⟩, A, kc, (y :: r), rfl, HT.out, ?_, ?_, ?_⟩, (by (repeat (first | with_reducible exact Below.refl _ _ | with_reducible refine bel_set ?_ ?_ | with_reducible refine bel_alloc ?_ ?_ | with_reducible refine Below.drew ?_ | with_reducible refine bel_drewN _ ?_ | with_reducible refine bel_call ?_ (by assumption) ?_)); all_goals (first | (simp; done) | omega | (simp; omega)))⟩
      · have hl : w.heap.size < bz := by have := HSC.out; omega
        exact ((((HST5.out.set _ _ _ hl).set _ _ _ hl).set _ _ _ hl).set _ _ _ hl).strs
      · exact HKC.out
      · exact HA.out
  · have E0 : errOf E = errT E := if_neg h0
    rw [E0] at KC
    have HNE : Hid (tagErr x.data.toList (⟨#[]⟩ : ByteArray).data.toList (⟨#[]⟩ : ByteArray).data.toList (listsOf (y :: r)) ≠ 0) := Lib.hid (fun h => h0 (HE.out.trans h))
    clear h0 E0 HE
    refine (KC.out).mono ?_
    rintro e w7 ⟨rfl, hb⟩
    have Hrw7 : C4 w7 (w.heap.size) (.string ⟨#[]⟩) (.string ⟨#[]⟩) (.string ⟨#[]⟩) (.slice none 0 0) := C4.below ⟨by go_simp, by go_simp, by go_simp, by go_simp, by go_simp, by go_simp, by go_simp, by go_simp⟩ hb
    have Htw7 : C4 w7 (w2.heap.size) (.string x) (.string ⟨#[]⟩) (.string ⟨#[]⟩) (.slice A (r.length + 1) kc) := C4.below ⟨by go_simp, by go_simp, by go_simp, by go_simp, by go_simp, by go_simp, by go_simp, by go_simp⟩ hb
    have D7 : Below w2.heap.size w2 w7 := (by (repeat (first | with_reducible exact Below.refl _ _ | with_reducible refine bel_set ?_ ?_ | with_reducible refine bel_alloc ?_ ?_ | with_reducible refine Below.drew ?_ | with_reducible refine bel_drewN _ ?_ | with_reducible refine bel_call ?_ (by assumption) ?_)); all_goals (first | (simp; done) | omega | (simp; omega)))
    clear hb r0_w6 r1_w6 r2_w6 r3_w6 r4_w6 r5_w6 r6_w6 r7_w6 qr_w6 t0_w6 t1_w6 t2_w6 t3_w6 t4_w6 t5_w6 t6_w6 t7_w6 qt_w6 D6
    obtain ⟨r0_w7, r1_w7, r2_w7, r3_w7, r4_w7, r5_w7, r6_w7, r7_w7⟩ := Hrw7
    have qr_w7 := lt_of_cell r0_w7
    obtain ⟨t0_w7, t1_w7, t2_w7, t3_w7, t4_w7, t5_w7, t6_w7, t7_w7⟩ := Htw7
    have qt_w7 := lt_of_cell t0_w7
    have hb1 := Bw1.out
    have hb2 := Bw2.out
    have b1 := hb1.size
    have b2 := hb2.size
    have hbD := hb2.trans (D7.mono hb2.size)
    go_wp2_with fail
    exact bodyPost_ret (v := .tuple #[tagV ⟨#[]⟩ ⟨#[]⟩ ⟨#[]⟩ none 0 0, errT 3]) (by simp [results, Tryz.results55, go_sem, r0_w7, r1_w7, r2_w7, r3_w7, World.cell?_setCell_same, World.cell?_setCell_other]) rfl ⟨.inr ⟨isTag_no1 HT.out HNE.out, rfl⟩, (by (repeat (first | with_reducible exact Below.refl _ _ | with_reducible refine bel_set ?_ ?_ | with_reducible refine bel_alloc ?_ ?_ | with_reducible refine Below.drew ?_ | with_reducible refine bel_drewN _ ?_ | with_reducible refine bel_call ?_ (by assumption) ?_)); all_goals (first | (simp; done) | omega | (simp; omega)))⟩
end Go.Proofs.YtnhlnhmjnnopaaaGreatDoor

/- tag.Parse of any text; prop.Tag. -/
namespace Go.Proofs.YtnhlnhmjnnopaaaGreatDoor
open Go.RowKit

theorem tag_parse (s : ByteArray) (w : World) (hM : MaxL w) (hs : s.size ≤ 1000000000) :
    Calls Tryz.prog 55 #[.string s] w fun e w' => ParseOut s e w' ∧ Below w.heap.size w w' := by
  obtain ⟨L, hL⟩ : ∃ L : ByteArray, lowerL s.data.toList = L.data.toList := ⟨⟨(lowerL s.data.toList).toArray⟩, rfl⟩
  have hlen := Lib.splitB_all ⟨#[45]⟩ (by decide) 0 _ L rfl
  cases hps : Lib.splitB ⟨#[45]⟩ 0 (Lib.countB L ⟨#[45]⟩) L with
  | nil => rw [hps] at hlen; simp at hlen
  | cons x ps =>
    cases ps with
    | nil => exact parse_way0 s L x w hM hs hL hps
    | cons p ps =>
      cases hp : madeB lowB p.data.toList 4 4
      · cases hq : regionB (upperL p.data.toList)
        · exact parse_way7 s L x p ps w hM hs hL hps hp hq
        · cases ps with
          | nil => exact parse_way5 s L x p w hM hs hL hps hp hq
          | cons y r => exact parse_way6 s L x p y r w hM hs hL hps hp hq
      · cases ps with
        | nil => exact parse_way1 s L x p w hM hs hL hps hp
        | cons q ps =>
          cases hq : regionB (upperL q.data.toList)
          · exact parse_way4 s L x p q ps w hM hs hL hps hp hq
          · cases ps with
            | nil => exact parse_way2 s L x p q w hM hs hL hps hp hq
            | cons y r => exact parse_way3 s L x p q y r w hM hs hL hps hp hq
theorem ba_eta (b : ByteArray) : (⟨b.data.toList.toArray⟩ : ByteArray) = b := rfl
set_option maxHeartbeats 1000000 in
theorem prop_tag (s : ByteArray) (w : World) (hM : MaxL w) (hs : s.size ≤ 1000000000) :
    Calls Tryz.prog 28 #[.string s] w fun e w' => e = .returned (.bool (ownTag s.data.toList)) ∧ Below w.heap.size w w' := by
  have KP := Lib.hid (fun W (hb : Below w.heap.size w W) => tag_parse s W (hM.below hb) hs)
  obtain ⟨R, hR⟩ : ∃ R, R = ownTag s.data.toList := ⟨_, rfl⟩
  rw [← hR]
  go_enter Tryz.func28, Tryz.ntmps28
  go_wp2_with fail
  refine (KP.out _ (by (repeat (first | with_reducible exact Below.refl _ _ | with_reducible refine bel_set ?_ ?_ | with_reducible refine bel_alloc ?_ ?_ | with_reducible refine Below.drew ?_ | with_reducible refine bel_drewN _ ?_ | with_reducible refine bel_call ?_ (by assumption) ?_)); all_goals (first | (simp; done) | omega | (simp; omega)))).mono ?_
  rintro e w1 ⟨ho, hb1⟩
  have HB1 := Lib.hid ((show Below w.heap.size w _ from (by (repeat (first | with_reducible exact Below.refl _ _ | with_reducible refine bel_set ?_ ?_ | with_reducible refine bel_alloc ?_ ?_ | with_reducible refine Below.drew ?_ | with_reducible refine bel_drewN _ ?_ | with_reducible refine bel_call ?_ (by assumption) ?_)); all_goals (first | (simp; done) | omega | (simp; omega)))).trans (hb1.mono (by simp)))
  rcases ho with ⟨hi, l, sc, rg, A, c, vs, rfl, hm, hS, hc, hA⟩ | ⟨hi, rfl⟩
  · have he : tagErr l.data.toList sc.data.toList rg.data.toList (listsOf vs) = 0 := by
      unfold isTag TagS.err at hi
      rw [hm] at hi
      simp only [Bool.and_eq_true, beq_iff_eq] at hi
      exact hi.1
    have hown : ownTag s.data.toList = (tagText l.data.toList sc.data.toList rg.data.toList (listsOf vs) == s.data.toList) := by
      unfold ownTag TagS.text
      rw [hi, hm, Bool.true_and]
    have KT := Lib.hid (fun W (hb : Below w1.heap.size w1 W) => tag_text l sc rg A c vs W (hS.below hb) hA he)
    obtain ⟨t, ht⟩ : ∃ t : ByteArray, t = ⟨(tagText l.data.toList sc.data.toList rg.data.toList (listsOf vs)).toArray⟩ := ⟨_, rfl⟩
    rw [← ht] at KT
    have hcmp : R = (t.toList == s.toList) := by rw [hR, hown, Lib.toList_data, Lib.toList_data, ht]
    clear ht hown he hm hi hS hb1 hR
    cases hq : (t.toList == s.toList)
    · rw [hq] at hcmp
      subst hcmp
      go_wp2_with fail
      refine (KT.out _ (by (repeat (first | with_reducible exact Below.refl _ _ | with_reducible refine bel_set ?_ ?_ | with_reducible refine bel_alloc ?_ ?_ | with_reducible refine Below.drew ?_ | with_reducible refine bel_drewN _ ?_ | with_reducible refine bel_call ?_ (by assumption) ?_)); all_goals (first | (simp; done) | omega | (simp; omega)))).mono ?_
      rintro e w2 ⟨rfl, hb2⟩
      have HB2 := Lib.hid (HB1.out.trans (Below.trans (show Below w1.heap.size w1 _ from (by (repeat (first | with_reducible exact Below.refl _ _ | with_reducible refine bel_set ?_ ?_ | with_reducible refine bel_alloc ?_ ?_ | with_reducible refine Below.drew ?_ | with_reducible refine bel_drewN _ ?_ | with_reducible refine bel_call ?_ (by assumption) ?_)); all_goals (first | (simp; done) | omega | (simp; omega)))) (hb2.mono (by simp)) |>.mono HB1.out.size))
      go_wp2_with fail
      go_ret
      exact ⟨rfl, HB2.out⟩
    · rw [hq] at hcmp
      subst hcmp
      have hq2 : t.toList = s.toList := by simpa using hq
      go_wp2_with fail
      refine (KT.out _ (by (repeat (first | with_reducible exact Below.refl _ _ | with_reducible refine bel_set ?_ ?_ | with_reducible refine bel_alloc ?_ ?_ | with_reducible refine Below.drew ?_ | with_reducible refine bel_drewN _ ?_ | with_reducible refine bel_call ?_ (by assumption) ?_)); all_goals (first | (simp; done) | omega | (simp; omega)))).mono ?_
      rintro e w2 ⟨rfl, hb2⟩
      have HB2 := Lib.hid (HB1.out.trans (Below.trans (show Below w1.heap.size w1 _ from (by (repeat (first | with_reducible exact Below.refl _ _ | with_reducible refine bel_set ?_ ?_ | with_reducible refine bel_alloc ?_ ?_ | with_reducible refine Below.drew ?_ | with_reducible refine bel_drewN _ ?_ | with_reducible refine bel_call ?_ (by assumption) ?_)); all_goals (first | (simp; done) | omega | (simp; omega)))) (hb2.mono (by simp)) |>.mono HB1.out.size))
      go_wp2_with fail
      go_ret
      exact ⟨rfl, HB2.out⟩
  · have hown : R = false := by rw [hR]; unfold ownTag; rw [hi, Bool.false_and]
    subst hown
    clear hi hb1 hR
    go_wp2_with fail
    go_ret
    exact ⟨rfl, HB1.out.alloc HB1.out.size _⟩
end Go.Proofs.YtnhlnhmjnnopaaaGreatDoor
