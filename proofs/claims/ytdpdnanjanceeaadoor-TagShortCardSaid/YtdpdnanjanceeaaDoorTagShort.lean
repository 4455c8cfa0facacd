/- TagShort: the law's walk. -/
import Derived.Test.YtdpdnanjanceeaaDoorTagParse
import Derived.Test.YtdpdnanjanceeaaDoorSameTag
import Derived.Test.YtdpdnanjanceeaaDoorParts
import Derived.Deep.RegionHeld3
import Derived.Deep.DrawnRows
namespace Go.Proofs.YtdpdnanjanceeaaDoor
open Go.RowKit
attribute [local go_sem ↓] Go.wp_at_zero Go.wp_at_succ

theorem listsOf_inj {xs ys : List ByteArray} (h : listsOf xs = listsOf ys) : xs = ys := by
  unfold listsOf at h
  exact List.map_inj_right (fun a b e => ByteArray.ext (Array.ext' e)) |>.1 h
theorem ba_ext {a b : ByteArray} (h : a.data.toList = b.data.toList) : a = b := ByteArray.ext (Array.ext' h)
theorem same_text {l s r l' s' r' : ByteArray} {vs vs' : List ByteArray} (h : tagErr l.data.toList s.data.toList r.data.toList (listsOf vs) = 0) (h' : tagErr l'.data.toList s'.data.toList r'.data.toList (listsOf vs') = 0) :
    ((ByteArray.mk (tagText l.data.toList s.data.toList r.data.toList (listsOf vs)).toArray).toList == (ByteArray.mk (tagText l'.data.toList s'.data.toList r'.data.toList (listsOf vs')).toArray).toList) = sameTagB l s r l' s' r' vs vs' := by
  rw [bytes_beq]
  unfold sameTagB
  rw [bytes_beq, bytes_beq, bytes_beq]
  by_cases e : tagText l.data.toList s.data.toList r.data.toList (listsOf vs) = tagText l'.data.toList s'.data.toList r'.data.toList (listsOf vs')
  · obtain ⟨e1, e2, e3, e4⟩ := text_tells h h' e
    obtain rfl := ba_ext e1
    obtain rfl := ba_ext e2
    obtain rfl := ba_ext e3
    obtain rfl := listsOf_inj e4
    simp
  · have : ¬ (ByteArray.mk (tagText l.data.toList s.data.toList r.data.toList (listsOf vs)).toArray = ByteArray.mk (tagText l'.data.toList s'.data.toList r'.data.toList (listsOf vs')).toArray) := fun hh => e (by
      have := congrArg (fun x : ByteArray => x.data.toList) hh
      simpa using this)
    rw [decide_eq_false this]
    symm
    simp only [Bool.and_eq_false_iff, decide_eq_false_iff_not]
    by_cases a1 : vs = vs'
    · by_cases a2 : l = l'
      · by_cases a3 : s = s'
        · by_cases a4 : r = r'
          · subst a1 a2 a3 a4; exact absurd rfl e
          · exact .inr (.inr (.inr a4))
        · exact .inr (.inr (.inl a3))
      · exact .inr (.inl a2)
    · exact .inl a1
theorem text_size {l s r : ByteArray} {vs : List ByteArray} (h : tagErr l.data.toList s.data.toList r.data.toList (listsOf vs) = 0) :
    (ByteArray.mk (tagText l.data.toList s.data.toList r.data.toList (listsOf vs)).toArray).size = (neL ([l, s, r] ++ vs)).length - 1 + lensB (neL ([l, s, r] ++ vs)) ∧ 1 ≤ (neL ([l, s, r] ++ vs)).length := by
  have e := parts_map l s r vs
  have hne := parts_ne h
  rw [← e] at hne
  constructor
  · show (tagText l.data.toList s.data.toList r.data.toList (listsOf vs)).toArray.size = _
    rw [List.size_toArray]
    unfold tagText
    rw [← e, join_len, lens_map, List.length_map]
    simp only [List.length_cons, List.length_nil, Nat.zero_add, Nat.one_mul]
  · rcases Nat.eq_zero_or_pos (neL ([l, s, r] ++ vs)).length with h0 | h0
    · rw [List.length_eq_zero_iff] at h0
      unfold neL at h0
      rw [h0] at hne
      exact absurd rfl hne
    · exact h0

set_option maxHeartbeats 1000000 in
theorem tagShort_a (l s r l' s' r' : ByteArray) (A B : Option Addr) (c d : Nat) (vs vs' : List ByteArray) (w : World) (hM : MaxL w) (hA : StrsIn w A vs) (hB : StrsIn w B vs') (hA0 : A = none → c = 0) (hB0 : B = none → d = 0) (hc : vs.length ≤ c) (hd : vs'.length ≤ d) (hm : ∀ z ∈ [l, s, r, l', s', r'] ++ (vs ++ vs'), z.size ≤ 9223372036854775807) (hn : vs.length ≤ 9223372036854775807) (hn' : vs'.length ≤ 9223372036854775807) (h1 : tagErr l.data.toList s.data.toList r.data.toList (listsOf vs) ≠ 0) :
    Calls Tryd.prog 3 #[tagV l s r A vs.length c, tagV l' s' r' B vs'.length d] w fun e w' => e = .returned (.bool true) ∧ Below w.heap.size w w' := by
  have H1 := Lib.hid h1
  clear h1
  have KA := Lib.hid (fun W (h : Below w.heap.size w W) => tag_check l s r A c vs W (hm l (by simp)) (hm s (by simp)) (hm r (by simp)) (hA.below h) hn hc (fun z hz => hm z (by simp [hz])))
  have KB := Lib.hid (fun W (h : Below w.heap.size w W) => tag_check l' s' r' B d vs' W (hm l' (by simp)) (hm s' (by simp)) (hm r' (by simp)) (hB.below h) hn' hd (fun z hz => hm z (by simp [hz])))
  have HM := Lib.hid hM
  have HA := Lib.hid hA
  have HB := Lib.hid hB
  clear hM hA hB hm
  go_enter Tryd.func3, Tryd.ntmps3
  go_wp2_with fail
  have hp := HM.out.below (((Below.refl w.heap.size w).alloc (Nat.le_refl _) (.cells #[.string l, .string s, .string r, .slice A vs.length c] 24)).alloc (by simp) (.cells #[.string l', .string s', .string r', .slice B vs'.length d] 24))
  have HP := Lib.hid hp
  clear hp
  refine (parse_enus _ HP.out).mono ?_
  rintro e w1 ⟨rfl, hb1⟩
  have a0_w1 : w1.cell? ⟨w.heap.size, 0, none⟩ = some (.string l) := carry hb1 (by go_simp)
  have a1_w1 : w1.cell? ⟨w.heap.size, 1, none⟩ = some (.string s) := carry hb1 (by go_simp)
  have a2_w1 : w1.cell? ⟨w.heap.size, 2, none⟩ = some (.string r) := carry hb1 (by go_simp)
  have a3_w1 : w1.cell? ⟨w.heap.size, 3, none⟩ = some (.slice A vs.length c) := carry hb1 (by go_simp)
  have b0_w1 : w1.cell? ⟨w.heap.size + 1, 0, none⟩ = some (.string l') := carry hb1 (by go_simp)
  have b1_w1 : w1.cell? ⟨w.heap.size + 1, 1, none⟩ = some (.string s') := carry hb1 (by go_simp)
  have b2_w1 : w1.cell? ⟨w.heap.size + 1, 2, none⟩ = some (.string r') := carry hb1 (by go_simp)
  have b3_w1 : w1.cell? ⟨w.heap.size + 1, 3, none⟩ = some (.slice B vs'.length d) := carry hb1 (by go_simp)
  have qa0_w1 := lt_of_cell a0_w1
  have qb0_w1 := lt_of_cell b0_w1
  have z1 : w.heap.size + 1 < w1.heap.size := by have := hb1.size; first | omega | (simp at this; omega)
  go_wp2_with fail
  refine (KA.out _ ?_).mono ?_
  · exact (by (have y1 := hb1.size; (repeat (first | with_reducible exact Below.refl _ _ | with_reducible refine bel_set ?_ ?_ | with_reducible refine bel_alloc ?_ ?_ | with_reducible refine Below.drew ?_ | with_reducible refine bel_drewN _ ?_ | with_reducible refine bel_call ?_ (by assumption) ?_)); all_goals (first | (simp; done) | omega | (simp; omega))))
  rintro e w2 ⟨he, hb2⟩
  have e2 : errOf (tagErr l.data.toList s.data.toList r.data.toList (listsOf vs)) = errT (tagErr l.data.toList s.data.toList r.data.toList (listsOf vs)) := if_neg H1.out
  rw [e2] at he
  subst he
  go_wp2_with fail
  go_ret
  exact ⟨rfl, (by (have y1 := hb1.size; have y2 := hb2.size; (repeat (first | with_reducible exact Below.refl _ _ | with_reducible refine bel_set ?_ ?_ | with_reducible refine bel_alloc ?_ ?_ | with_reducible refine Below.drew ?_ | with_reducible refine bel_drewN _ ?_ | with_reducible refine bel_call ?_ (by assumption) ?_)); all_goals (first | (simp; done) | omega | (simp; omega))))⟩

set_option maxHeartbeats 1000000 in
theorem tagShort_b (l s r l' s' r' : ByteArray) (A B : Option Addr) (c d : Nat) (vs vs' : List ByteArray) (w : World) (hM : MaxL w) (hA : StrsIn w A vs) (hB : StrsIn w B vs') (hA0 : A = none → c = 0) (hB0 : B = none → d = 0) (hc : vs.length ≤ c) (hd : vs'.length ≤ d) (hm : ∀ z ∈ [l, s, r, l', s', r'] ++ (vs ++ vs'), z.size ≤ 9223372036854775807) (hn : vs.length ≤ 9223372036854775807) (hn' : vs'.length ≤ 9223372036854775807) (h1 : tagErr l.data.toList s.data.toList r.data.toList (listsOf vs) = 0) (h2 : tagErr l'.data.toList s'.data.toList r'.data.toList (listsOf vs') ≠ 0) :
    Calls Tryd.prog 3 #[tagV l s r A vs.length c, tagV l' s' r' B vs'.length d] w fun e w' => e = .returned (.bool true) ∧ Below w.heap.size w w' := by
  have H1 := Lib.hid h1
  have H2 := Lib.hid h2
  clear h1 h2
  have KA := Lib.hid (fun W (h : Below w.heap.size w W) => tag_check l s r A c vs W (hm l (by simp)) (hm s (by simp)) (hm r (by simp)) (hA.below h) hn hc (fun z hz => hm z (by simp [hz])))
  have KB := Lib.hid (fun W (h : Below w.heap.size w W) => tag_check l' s' r' B d vs' W (hm l' (by simp)) (hm s' (by simp)) (hm r' (by simp)) (hB.below h) hn' hd (fun z hz => hm z (by simp [hz])))
  have HM := Lib.hid hM
  have HA := Lib.hid hA
  have HB := Lib.hid hB
  clear hM hA hB hm
  go_enter Tryd.func3, Tryd.ntmps3
  go_wp2_with fail
  have hp := HM.out.below (((Below.refl w.heap.size w).alloc (Nat.le_refl _) (.cells #[.string l, .string s, .string r, .slice A vs.length c] 24)).alloc (by simp) (.cells #[.string l', .string s', .string r', .slice B vs'.length d] 24))
  have HP := Lib.hid hp
  clear hp
  refine (parse_enus _ HP.out).mono ?_
  rintro e w1 ⟨rfl, hb1⟩
  have a0_w1 : w1.cell? ⟨w.heap.size, 0, none⟩ = some (.string l) := carry hb1 (by go_simp)
  have a1_w1 : w1.cell? ⟨w.heap.size, 1, none⟩ = some (.string s) := carry hb1 (by go_simp)
  have a2_w1 : w1.cell? ⟨w.heap.size, 2, none⟩ = some (.string r) := carry hb1 (by go_simp)
  have a3_w1 : w1.cell? ⟨w.heap.size, 3, none⟩ = some (.slice A vs.length c) := carry hb1 (by go_simp)
  have b0_w1 : w1.cell? ⟨w.heap.size + 1, 0, none⟩ = some (.string l') := carry hb1 (by go_simp)
  have b1_w1 : w1.cell? ⟨w.heap.size + 1, 1, none⟩ = some (.string s') := carry hb1 (by go_simp)
  have b2_w1 : w1.cell? ⟨w.heap.size + 1, 2, none⟩ = some (.string r') := carry hb1 (by go_simp)
  have b3_w1 : w1.cell? ⟨w.heap.size + 1, 3, none⟩ = some (.slice B vs'.length d) := carry hb1 (by go_simp)
  have qa0_w1 := lt_of_cell a0_w1
  have qb0_w1 := lt_of_cell b0_w1
  have z1 : w.heap.size + 1 < w1.heap.size := by have := hb1.size; first | omega | (simp at this; omega)
  go_wp2_with fail
  refine (KA.out _ ?_).mono ?_
  · exact (by (have y1 := hb1.size; (repeat (first | with_reducible exact Below.refl _ _ | with_reducible refine bel_set ?_ ?_ | with_reducible refine bel_alloc ?_ ?_ | with_reducible refine Below.drew ?_ | with_reducible refine bel_drewN _ ?_ | with_reducible refine bel_call ?_ (by assumption) ?_)); all_goals (first | (simp; done) | omega | (simp; omega))))
  rintro e w2 ⟨he, hb2⟩
  have a0_w2 : w2.cell? ⟨w.heap.size, 0, none⟩ = some (.string l) := carry hb2 (by go_simp)
  have a1_w2 : w2.cell? ⟨w.heap.size, 1, none⟩ = some (.string s) := carry hb2 (by go_simp)
  have a2_w2 : w2.cell? ⟨w.heap.size, 2, none⟩ = some (.string r) := carry hb2 (by go_simp)
  have a3_w2 : w2.cell? ⟨w.heap.size, 3, none⟩ = some (.slice A vs.length c) := carry hb2 (by go_simp)
  have b0_w2 : w2.cell? ⟨w.heap.size + 1, 0, none⟩ = some (.string l') := carry hb2 (by go_simp)
  have b1_w2 : w2.cell? ⟨w.heap.size + 1, 1, none⟩ = some (.string s') := carry hb2 (by go_simp)
  have b2_w2 : w2.cell? ⟨w.heap.size + 1, 2, none⟩ = some (.string r') := carry hb2 (by go_simp)
  have b3_w2 : w2.cell? ⟨w.heap.size + 1, 3, none⟩ = some (.slice B vs'.length d) := carry hb2 (by go_simp)
  have qa0_w2 := lt_of_cell a0_w2
  have qb0_w2 := lt_of_cell b0_w2
  clear a0_w1 a1_w1 a2_w1 a3_w1 b0_w1 b1_w1 b2_w1 b3_w1
  rw [H1.out] at he
  obtain rfl : e = .returned .nilIface := he
  go_wp2_with fail
  refine (KB.out _ ?_).mono ?_
  · exact (by (have y1 := hb1.size; have y2 := hb2.size; (repeat (first | with_reducible exact Below.refl _ _ | with_reducible refine bel_set ?_ ?_ | with_reducible refine bel_alloc ?_ ?_ | with_reducible refine Below.drew ?_ | with_reducible refine bel_drewN _ ?_ | with_reducible refine bel_call ?_ (by assumption) ?_)); all_goals (first | (simp; done) | omega | (simp; omega))))
  rintro e w3 ⟨he, hb3⟩
  have e2 : errOf (tagErr l'.data.toList s'.data.toList r'.data.toList (listsOf vs')) = errT (tagErr l'.data.toList s'.data.toList r'.data.toList (listsOf vs')) := if_neg H2.out
  rw [e2] at he
  subst he
  go_wp2_with fail
  go_ret
  exact ⟨rfl, (by (have y1 := hb1.size; have y2 := hb2.size; have y3 := hb3.size; (repeat (first | with_reducible exact Below.refl _ _ | with_reducible refine bel_set ?_ ?_ | with_reducible refine bel_alloc ?_ ?_ | with_reducible refine Below.drew ?_ | with_reducible refine bel_drewN _ ?_ | with_reducible refine bel_call ?_ (by assumption) ?_)); all_goals (first | (simp; done) | omega | (simp; omega))))⟩

set_option maxHeartbeats 4000000 in
theorem tagShort_ok (l s r l' s' r' : ByteArray) (A B : Option Addr) (c d : Nat) (vs vs' : List ByteArray) (w : World) (hM : MaxL w) (hA : StrsIn w A vs) (hB : StrsIn w B vs') (hA0 : A = none → c = 0) (hB0 : B = none → d = 0) (hc : vs.length ≤ c) (hd : vs'.length ≤ d) (hm : ∀ z ∈ [l, s, r, l', s', r'] ++ (vs ++ vs'), z.size ≤ 9223372036854775807) (hn : vs.length ≤ 9223372036854775807) (hn' : vs'.length ≤ 9223372036854775807) (h1 : tagErr l.data.toList s.data.toList r.data.toList (listsOf vs) = 0) (h2 : tagErr l'.data.toList s'.data.toList r'.data.toList (listsOf vs') = 0) :
    Calls Tryd.prog 3 #[tagV l s r A vs.length c, tagV l' s' r' B vs'.length d] w fun e w' => e = .returned (.bool true) ∧ Below w.heap.size w w' := by
  have hst := same_text h1 h2
  obtain ⟨hts, hpl⟩ := text_size h1
  have hv3 : vs.length ≤ 3 := by have := (tagErr_ok h1).2.2.2.2; simpa using this
  have hlt := text_len h1
  have hlt2 : (ByteArray.mk (tagText l.data.toList s.data.toList r.data.toList (listsOf vs)).toArray).size ≤ 100 := by
    show (tagText l.data.toList s.data.toList r.data.toList (listsOf vs)).toArray.size ≤ 100
    simpa using hlt
  have KTA := fun W (h : Below w.heap.size w W) => tag_text l s r A c vs W (hA.below h) hA0 h1
  have KTB := fun W (h : Below w.heap.size w W) => tag_text l' s' r' B d vs' W (hB.below h) hB0 h2
  have KS := fun W (h : Below w.heap.size w W) => same_tag l s r l' s' r' A B c d vs vs' W (hA.below h) (hB.below h) hn hn'
  have KP := fun W (h : Below w.heap.size w W) => ref_parts l s r A c vs W (hA.below h) hA0 (by omega)
  generalize ByteArray.mk (tagText l.data.toList s.data.toList r.data.toList (listsOf vs)).toArray = Ta at *
  generalize ByteArray.mk (tagText l'.data.toList s'.data.toList r'.data.toList (listsOf vs')).toArray = Tb at *
  generalize sameTagB l s r l' s' r' vs vs' = q at *
  generalize neL ([l, s, r] ++ vs) = ps at *
  have GTA := Lib.hid KTA
  have GTB := Lib.hid KTB
  have GS := Lib.hid KS
  have GP := Lib.hid KP
  have HST := Lib.hid hst
  have HTS := Lib.hid hts
  have H1 := Lib.hid h1
  have H2 := Lib.hid h2
  clear h1 h2 KTA KTB KS KP hst hts hlt
  have KA := Lib.hid (fun W (h : Below w.heap.size w W) => tag_check l s r A c vs W (hm l (by simp)) (hm s (by simp)) (hm r (by simp)) (hA.below h) hn hc (fun z hz => hm z (by simp [hz])))
  have KB := Lib.hid (fun W (h : Below w.heap.size w W) => tag_check l' s' r' B d vs' W (hm l' (by simp)) (hm s' (by simp)) (hm r' (by simp)) (hB.below h) hn' hd (fun z hz => hm z (by simp [hz])))
  have HM := Lib.hid hM
  have HA := Lib.hid hA
  have HB := Lib.hid hB
  clear hM hA hB hm
  go_enter Tryd.func3, Tryd.ntmps3
  go_wp2_with fail
  have hp := HM.out.below (((Below.refl w.heap.size w).alloc (Nat.le_refl _) (.cells #[.string l, .string s, .string r, .slice A vs.length c] 24)).alloc (by simp) (.cells #[.string l', .string s', .string r', .slice B vs'.length d] 24))
  have HP := Lib.hid hp
  clear hp
  refine (parse_enus _ HP.out).mono ?_
  rintro e w1 ⟨rfl, hb1⟩
  have a0_w1 : w1.cell? ⟨w.heap.size, 0, none⟩ = some (.string l) := carry hb1 (by go_simp)
  have a1_w1 : w1.cell? ⟨w.heap.size, 1, none⟩ = some (.string s) := carry hb1 (by go_simp)
  have a2_w1 : w1.cell? ⟨w.heap.size, 2, none⟩ = some (.string r) := carry hb1 (by go_simp)
  have a3_w1 : w1.cell? ⟨w.heap.size, 3, none⟩ = some (.slice A vs.length c) := carry hb1 (by go_simp)
  have b0_w1 : w1.cell? ⟨w.heap.size + 1, 0, none⟩ = some (.string l') := carry hb1 (by go_simp)
  have b1_w1 : w1.cell? ⟨w.heap.size + 1, 1, none⟩ = some (.string s') := carry hb1 (by go_simp)
  have b2_w1 : w1.cell? ⟨w.heap.size + 1, 2, none⟩ = some (.string r') := carry hb1 (by go_simp)
  have b3_w1 : w1.cell? ⟨w.heap.size + 1, 3, none⟩ = some (.slice B vs'.length d) := carry hb1 (by go_simp)
  have qa0_w1 := lt_of_cell a0_w1
  have qb0_w1 := lt_of_cell b0_w1
  have z1 : w.heap.size + 1 < w1.heap.size := by have := hb1.size; first | omega | (simp at this; omega)
  go_wp2_with fail
  refine (KA.out _ ?_).mono ?_
  · exact (by (have y1 := hb1.size; (repeat (first | with_reducible exact Below.refl _ _ | with_reducible refine bel_set ?_ ?_ | with_reducible refine bel_alloc ?_ ?_ | with_reducible refine Below.drew ?_ | with_reducible refine bel_drewN _ ?_ | with_reducible refine bel_call ?_ (by assumption) ?_)); all_goals (first | (simp; done) | omega | (simp; omega))))
  rintro e w2 ⟨he, hb2⟩
  have a0_w2 : w2.cell? ⟨w.heap.size, 0, none⟩ = some (.string l) := carry hb2 (by go_simp)
  have a1_w2 : w2.cell? ⟨w.heap.size, 1, none⟩ = some (.string s) := carry hb2 (by go_simp)
  have a2_w2 : w2.cell? ⟨w.heap.size, 2, none⟩ = some (.string r) := carry hb2 (by go_simp)
  have a3_w2 : w2.cell? ⟨w.heap.size, 3, none⟩ = some (.slice A vs.length c) := carry hb2 (by go_simp)
  have b0_w2 : w2.cell? ⟨w.heap.size + 1, 0, none⟩ = some (.string l') := carry hb2 (by go_simp)
  have b1_w2 : w2.cell? ⟨w.heap.size + 1, 1, none⟩ = some (.string s') := carry hb2 (by go_simp)
  have b2_w2 : w2.cell? ⟨w.heap.size + 1, 2, none⟩ = some (.string r') := carry hb2 (by go_simp)
  have b3_w2 : w2.cell? ⟨w.heap.size + 1, 3, none⟩ = some (.slice B vs'.length d) := carry hb2 (by go_simp)
  have qa0_w2 := lt_of_cell a0_w2
  have qb0_w2 := lt_of_cell b0_w2
  clear a0_w1 a1_w1 a2_w1 a3_w1 b0_w1 b1_w1 b2_w1 b3_w1
  rw [H1.out] at he
  obtain rfl : e = .returned .nilIface := he
  go_wp2_with fail
  refine (KB.out _ ?_).mono ?_
  · exact (by (have y1 := hb1.size; have y2 := hb2.size; (repeat (first | with_reducible exact Below.refl _ _ | with_reducible refine bel_set ?_ ?_ | with_reducible refine bel_alloc ?_ ?_ | with_reducible refine Below.drew ?_ | with_reducible refine bel_drewN _ ?_ | with_reducible refine bel_call ?_ (by assumption) ?_)); all_goals (first | (simp; done) | omega | (simp; omega))))
  rintro e w3 ⟨he, hb3⟩
  have a0_w3 : w3.cell? ⟨w.heap.size, 0, none⟩ = some (.string l) := carry hb3 (by go_simp)
  have a1_w3 : w3.cell? ⟨w.heap.size, 1, none⟩ = some (.string s) := carry hb3 (by go_simp)
  have a2_w3 : w3.cell? ⟨w.heap.size, 2, none⟩ = some (.string r) := carry hb3 (by go_simp)
  have a3_w3 : w3.cell? ⟨w.heap.size, 3, none⟩ = some (.slice A vs.length c) := carry hb3 (by go_simp)
  have b0_w3 : w3.cell? ⟨w.heap.size + 1, 0, none⟩ = some (.string l') := carry hb3 (by go_simp)
  have b1_w3 : w3.cell? ⟨w.heap.size + 1, 1, none⟩ = some (.string s') := carry hb3 (by go_simp)
  have b2_w3 : w3.cell? ⟨w.heap.size + 1, 2, none⟩ = some (.string r') := carry hb3 (by go_simp)
  have b3_w3 : w3.cell? ⟨w.heap.size + 1, 3, none⟩ = some (.slice B vs'.length d) := carry hb3 (by go_simp)
  have qa0_w3 := lt_of_cell a0_w3
  have qb0_w3 := lt_of_cell b0_w3
  clear a0_w2 a1_w2 a2_w2 a3_w2 b0_w2 b1_w2 b2_w2 b3_w2
  rw [H2.out] at he
  obtain rfl : e = .returned .nilIface := he
  go_wp2_with fail
  refine (GS.out _ ?_).mono ?_
  · exact (by (have y1 := hb1.size; have y2 := hb2.size; have y3 := hb3.size; (repeat (first | with_reducible exact Below.refl _ _ | with_reducible refine bel_set ?_ ?_ | with_reducible refine bel_alloc ?_ ?_ | with_reducible refine Below.drew ?_ | with_reducible refine bel_drewN _ ?_ | with_reducible refine bel_call ?_ (by assumption) ?_)); all_goals (first | (simp; done) | omega | (simp; omega))))
  rintro e w4 ⟨rfl, hb4⟩
  have a0_w4 : w4.cell? ⟨w.heap.size, 0, none⟩ = some (.string l) := carry hb4 (by go_simp)
  have a1_w4 : w4.cell? ⟨w.heap.size, 1, none⟩ = some (.string s) := carry hb4 (by go_simp)
  have a2_w4 : w4.cell? ⟨w.heap.size, 2, none⟩ = some (.string r) := carry hb4 (by go_simp)
  have a3_w4 : w4.cell? ⟨w.heap.size, 3, none⟩ = some (.slice A vs.length c) := carry hb4 (by go_simp)
  have b0_w4 : w4.cell? ⟨w.heap.size + 1, 0, none⟩ = some (.string l') := carry hb4 (by go_simp)
  have b1_w4 : w4.cell? ⟨w.heap.size + 1, 1, none⟩ = some (.string s') := carry hb4 (by go_simp)
  have b2_w4 : w4.cell? ⟨w.heap.size + 1, 2, none⟩ = some (.string r') := carry hb4 (by go_simp)
  have b3_w4 : w4.cell? ⟨w.heap.size + 1, 3, none⟩ = some (.slice B vs'.length d) := carry hb4 (by go_simp)
  have qa0_w4 := lt_of_cell a0_w4
  have qb0_w4 := lt_of_cell b0_w4
  clear a0_w3 a1_w3 a2_w3 a3_w3 b0_w3 b1_w3 b2_w3 b3_w3
  go_wp2_with fail
  refine (GP.out _ ?_).mono ?_
  · exact (by (have y1 := hb1.size; have y2 := hb2.size; have y3 := hb3.size; have y4 := hb4.size; (repeat (first | with_reducible exact Below.refl _ _ | with_reducible refine bel_set ?_ ?_ | with_reducible refine bel_alloc ?_ ?_ | with_reducible refine Below.drew ?_ | with_reducible refine bel_drewN _ ?_ | with_reducible refine bel_call ?_ (by assumption) ?_)); all_goals (first | (simp; done) | omega | (simp; omega))))
  rintro e w5 ⟨pv, rfl, ho, hb5⟩
  have a0_w5 : w5.cell? ⟨w.heap.size, 0, none⟩ = some (.string l) := carry hb5 (by go_simp)
  have a1_w5 : w5.cell? ⟨w.heap.size, 1, none⟩ = some (.string s) := carry hb5 (by go_simp)
  have a2_w5 : w5.cell? ⟨w.heap.size, 2, none⟩ = some (.string r) := carry hb5 (by go_simp)
  have a3_w5 : w5.cell? ⟨w.heap.size, 3, none⟩ = some (.slice A vs.length c) := carry hb5 (by go_simp)
  have b0_w5 : w5.cell? ⟨w.heap.size + 1, 0, none⟩ = some (.string l') := carry hb5 (by go_simp)
  have b1_w5 : w5.cell? ⟨w.heap.size + 1, 1, none⟩ = some (.string s') := carry hb5 (by go_simp)
  have b2_w5 : w5.cell? ⟨w.heap.size + 1, 2, none⟩ = some (.string r') := carry hb5 (by go_simp)
  have b3_w5 : w5.cell? ⟨w.heap.size + 1, 3, none⟩ = some (.slice B vs'.length d) := carry hb5 (by go_simp)
  have qa0_w5 := lt_of_cell a0_w5
  have qb0_w5 := lt_of_cell b0_w5
  clear a0_w4 a1_w4 a2_w4 a3_w4 b0_w4 b1_w4 b2_w4 b3_w4
  obtain ⟨PA, pc, rfl, _, hps, _⟩ := ho.form
  clear ho KA KB GS GP
  have HPS := Lib.hid hps
  clear hps
  have hbw : Below w.heap.size w w5 := (by (have y1 := hb1.size; have y2 := hb2.size; have y3 := hb3.size; have y4 := hb4.size; have y5 := hb5.size; (repeat (first | with_reducible exact Below.refl _ _ | with_reducible refine bel_set ?_ ?_ | with_reducible refine bel_alloc ?_ ?_ | with_reducible refine Below.drew ?_ | with_reducible refine bel_drewN _ ?_ | with_reducible refine bel_call ?_ (by assumption) ?_)); all_goals (first | (simp; done) | omega | (simp; omega))))
  have HBW := Lib.hid hbw
  clear hbw
  have hp3 : ps.length ≤ 101 := by have := HTS.out; omega
  go_wp2_with fail
  go_loop [9, 10] (fun v i => ∃ k : Nat, k ≤ ps.length ∧ i = .int .i64 k ∧ v = .int .i64 ((ps.length - 1 + lensB (ps.take k) : Nat) : Int)) (fun _ i => ps.length - (intOf i).toNat)
  case atStart => exact ⟨0, Nat.zero_le _, rfl, by congr 1; simp [lensB]; omega⟩
  case round =>
    obtain ⟨k, hk, rfl, rfl⟩ := hrel
    by_cases hlt : k < ps.length
    · have hg : ps[k]? = some ps[k] := List.getElem?_eq_getElem hlt
      rcases HPS.out with h0 | ⟨bk, o, rfl, hcc⟩
      · subst h0; simp at hlt
      have hcell := hcc k _ hg
      have hls := lensB_take_succ ps k _ hg
      have hle := lensB_take_le ps (k + 1)
      have hsz : lensB ps ≤ 100 := by have := HTS.out; omega
      clear hcc hg
      generalize ps[k] = x at *
      have i1 : (0 : Int) ≤ (k : Int) := by omega
      have i2 : (k : Int) < (ps.length : Int) := by omega
      have HLS := Lib.hid hls
      have hq : lensB (ps.take k) ≤ 100 := by omega
      have hx : x.size ≤ 100 := by omega
      clear hls hle
      generalize lensB (ps.take k) = m at *
      go_wp2_with fail
      go_round
      case rel => exact ⟨k + 1, by omega, by go_num, by rw [HLS.out]; go_num⟩
      case measure => simp [intOf]; omega
    · obtain rfl : k = ps.length := by omega
      have hfin : ((ps.length - 1 + lensB (ps.take ps.length) : Nat) : Int) = (Ta.size : Int) := by
        rw [List.take_length, HTS.out]
      rw [hfin]
      clear hfin
      have hfs : Hid (Ta.size = Ta.size) := Lib.hid rfl
      cases q
      · have n1 := beq_ne HST.out
        have n2 := HST.out
        clear HTS HPS
        go_wp2_with fail
        go_region_held3 (fun w' => w'.cell? ⟨w.heap.size, 0, none⟩ = some (.string l) ∧ w'.cell? ⟨w.heap.size, 1, none⟩ = some (.string s) ∧ w'.cell? ⟨w.heap.size, 2, none⟩ = some (.string r) ∧ w'.cell? ⟨w.heap.size, 3, none⟩ = some (.slice A vs.length c) ∧ w'.cell? ⟨w.heap.size + 1, 0, none⟩ = some (.string l') ∧ w'.cell? ⟨w.heap.size + 1, 1, none⟩ = some (.string s') ∧ w'.cell? ⟨w.heap.size + 1, 2, none⟩ = some (.string r') ∧ w'.cell? ⟨w.heap.size + 1, 3, none⟩ = some (.slice B vs'.length d)) (first | go_keep | (go_split_ands; refine ⟨?_, ?_, ?_, ?_, ?_, ?_, ?_, ?_⟩ <;> first | assumption | exact carry (by assumption) (by go_simp) | exact carry (by assumption) (carry (by assumption) (by go_simp)) | exact carry (by assumption) (carry (by assumption) (carry (by assumption) (by go_simp))))) (first | (go_at_call 13; ((with_reducible refine (GTA.out _ ?_).mono ?_); (first | exact HBW.out | exact HBW.out.drew | exact Hid.out (by assumption) | exact Below.drew (Hid.out (by assumption)) | exact bel_drewN _ (Hid.out (by assumption))); rintro e wx ⟨rfl, hbx⟩; have HBX : Hid (Below w.heap.size w wx) := Lib.hid (by first | exact bel_call HBW.out hbx (by have := HBW.out.size; omega) | exact bel_call HBW.out.drew hbx (by have := HBW.out.size; (first | omega | (simp; omega))) | exact bel_call (Hid.out (by assumption)) hbx (Below.size (Hid.out (by assumption)))); have hbz := hbx; clear hbx)) | (go_at_call 13; ((with_reducible refine (GTB.out _ ?_).mono ?_); (first | exact HBW.out | exact HBW.out.drew | exact Hid.out (by assumption) | exact Below.drew (Hid.out (by assumption)) | exact bel_drewN _ (Hid.out (by assumption))); rintro e wx ⟨rfl, hbx⟩; have HBX : Hid (Below w.heap.size w wx) := Lib.hid (by first | exact bel_call HBW.out hbx (by have := HBW.out.size; omega) | exact bel_call HBW.out.drew hbx (by have := HBW.out.size; (first | omega | (simp; omega))) | exact bel_call (Hid.out (by assumption)) hbx (Below.size (Hid.out (by assumption)))); have hbz := hbx; clear hbx)))
        all_goals go_wp2_with fail
        all_goals go_ret
        all_goals exact ⟨rfl, Hid.out (by assumption)⟩
      · obtain rfl := bytes_eq HST.out
        clear HTS HPS HST
        go_wp2_with fail
        go_region_held3 (fun w' => w'.cell? ⟨w.heap.size, 0, none⟩ = some (.string l) ∧ w'.cell? ⟨w.heap.size, 1, none⟩ = some (.string s) ∧ w'.cell? ⟨w.heap.size, 2, none⟩ = some (.string r) ∧ w'.cell? ⟨w.heap.size, 3, none⟩ = some (.slice A vs.length c) ∧ w'.cell? ⟨w.heap.size + 1, 0, none⟩ = some (.string l') ∧ w'.cell? ⟨w.heap.size + 1, 1, none⟩ = some (.string s') ∧ w'.cell? ⟨w.heap.size + 1, 2, none⟩ = some (.string r') ∧ w'.cell? ⟨w.heap.size + 1, 3, none⟩ = some (.slice B vs'.length d)) (first | go_keep | (go_split_ands; refine ⟨?_, ?_, ?_, ?_, ?_, ?_, ?_, ?_⟩ <;> first | assumption | exact carry (by assumption) (by go_simp) | exact carry (by assumption) (carry (by assumption) (by go_simp)) | exact carry (by assumption) (carry (by assumption) (carry (by assumption) (by go_simp))))) (first | (go_at_call 13; ((with_reducible refine (GTA.out _ ?_).mono ?_); (first | exact HBW.out | exact HBW.out.drew | exact Hid.out (by assumption) | exact Below.drew (Hid.out (by assumption)) | exact bel_drewN _ (Hid.out (by assumption))); rintro e wx ⟨rfl, hbx⟩; have HBX : Hid (Below w.heap.size w wx) := Lib.hid (by first | exact bel_call HBW.out hbx (by have := HBW.out.size; omega) | exact bel_call HBW.out.drew hbx (by have := HBW.out.size; (first | omega | (simp; omega))) | exact bel_call (Hid.out (by assumption)) hbx (Below.size (Hid.out (by assumption)))); have hbz := hbx; clear hbx)) | (go_at_call 13; ((with_reducible refine (GTB.out _ ?_).mono ?_); (first | exact HBW.out | exact HBW.out.drew | exact Hid.out (by assumption) | exact Below.drew (Hid.out (by assumption)) | exact bel_drewN _ (Hid.out (by assumption))); rintro e wx ⟨rfl, hbx⟩; have HBX : Hid (Below w.heap.size w wx) := Lib.hid (by first | exact bel_call HBW.out hbx (by have := HBW.out.size; omega) | exact bel_call HBW.out.drew hbx (by have := HBW.out.size; (first | omega | (simp; omega))) | exact bel_call (Hid.out (by assumption)) hbx (Below.size (Hid.out (by assumption)))); have hbz := hbx; clear hbx)))
        all_goals go_wp2_with fail
        all_goals go_ret
        all_goals exact ⟨rfl, Hid.out (by assumption)⟩

theorem walk15 (l s r l' s' r' : ByteArray) (A B : Option Addr) (c d : Nat) (vs vs' : List ByteArray) (w : World) (hM : MaxL w) (hA : StrsIn w A vs) (hB : StrsIn w B vs') (hA0 : A = none → c = 0) (hB0 : B = none → d = 0) (hc : vs.length ≤ c) (hd : vs'.length ≤ d) (hm : ∀ z ∈ [l, s, r, l', s', r'] ++ (vs ++ vs'), z.size ≤ 9223372036854775807) (hn : vs.length ≤ 9223372036854775807) (hn' : vs'.length ≤ 9223372036854775807) :
    Calls Tryd.prog 3 #[tagV l s r A vs.length c, tagV l' s' r' B vs'.length d] w fun e w' => e = .returned (.bool true) ∧ Below w.heap.size w w' := by
  by_cases h1 : tagErr l.data.toList s.data.toList r.data.toList (listsOf vs) = 0
  · by_cases h2 : tagErr l'.data.toList s'.data.toList r'.data.toList (listsOf vs') = 0
    · exact tagShort_ok l s r l' s' r' A B c d vs vs' w hM hA hB hA0 hB0 hc hd hm hn hn' h1 h2
    · exact tagShort_b l s r l' s' r' A B c d vs vs' w hM hA hB hA0 hB0 hc hd hm hn hn' h1 h2
  · exact tagShort_a l s r l' s' r' A B c d vs vs' w hM hA hB hA0 hB0 hc hd hm hn hn' h1
end Go.Proofs.YtdpdnanjanceeaaDoor
