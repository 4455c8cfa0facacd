/- PickSelf: the law's walk. -/
import Derived.Test.YtdpdnanjanceeaaDoorPickAll
import Derived.Test.YtdpdnanjanceeaaDoorTagParse
namespace Go.Proofs.YtdpdnanjanceeaaDoor
open Go.RowKit
attribute [local go_sem ↓] Go.wp_at_zero Go.wp_at_succ

theorem lessC_lang {t t' : TagC} (h : lessC t = some t') : t'.l = t.l := by
  unfold lessC at h
  split at h
  · cases h; rfl
  · split at h
    · cases h; rfl
    · split at h
      · cases h; rfl
      · cases h
theorem empty_of {b : ByteArray} (h : b.data.toList.isEmpty = true) : b = ⟨#[]⟩ := by
  have h1 : b.data.toList = [] := by simpa using h
  exact ByteArray.ext (Array.ext' (by simpa using h1))
theorem lessC_none_is {t : TagC} (h : lessC t = none) : t = ⟨t.l, ⟨#[]⟩, ⟨#[]⟩, []⟩ := by
  unfold lessC at h
  split at h
  · cases h
  · rename_i h1
    have h1 : t.vs = [] := by simpa using h1
    split at h
    · cases h
    · rename_i h2
      have h2 : t.r.data.toList.isEmpty = true := by simpa using h2
      split at h
      · cases h
      · rename_i h3
        have h3 : t.s.data.toList.isEmpty = true := by simpa using h3
        obtain ⟨l, s, r, vs⟩ := t
        simp only at h1 h2 h3 ⊢
        rw [h1, empty_of h2, empty_of h3]
/-- the end of each chain is the language -/
theorem chain_lang (k : Nat) : ∀ t, sizeC t = k → (TagC.mk t.l ⟨#[]⟩ ⟨#[]⟩ []) ∈ chainC t := by
  induction k with
  | zero =>
    intro t h
    cases hl : lessC t with
    | none => rw [chainC_none hl, ← lessC_none_is hl]; simp
    | some t' => have := lessC_size hl; omega
  | succ k ih =>
    intro t h
    cases hl : lessC t with
    | none => rw [chainC_none hl, ← lessC_none_is hl]; simp
    | some t' =>
      have := lessC_size hl
      rw [chainC_some hl, ← lessC_lang hl]
      exact List.mem_cons_of_mem _ (ih t' (by omega))

abbrev usTag : Value := tagV ⟨#[101, 110]⟩ ⟨#[]⟩ ⟨#[85, 83]⟩ none 0 0

set_option maxHeartbeats 1000000 in
theorem self_out (A : Option Addr) (n c : Nat) (i : Int) (w : World) (hM : MaxL w) (hi : i < 0 ∨ (n : Int) ≤ i) :
    Calls Tryd.prog 5 #[.slice A n c, .int .i64 i] w fun e w' => e = .returned (.bool true) ∧ Below w.heap.size w w' := by
  have HM := Lib.hid hM
  have HI := Lib.hid hi
  clear hM hi
  go_enter Tryd.func5, Tryd.ntmps5
  go_wp2_with fail
  refine (parse_enus _ HM.out).mono ?_
  rintro e w1 ⟨rfl, hb1⟩
  have s1 := hb1.size
  by_cases h0 : i < 0
  · clear HI
    go_wp2_with fail
    go_ret
    exact ⟨rfl, hb1.alloc s1 _⟩
  · have h1 : (n : Int) ≤ i := HI.out.resolve_left h0
    clear HI
    go_wp2_with fail
    go_ret
    exact ⟨rfl, hb1.alloc s1 _⟩

set_option maxHeartbeats 4000000 in
theorem self_bad (g o n c j : Nat) (ts : List TagD) (w : World) (hM : MaxL w) (h1 : TagsIn w g o ts) (hn : ts.length = n) (hnc : n ≤ c) (hk1 : ∀ t ∈ ts, t.fine w) (hz : ∀ t ∈ ts, t.small) (hsz : n ≤ 1955000000000) (hj : j < n) (hE : tagsErr ts ≠ 0) :
    Calls Tryd.prog 5 #[.slice (some ⟨g, o, none⟩) n c, .int .i64 j] w fun e w' => e = .returned (.bool true) ∧ Below w.heap.size w w' := by
  obtain ⟨t, ht⟩ : ∃ t, ts[j]? = some t := ⟨ts[j]'(by omega), List.getElem?_eq_getElem _⟩
  have htm := List.mem_of_getElem? ht
  have KP := Lib.hid (fun gw W (hb : Below w.heap.size w W) (hW : TagsIn W gw 0 [t]) => pick_no gw g o n c t ts W hW (h1.below hb) hn hnc (fun t ht => (hk1 t ht).below hb) hz hsz htm hE)
  have KF := Lib.hid (fun W (hb : Below w.heap.size w W) => tags_fault g o n c ts W (h1.below hb) hn hnc (fun t ht => (hk1 t ht).below hb) hz hsz)
  have HM := Lib.hid hM
  have hT := h1
  have HT := Lib.hid h1
  have HE0 : Hid (tagsErr ts ≠ 0) := Lib.hid hE
  have nE : (tagsErr ts == 0) = false := by rw [beq_eq_false_iff_ne]; exact hE
  have nE2 : (tagsErr ts != 0) = true := by rw [bne_iff_ne]; exact hE
  generalize tagsErr ts = E at *
  have HNE := Lib.hid (And.intro nE nE2)
  clear hM h1 hn hk1 hz hE nE nE2
  obtain ⟨⟨l, s, r, vs⟩, A, q⟩ := t
  go_enter Tryd.func5, Tryd.ntmps5
  go_wp2_with fail
  refine (parse_enus _ HM.out).mono ?_
  rintro e w1 ⟨rfl, hb1⟩
  have s1 := hb1.size
  have i0 : (0 : Int) ≤ (j : Int) := by omega
  have i1 : (j : Int) < (n : Int) := by omega
  have i2 : (j : Int) ≤ (c : Int) := by omega
  have i3 : ¬ ((n : Int) ≤ (j : Int)) := by omega
  have hb1' : Below w.heap.size w (w1.alloc (.cells #[.string ⟨#[101, 110]⟩, .string ⟨#[]⟩, .string ⟨#[85, 83]⟩, .slice none 0 0] 24)) := hb1.alloc s1 _
  have hT2 := HT.out.below hb1'
  have a0 := hT2 j _ 0 _ ht rfl
  have a1 := hT2 j _ 1 _ ht rfl
  have a2 := hT2 j _ 2 _ ht rfl
  have a3 := hT2 j _ 3 _ ht rfl
  simp only [Nat.add_zero] at a0 a1 a2 a3
  have HB1 := Lib.hid hb1'
  clear hT hT2 ht htm hb1 hb1'
  go_wp2_with fail
  refine (KP.out _ _ (HB1.out.alloc (by simp; omega) _) ?_).mono ?_
  · have h2 := OwnsT.tags (OwnsT.lit1 (w1.alloc (.cells #[.string ⟨#[101, 110]⟩, .string ⟨#[]⟩, .string ⟨#[85, 83]⟩, .slice none 0 0] 24)) ⟨⟨l, s, r, vs⟩, A, q⟩)
    have e1 : (w1.alloc (.cells #[.string ⟨#[101, 110]⟩, .string ⟨#[]⟩, .string ⟨#[85, 83]⟩, .slice none 0 0] 24)).heap.size = w1.heap.size + 1 := by simp
    rw [e1] at h2
    exact h2.2.2
  rintro e w2 ⟨⟨F, hF, rfl⟩, hb2⟩
  have HB2 : Hid (Below w.heap.size w w2) := Lib.hid (((HB1.out.alloc (by simp; omega) _).trans (hb2.mono (by simp; omega))))
  obtain ⟨nE, nE2⟩ := HNE.out
  clear hb2 hF
  go_wp2_with fail
  refine (KF.out _ HB2.out).mono ?_
  rintro e w3 ⟨rfl, hb3⟩
  go_wp2_with fail
  go_ret
  exact ⟨rfl, HB2.out.trans (hb3.mono HB2.out.size)⟩

set_option maxHeartbeats 8000000 in
theorem self_ok (g o n c j : Nat) (ts : List TagD) (w : World) (hM : MaxL w) (h1 : TagsIn w g o ts) (hn : ts.length = n) (hnc : n ≤ c) (hk1 : ∀ t ∈ ts, t.fine w) (hz : ∀ t ∈ ts, t.small) (hsz : n ≤ 1955000000000) (hj : j < n) (hE : tagsErr ts = 0) :
    Calls Tryd.prog 5 #[.slice (some ⟨g, o, none⟩) n c, .int .i64 j] w fun e w' => e = .returned (.bool true) ∧ Below w.heap.size w w' := by
  obtain ⟨t, ht⟩ : ∃ t, ts[j]? = some t := ⟨ts[j]'(by omega), List.getElem?_eq_getElem _⟩
  have htm := List.mem_of_getElem? ht
  have hte := tagsErr_mem hE t htm
  obtain ⟨k, hkj, hkl, hkt, hidx⟩ := idx_first (ts.map TagD.text) j t.c.text (by rw [List.getElem?_map, ht]; rfl)
  obtain ⟨u, hu, hut⟩ : ∃ u, ts[k]? = some u ∧ u.c.text = t.c.text := by
    rw [List.getElem?_map] at hkt
    obtain ⟨u, hu, h2⟩ := Option.map_eq_some_iff.1 hkt
    exact ⟨u, hu, h2⟩
  have hum := List.mem_of_getElem? hu
  have hue := tagsErr_mem hE u hum
  have hlo : (TagC.mk t.c.l ⟨#[]⟩ ⟨#[]⟩ []).err = 0 := tagErr_mk (tagErr_ok hte).1 (.inl rfl) (.inl rfl) rfl (by simp)
  have hin : hasText (TagC.mk t.c.l ⟨#[]⟩ ⟨#[]⟩ []).text (chainC t.c) = true := hasText_iff.2 ⟨_, chain_lang _ t.c rfl, rfl⟩
  have KP := Lib.hid (fun gw W (hb : Below w.heap.size w W) (hW : TagsIn W gw 0 [t]) => pick_ok gw g o n c t ts W hW (h1.below hb) hn hnc (fun t ht => (hk1 t ht).below hb) hz hsz htm hE k hidx)
  have KA := Lib.hid (fun W (hb : Below w.heap.size w W) => all_ok t.c.l ⟨#[]⟩ ⟨#[]⟩ g o n c ts W (h1.below hb) hn hnc (fun t ht => (hk1 t ht).below hb) hz hsz hE hlo j t ht hin)
  have KT := Lib.hid (fun W (hb : Below w.heap.size w W) => text_right t.c t.A t.n W hte ((hk1 t htm).below hb).1 (hk1 t htm).2.1)
  have KU := Lib.hid (fun W (hb : Below w.heap.size w W) => text_right u.c u.A u.n W hue ((hk1 u hum).below hb).1 (hk1 u hum).2.1)
  rw [hut] at KU
  have HM := Lib.hid hM
  have HT := Lib.hid h1
  have HTJ := Lib.hid ht
  have HUK := Lib.hid hu
  have hkn : k < n := by omega
  generalize t.c.text = T at *
  clear hM h1 hn hk1 hz hE ht htm hte hkl hkt hidx hu hum hue hlo hin hut
  obtain ⟨⟨l, s, r, vs⟩, A, q⟩ := t
  obtain ⟨⟨l2, s2, r2, vs2⟩, A2, q2⟩ := u
  simp only at *
  go_enter Tryd.func5, Tryd.ntmps5
  go_wp2_with fail
  refine (parse_enus _ HM.out).mono ?_
  rintro e w1 ⟨rfl, hb1⟩
  have s1 := hb1.size
  have i0 : (0 : Int) ≤ (j : Int) := by omega
  have i1 : (j : Int) < (n : Int) := by omega
  have i2 : (j : Int) ≤ (c : Int) := by omega
  have i3 : ¬ ((n : Int) ≤ (j : Int)) := by omega
  have hb1' : Below w.heap.size w (w1.alloc (.cells #[.string ⟨#[101, 110]⟩, .string ⟨#[]⟩, .string ⟨#[85, 83]⟩, .slice none 0 0] 24)) := hb1.alloc s1 _
  have hT2 := HT.out.below hb1'
  have a0 := hT2 j _ 0 _ HTJ.out rfl
  have a1 := hT2 j _ 1 _ HTJ.out rfl
  have a2 := hT2 j _ 2 _ HTJ.out rfl
  have a3 := hT2 j _ 3 _ HTJ.out rfl
  simp only [Nat.add_zero] at a0 a1 a2 a3
  have HB1 := Lib.hid hb1'
  clear hT2 hb1 hb1'
  go_wp2_with fail
  refine (KP.out _ _ (HB1.out.alloc (by simp; omega) _) ?_).mono ?_
  · have h2 := OwnsT.tags (OwnsT.lit1 (w1.alloc (.cells #[.string ⟨#[101, 110]⟩, .string ⟨#[]⟩, .string ⟨#[85, 83]⟩, .slice none 0 0] 24)) ⟨⟨l, s, r, vs⟩, A, q⟩)
    have e1 : (w1.alloc (.cells #[.string ⟨#[101, 110]⟩, .string ⟨#[]⟩, .string ⟨#[85, 83]⟩, .slice none 0 0] 24)).heap.size = w1.heap.size + 1 := by simp
    rw [e1] at h2
    exact h2.2.2
  rintro e w2 ⟨rfl, hb2⟩
  have HB2 : Hid (Below w.heap.size w w2) := Lib.hid (((HB1.out.alloc (by simp; omega) _).trans (hb2.mono (by simp; omega))))
  have hT3 := HT.out.below HB2.out
  have b0 := hT3 j _ 0 _ HTJ.out rfl
  simp only [Nat.add_zero] at b0
  clear hb2 a0 a1 a2 a3 hT3
  go_wp2_with fail
  refine (KA.out _ HB2.out).mono ?_
  rintro e w3 ⟨⟨B, d, xs, rfl, hjx, hxl, hox⟩, hb3⟩
  have HB3 : Hid (Below w.heap.size w w3) := Lib.hid (HB2.out.trans (hb3.mono HB2.out.size))
  obtain ⟨_, _, hform, hxd, _, hints, _⟩ := hox.form
  injection hform with q1 q2' q3
  subst q1 q3
  have HX := Lib.hid hints
  have HJX := Lib.hid hjx
  have HXD := Lib.hid hxd
  clear hb3 b0 hox hints hjx q2' hxd
  go_wp2_with fail
  go_loop [11, 12] (fun b i => ∃ m : Nat, m ≤ xs.length ∧ i = .int .i64 m ∧ b = .bool (decide ((j : Int) ∈ xs.take m))) (fun _ i => xs.length - (intOf i).toNat)
  case atStart => exact ⟨0, Nat.zero_le _, rfl, by simp⟩
  case round =>
    obtain ⟨m, hm, rfl, rfl⟩ := hrel
    by_cases hlt : m < xs.length
    · obtain ⟨x, hx⟩ : ∃ x, xs[m]? = some x := ⟨xs[m], List.getElem?_eq_getElem hlt⟩
      obtain ⟨bk, ob, rfl, hc⟩ : ∃ bk ob, B = some ⟨bk, ob, none⟩ ∧ ∀ (j : Nat) y, xs[j]? = some y → w3.cell? ⟨bk, ob + j, none⟩ = some (.int .i64 y) := by
        rcases HX.out with h | h
        · rw [h] at hlt; simp at hlt
        · exact h
      have hcv := hc m x hx
      have m0 : (0 : Int) ≤ (m : Int) := by omega
      have m1 : (m : Int) < (xs.length : Int) := by omega
      have m2 : (m : Int) ≤ (d : Int) := by have := HXD.out; omega
      have e1 : IntKind.i64.wrap ((m : Int) + 1) = (m : Int) + 1 := IntWalk.i64_in _ (by omega)
      have HST : Hid (decide ((j : Int) ∈ xs.take (m + 1)) = (decide ((j : Int) ∈ xs.take m) || decide (x = (j : Int)))) := Lib.hid (by
        rw [Bool.eq_iff_iff, Bool.or_eq_true, decide_eq_true_iff, decide_eq_true_iff, decide_eq_true_iff, List.take_add_one, hx, List.mem_append]
        constructor
        · rintro (h | h)
          · exact .inl h
          · exact .inr (List.mem_singleton.1 h).symm
        · rintro (h | h)
          · exact .inl h
          · exact .inr (List.mem_singleton.2 h.symm))
      clear hc hx
      generalize decide ((j : Int) ∈ xs.take m) = bm at *
      cases bm
      · by_cases hxj : x = (j : Int)
        · have h2 : decide ((j : Int) ∈ xs.take (m + 1)) = true := by rw [HST.out]; simp [hxj]
          have H2 := Lib.hid h2
          subst hxj
          clear h2 HST
          go_wp2_with fail
          all_goals go_round
          case rel => exact ⟨m + 1, by omega, by go_num, by rw [H2.out]⟩
          case measure => simp [intOf]; omega
        · have h2 : decide ((j : Int) ∈ xs.take (m + 1)) = false := by rw [HST.out]; simp [hxj]
          have H2 := Lib.hid h2
          have nx : (x == (j : Int)) = false := by rw [beq_eq_false_iff_ne]; exact hxj
          clear h2 HST
          go_wp2_with fail
          all_goals go_round
          case rel => exact ⟨m + 1, by omega, by go_num, by rw [H2.out]⟩
          case measure => simp [intOf]; omega
      · have h2 : decide ((j : Int) ∈ xs.take (m + 1)) = true := by rw [HST.out]; simp
        have H2 := Lib.hid h2
        clear h2 HST
        go_wp2_with fail
        all_goals go_round
        case rel => exact ⟨m + 1, by omega, by go_num, by rw [H2.out]⟩
        case measure => simp [intOf]; omega
    · obtain rfl : m = xs.length := by omega
      have hin : decide ((j : Int) ∈ xs.take xs.length) = true := by rw [List.take_length]; exact decide_eq_true HJX.out
      rw [hin]
      clear hin
      have hT4 := HT.out.below HB3.out
      have a0 := hT4 j _ 0 _ HTJ.out rfl
      have a1 := hT4 j _ 1 _ HTJ.out rfl
      have a2 := hT4 j _ 2 _ HTJ.out rfl
      have a3 := hT4 j _ 3 _ HTJ.out rfl
      have b0 := hT4 k _ 0 _ HUK.out rfl
      have b1 := hT4 k _ 1 _ HUK.out rfl
      have b2 := hT4 k _ 2 _ HUK.out rfl
      have b3 := hT4 k _ 3 _ HUK.out rfl
      simp only [Nat.add_zero] at a0 a1 a2 a3 b0 b1 b2 b3
      have k0 : (0 : Int) ≤ (k : Int) := by omega
      have k1 : (k : Int) < (n : Int) := by omega
      have k2 : (k : Int) ≤ (c : Int) := by omega
      have k3 : (k : Int) ≤ (j : Int) := by omega
      have HBR := HB3
      clear hT4 HX HJX
      go_wp2_with fail
      go_region_held3 (fun w' => w'.cell? ⟨g, o + j * 4, none⟩ = some (.string l) ∧ w'.cell? ⟨g, o + j * 4 + 1, none⟩ = some (.string s) ∧ w'.cell? ⟨g, o + j * 4 + 2, none⟩ = some (.string r) ∧ w'.cell? ⟨g, o + j * 4 + 3, none⟩ = some (.slice A vs.length q) ∧ w'.cell? ⟨g, o + k * 4, none⟩ = some (.string l2) ∧ w'.cell? ⟨g, o + k * 4 + 1, none⟩ = some (.string s2) ∧ w'.cell? ⟨g, o + k * 4 + 2, none⟩ = some (.string r2) ∧ w'.cell? ⟨g, o + k * 4 + 3, none⟩ = some (.slice A2 vs2.length q2)) (first | go_keep | (go_split_ands; refine ⟨?_, ?_, ?_, ?_, ?_, ?_, ?_, ?_⟩ <;> first | assumption | exact carry (by assumption) (by go_simp) | exact carry (by assumption) (by assumption) | exact carry (by assumption) (carry (by assumption) (by go_simp)) | exact carry (by assumption) (carry (by assumption) (by assumption)))) (first | (go_at_call 13; ((with_reducible refine (KT.out _ ?_).mono ?_); (first | exact HBR.out | exact HBR.out.drew | exact bel_drewN _ HBR.out | exact Hid.out (by assumption) | exact Below.drew (Hid.out (by assumption)) | exact bel_drewN _ (Hid.out (by assumption)))); rintro e wx ⟨rfl, hbx⟩; have HBX : Hid (Below w.heap.size w wx) := Lib.hid (by first | exact bel_call HBR.out hbx (by have := HBR.out.size; omega) | exact bel_call HBR.out.drew hbx (by have := HBR.out.size; (first | omega | (simp; done) | (simp; omega))) | exact bel_call (Hid.out (by assumption)) hbx (Below.size (Hid.out (by assumption)))); have hbz := hbx; clear hbx) | (go_at_call 13; ((with_reducible refine (KU.out _ ?_).mono ?_); (first | exact HBR.out | exact HBR.out.drew | exact bel_drewN _ HBR.out | exact Hid.out (by assumption) | exact Below.drew (Hid.out (by assumption)) | exact bel_drewN _ (Hid.out (by assumption)))); rintro e wx ⟨rfl, hbx⟩; have HBX : Hid (Below w.heap.size w wx) := Lib.hid (by first | exact bel_call HBR.out hbx (by have := HBR.out.size; omega) | exact bel_call HBR.out.drew hbx (by have := HBR.out.size; (first | omega | (simp; done) | (simp; omega))) | exact bel_call (Hid.out (by assumption)) hbx (Below.size (Hid.out (by assumption)))); have hbz := hbx; clear hbx))
      all_goals go_wp2_with fail
      all_goals go_ret
      all_goals exact ⟨rfl, Hid.out (by assumption)⟩

theorem walk17 (A : Option Addr) (n c : Nat) (ts : List TagD) (i : Int) (w : World) (hM : MaxL w) (hl : ts.length = n) (hnc : n ≤ c) (hsz : n ≤ 1955000000000) (hA : n = 0 ∨ ∃ g o, A = some ⟨g, o, none⟩ ∧ TagsIn w g o ts) (hk1 : ∀ t ∈ ts, t.fine w) (hz : ∀ t ∈ ts, t.small) :
    Calls Tryd.prog 5 #[.slice A n c, .int .i64 i] w fun e w' => e = .returned (.bool true) ∧ Below w.heap.size w w' := by
  by_cases hi : 0 ≤ i ∧ i < (n : Int)
  · obtain ⟨j, rfl⟩ := Int.eq_ofNat_of_zero_le hi.1
    rcases hA with h0 | ⟨g, o, rfl, hT⟩
    · omega
    · by_cases hE : tagsErr ts = 0
      · exact self_ok g o n c j ts w hM hT hl hnc hk1 hz hsz (by omega) hE
      · exact self_bad g o n c j ts w hM hT hl hnc hk1 hz hsz (by omega) hE
  · exact self_out A n c i w hM (by omega)
end Go.Proofs.YtdpdnanjanceeaaDoor
