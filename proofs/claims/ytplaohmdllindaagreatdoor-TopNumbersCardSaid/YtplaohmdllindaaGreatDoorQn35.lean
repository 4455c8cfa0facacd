/- SayPlural: texts put together. -/
import Derived.Test.YtplaohmdllindaaGreatDoorQn34
import Derived.Deep.RegionHeld3
import Derived.Test.YtplaohmdllindaaGreatDoorQn1
set_option linter.unusedVariables false
set_option linter.unusedSimpArgs false
/- eval's one of a Plural. -/
namespace Go.Proofs.YtplaohmdllindaaGreatDoor
open Go.RowKit Go.Maps

set_option maxHeartbeats 8000000 in
set_option maxRecDepth 100000 in
theorem say_plural (V W0 : World) (b mb n : Nat) (S : SetC) (hS : S.ok = true) (hs : S.small) (ags : List ArgC) (hn : (ags.map nmA).Nodup) (hv : ∀ t, (lookA ags t).isNum = true → decOk (lookA ags t).coef (lookA ags t).scale) (f : Nat)
    (hE : RuleEnv W0) (hK : KindsAt W0) (hL : NumLaid W0) (kd off : Int) (t : ByteArray) (A : Option Addr) (cs : List (ByteArray × List Nd)) (cc : Nat) (mc sc : Int) (m : Bool) (hC : CasesN (NodesIn f W0) W0 (.slice A cs.length cc) cs) (hts : t.size ≤ 140737488355328)
    (g : List Nd → Bool → Int) (q : Option Int) (hok : nodeP g q (.mk kd t off cs) m = 0) (T : ByteArray) (w : World) (h : SayW V W0 w b mb n S (argsH ags) T) (hlen : T.size + 200 + (oneP S (lookA ags) (sayP S (lookA ags) f) mc sc (.mk kd t off cs)).2.size ≤ 140737488355328) (hkd : kd = 4)
    (ih : ∀ (v : Value) (c : ByteArray × List Nd) (a d : Int) (w : World), c ∈ cs → kd = 4 ∨ kd = 5 → NodesIn f W0 v c.2 → SayW V W0 w b mb n S (argsH ags) T → T.size + 200 + (sayP S (lookA ags) f c.2 a d).2.size ≤ 140737488355328 →
      Calls Tryz.prog 29 #[.pointer (some ⟨b, 0, none⟩), v, decV a d] w fun e w' => e = .returned (errOf (sayP S (lookA ags) f c.2 a d).1) ∧ SayW V W0 w' b mb n S (argsH ags) (T ++ (sayP S (lookA ags) f c.2 a d).2)) :
    Calls Tryz.prog 74 #[.pointer (some ⟨b, 0, none⟩), .agg #[.int .i64 kd, .string t, .int .i64 off, .slice A cs.length cc], decV mc sc] w fun e w' =>
      e = .returned (errOf (oneP S (lookA ags) (sayP S (lookA ags) f) mc sc (.mk kd t off cs)).1) ∧ SayW V W0 w' b mb n S (argsH ags) (T ++ (oneP S (lookA ags) (sayP S (lookA ags) f) mc sc (.mk kd t off cs)).2) := by
  have HKD := Lib.hid hkd
  clear hkd
  obtain ⟨h1, h2, h3⟩ := nodeP_zero hok
  simp only [Nd.kd, Nd.off, Nd.cs] at h1 h2 h3
  have hw1 : Below w.heap.size w ((w.alloc (.cells #[.int .i64 kd, .string t, .int .i64 off, .slice A cs.length cc] 51)).alloc (.cells #[.int .i64 mc, .int .i64 sc] 23)).drew := belx
  have hw2 : Below w.heap.size w (((w.alloc (.cells #[.int .i64 kd, .string t, .int .i64 off, .slice A cs.length cc] 51)).alloc (.cells #[.int .i64 mc, .int .i64 sc] 23)).alloc (.cells #[.string ⟨#[]⟩, .bool false, .int .i64 0, .int .i64 0, .string ⟨#[]⟩] 38)).drew := belx
  have m5 := (h.below hw1).1.cells.2.2.2.2.2
  have n5 := (h.below hw2).1.cells.2.2.2.2.2
  have hlk1 := look_arg hn (h.below hw1).2.1 t (by unfold maxLen; omega)
  have hlk2 := look_arg hn (h.below hw2).2.1 t (by unfold maxLen; omega)
  unfold argV at hlk1 hlk2
  have HS := Lib.hid h
  have hlt := h.1.lt
  have hva := hv t
  have HO : Hid (oneP S (lookA ags) (sayP S (lookA ags) f) mc sc (.mk kd t off cs) = if kd = 1 then (0, t) else if kd = 6 then numP mc sc else if kd = 3 then numP (lookA ags t).coef (lookA ags t).scale
      else if kd = 4 then (if (lessP (lookA ags t).coef (lookA ags t).scale off).1 = 0 then sayP S (lookA ags) f (bodyAt cs (bestP S (lookA ags t).coef (lookA ags t).scale (lessP (lookA ags t).coef (lookA ags t).scale off) cs)) (lessP (lookA ags t).coef (lookA ags t).scale off).2.1 (lessP (lookA ags t).coef (lookA ags t).scale off).2.2 else ((lessP (lookA ags t).coef (lookA ags t).scale off).1, ⟨#[]⟩))
      else if kd = 5 then sayP S (lookA ags) f (bodyAt cs (choiceGo (lookA ags t).text 0 0 cs)) mc sc else (0, showT (lookA ags t))) := Lib.hid rfl
  have HE := Lib.hid hE
  have HK := Lib.hid hK
  have HL := Lib.hid hL
  have HC := Lib.hid hC
  have HI := Lib.hid ih
  have H2 := Lib.hid h2
  have H3 := Lib.hid h3
  clear ih h hE hK hL hC hn hv hok h2 h3 hw1 hw2
  generalize oneP S (lookA ags) (sayP S (lookA ags) f) mc sc (.mk kd t off cs) = R at *
  generalize lookA ags t = a at *
  generalize sayP S (lookA ags) f = G at *
  generalize argsH ags = l at *
  obtain ⟨an, ai, ac, as', at'⟩ := a
  simp only at HO hva hlk1 hlk2
  go_enter Tryz.func74, Tryz.ntmps74
  go_upto_region 1 with fail
  go_cut [7] (fun p7 wx => p7 = .pointer (some ⟨w.heap.size + 2, 0, none⟩) ∧ wx = (((w.alloc (.cells #[.int .i64 kd, .string t, .int .i64 off, .slice A cs.length cc] 51)).alloc (.cells #[.int .i64 mc, .int .i64 sc] 23)).alloc (.cells #[.string an, .bool ai, .int .i64 ac, .int .i64 as', .string at'] 38)).drew)
  case first =>
    go_region
    all_goals (go_wp2_with fail; go_meet; exact ⟨rfl, rfl⟩)
  case rest =>
    obtain ⟨rfl, hw3⟩ := hcut
    clear hlk1 hlk2 m5 n5
    obtain ⟨w3, rfl⟩ : ∃ w3, w3 = wc := ⟨_, rfl⟩
    have hb3 : Below w.heap.size w w3 := by rw [hw3]; exact belx
    have HS3 := Lib.hid (HS.out.below hb3)
    have n0 : w3.cell? ⟨w.heap.size, 0, none⟩ = some (.int .i64 kd) := by rw [hw3]; go_simp
    have n1 : w3.cell? ⟨w.heap.size, 1, none⟩ = some (.string t) := by rw [hw3]; go_simp
    have n2 : w3.cell? ⟨w.heap.size, 2, none⟩ = some (.int .i64 off) := by rw [hw3]; go_simp
    have n3 : w3.cell? ⟨w.heap.size, 3, none⟩ = some (.slice A cs.length cc) := by rw [hw3]; go_simp
    have d0 : w3.cell? ⟨w.heap.size + 1, 0, none⟩ = some (.int .i64 mc) := by rw [hw3]; go_simp
    have d1 : w3.cell? ⟨w.heap.size + 1, 1, none⟩ = some (.int .i64 sc) := by rw [hw3]; go_simp
    have a1 : w3.cell? ⟨w.heap.size + 2, 1, none⟩ = some (.bool ai) := by rw [hw3]; go_simp
    have a2 : w3.cell? ⟨w.heap.size + 2, 2, none⟩ = some (.int .i64 ac) := by rw [hw3]; go_simp
    have a3 : w3.cell? ⟨w.heap.size + 2, 3, none⟩ = some (.int .i64 as') := by rw [hw3]; go_simp
    have a4 : w3.cell? ⟨w.heap.size + 2, 4, none⟩ = some (.string at') := by rw [hw3]; go_simp
    have f4 : w3.frozen? ⟨w.heap.size + 2, 4, none⟩ = false := by rw [hw3]; go_simp
    have s3 : w.heap.size + 3 = w3.heap.size := by rw [hw3]; simp
    have s0 : b < w3.heap.size := by omega
    have HB03 := Lib.hid hb3
    clear hw3 hb3
    have HB3 := Lib.hid HS3.out.2.2.1
    have hs0 := HB3.out.size
    rcases h1 with rfl | rfl | rfl | rfl | rfl | ⟨rfl, _⟩
    · exact absurd HKD.out (by decide)
    · exact absurd HKD.out (by decide)
    · exact absurd HKD.out (by decide)
    · have hr := HO.out
      rw [if_neg (by decide), if_neg (by decide), if_neg (by decide), if_pos rfl] at hr
      obtain ⟨o1, o2⟩ := H2.out rfl
      obtain ⟨p1, p2⟩ := H3.out (.inl rfl)
      obtain ⟨y0, y1, y2, y3, y4, y5⟩ := HS3.out.1.cells
      clear y5
      have ne1 : w.heap.size ≠ w3.heap.size := by omega
      have ne2 : b ≠ w3.heap.size := by omega
      have ne3 : w.heap.size + 2 ≠ w3.heap.size := by omega
      have BW1 : Hid (Below w3.heap.size w3 w3.drew) := Lib.hid belx
      have BW2 : Hid (Below w3.heap.size w3 (w3.alloc (.cells #[.int .i64 0, .int .i64 0] 23)).drew) := Lib.hid belx
      by_cases hl : (lessP ac as' off).1 = 0
      · rw [if_pos hl] at hr
        have hib := bestP_lt S ac as' (lessP ac as' off) cs p1
        have HCW := Lib.hid (fun W (hb : Below W0.heap.size W0 W) => eval_case (f := f) S hS hs 4 off t A cs cc ac as' W (HE.out.below hb) (HK.out.below hb) (HC.out.mono hb fun v ms => NodesIn.below hb f) ⟨o1, o2⟩ hl)
        have KC1 := Lib.hid (HCW.out w3.drew (HB3.out.trans (BW1.out.mono hs0)))
        have KC2 := Lib.hid (HCW.out (w3.alloc (.cells #[.int .i64 0, .int .i64 0] 23)).drew (HB3.out.trans (BW2.out.mono hs0)))
        have HIB := Lib.hid hib
        have HR := Lib.hid hr
        generalize bestP S ac as' (lessP ac as' off) cs = ix at *
        generalize (lessP ac as' off).2.1 = lc at *
        generalize (lessP ac as' off).2.2 = ls at *
        have hlk : cs[ix]? = some cs[ix] := List.getElem?_eq_getElem hib
        generalize cs[ix] = ck at hlk
        have hbd : bodyAt cs ix = ck.2 := by unfold bodyAt; rw [hlk]; rfl
        obtain ⟨_, _, ec, cc1, cc2, cc3⟩ := HC.out.form
        cases ec
        obtain ⟨bA, oA, hA, hat⟩ := HC.out.at p1
        have HA := Lib.hid hA
        obtain ⟨_, _, vb, vbc, hvb⟩ := hat ix ck hlk
        rw [hbd] at HR
        have HIW := Lib.hid (fun W (hS : SayW V W0 W b mb n S l T) => HI.out vb ck lc ls W (List.mem_of_getElem? hlk) (.inl rfl) hvb hS)
        have HVB := Lib.hid vbc
        clear hl HO HI H2 H3 hib hr hbd hat hvb hlk vbc HCW HC hA
        go_upto_region 13 with fail
        go_cut [8, 9, 10] (fun i8 p9 e10 wx => i8 = .int .i64 ix ∧ e10 = .nilIface ∧ ∃ k, p9 = .pointer (some ⟨k, 0, none⟩) ∧ Hid (Below w3.heap.size w3 wx ∧ wx.cell? ⟨k, 0, none⟩ = some (.int .i64 lc) ∧ wx.cell? ⟨k, 1, none⟩ = some (.int .i64 ls)))
        case first =>
          go_region_held3 (fun w' => w'.cell? ⟨w.heap.size, 0, none⟩ = some (.int .i64 4) ∧ w'.cell? ⟨w.heap.size, 1, none⟩ = some (.string t) ∧ w'.cell? ⟨w.heap.size, 2, none⟩ = some (.int .i64 off) ∧ w'.cell? ⟨w.heap.size, 3, none⟩ = some (.slice A cs.length cc) ∧ w'.cell? ⟨b, 0, none⟩ = some (.string S.s0) ∧ w'.cell? ⟨b, 1, none⟩ = some (.string S.s1) ∧ w'.cell? ⟨b, 2, none⟩ = some (.string S.s2) ∧ w'.cell? ⟨b, 3, none⟩ = some (.string S.s3) ∧ w'.cell? ⟨b, 4, none⟩ = some (.string S.s4) ∧ w'.cell? ⟨w.heap.size + 2, 2, none⟩ = some (.int .i64 ac) ∧ w'.cell? ⟨w.heap.size + 2, 3, none⟩ = some (.int .i64 as'))
            (first | (go_split_ands; refine ⟨?_, ?_, ?_, ?_, ?_, ?_, ?_, ?_, ?_, ?_, ?_⟩ <;> first | assumption | exact cell_two (by assumption) (by assumption) | exact cell_alc (by assumption) | exact cell_drw (by assumption) | exact carry (by assumption) (by assumption)) | go_keep)
            (first | (go_at_call 113; with_reducible refine KC1.out.mono ?_; rintro e w4 ⟨rfl, hb4⟩; have HB4 : Hid (Below w3.heap.size w3 w4) := Lib.hid (bel_call BW1.out hb4 BW1.out.size); have t0 := carry HB4.out n0; have t1 := carry HB4.out n1; have t2 := carry HB4.out n2; have t3 := carry HB4.out n3; have t4 := carry HB4.out y0; have t5 := carry HB4.out y1; have t6 := carry HB4.out y2; have t7 := carry HB4.out y3; have t8 := carry HB4.out y4; have t9 := carry HB4.out a2; have t10 := carry HB4.out a3; have S4 := BW1.out.size; have S5 := hb4.size) | (go_at_call 113; with_reducible refine KC2.out.mono ?_; rintro e w4 ⟨rfl, hb4⟩; have HB4 : Hid (Below w3.heap.size w3 w4) := Lib.hid (bel_call BW2.out hb4 BW2.out.size); have t0 := carry HB4.out n0; have t1 := carry HB4.out n1; have t2 := carry HB4.out n2; have t3 := carry HB4.out n3; have t4 := carry HB4.out y0; have t5 := carry HB4.out y1; have t6 := carry HB4.out y2; have t7 := carry HB4.out y3; have t8 := carry HB4.out y4; have t9 := carry HB4.out a2; have t10 := carry HB4.out a3; have q0 : w4.cell? ⟨w3.heap.size, 0, none⟩ = some (.int .i64 0) := carry hb4 (by go_simp); have q1 : w4.cell? ⟨w3.heap.size, 1, none⟩ = some (.int .i64 0) := carry hb4 (by go_simp); have q2 : w4.frozen? ⟨w3.heap.size, 0, none⟩ = false := carryF hb4 (by simp) (by go_simp); have q3 : w4.frozen? ⟨w3.heap.size, 1, none⟩ = false := carryF hb4 (by simp) (by go_simp); have Q0 := Lib.hid q0; have Q1 := Lib.hid q1; have S4 := BW2.out.size; have S5 := hb4.size))
          all_goals (go_wp2_with fail; go_meet; exact ⟨rfl, rfl, _, rfl, Lib.hid ⟨by first | exact (HB4.out.alloc HB4.out.size _) | exact ((HB4.out.setCell (by simp) _).setCell (by simp) _) | exact bel_drewN _ (HB4.out.alloc HB4.out.size _) | exact bel_drewN _ ((HB4.out.setCell (by simp) _).setCell (by simp) _), by first | (go_simp; done) | exact cell_other (cell_same Q0.out) (by simp), by first | (go_simp; done) | exact cell_same (cell_other Q1.out (by simp))⟩⟩)
        case rest =>
          obtain ⟨rfl, rfl, k, rfl, HBc⟩ := hcut
          obtain ⟨hBc, l0, l1⟩ := HBc.out
          have hA := HA.out
          subst hA
          have c3 := carry hBc n3
          have cb := carry (HB3.out.trans (hBc.mono hs0)) HVB.out
          have sc' := hBc.size
          have KS := Lib.hid (HIW.out wc.drew (HS3.out.below (hBc.trans ((Below.refl _ _).drew.mono sc'))) (by rw [HR.out] at hlen; omega))
          have i0 : (0 : Int) ≤ (ix : Int) := by omega
          have i1 : (ix : Int) < (cs.length : Int) := by have := HIB.out; omega
          have i2 : (ix : Int) ≤ (cc : Int) := by have := HIB.out; omega
          have s1 := lt_of_cell l0
          have sb : b < wc.heap.size := by omega
          clear HBc hBc HVB HIW HS3 HS d0 d1 a1 a2 a3 a4 f4 n0 n1 n2 n3 y0 y1 y2 y3 y4
          go_upto_region 16 with fail
          go_region_with (go_at_call 29; refine KS.out.mono ?_; rintro e w5 ⟨rfl, h5⟩)
          all_goals
            go_wp2_with fail
            go_ret
            rw [HR.out]
            exact ⟨rfl, h5⟩
      · rw [if_neg hl] at hr
        subst hr
        have KC1 := Lib.hid (eval_case_no S 4 off t A cs.length cc ac as' w3.drew ⟨o1, o2⟩ hl)
        have KC2 := Lib.hid (eval_case_no S 4 off t A cs.length cc ac as' (w3.alloc (.cells #[.int .i64 0, .int .i64 0] 23)).drew ⟨o1, o2⟩ hl)
        have E1 : Hid (errOf (lessP ac as' off).1 = errV (lessP ac as' off).1) := Lib.hid (if_neg hl)
        clear hl HO HI H2 H3
        go_upto_region 13 with fail
        go_cut [8, 9, 10] (fun i8 p9 e10 wx => i8 = .int .i64 0 ∧ (∃ k, p9 = .pointer (some ⟨k, 0, none⟩)) ∧ e10 = errV (lessP ac as' off).1 ∧ Hid (Below w3.heap.size w3 wx))
        case first =>
          go_region_held3 (fun w' => w'.cell? ⟨w.heap.size, 0, none⟩ = some (.int .i64 4) ∧ w'.cell? ⟨w.heap.size, 1, none⟩ = some (.string t) ∧ w'.cell? ⟨w.heap.size, 2, none⟩ = some (.int .i64 off) ∧ w'.cell? ⟨w.heap.size, 3, none⟩ = some (.slice A cs.length cc) ∧ w'.cell? ⟨b, 0, none⟩ = some (.string S.s0) ∧ w'.cell? ⟨b, 1, none⟩ = some (.string S.s1) ∧ w'.cell? ⟨b, 2, none⟩ = some (.string S.s2) ∧ w'.cell? ⟨b, 3, none⟩ = some (.string S.s3) ∧ w'.cell? ⟨b, 4, none⟩ = some (.string S.s4) ∧ w'.cell? ⟨w.heap.size + 2, 2, none⟩ = some (.int .i64 ac) ∧ w'.cell? ⟨w.heap.size + 2, 3, none⟩ = some (.int .i64 as'))
            (first | (go_split_ands; refine ⟨?_, ?_, ?_, ?_, ?_, ?_, ?_, ?_, ?_, ?_, ?_⟩ <;> first | assumption | exact cell_two (by assumption) (by assumption) | exact cell_alc (by assumption) | exact cell_drw (by assumption) | exact carry (by assumption) (by assumption)) | go_keep)
            (first | (go_at_call 113; with_reducible refine KC1.out.mono ?_; rintro e w4 ⟨rfl, hb4⟩; have HB4 : Hid (Below w3.heap.size w3 w4) := Lib.hid (bel_call BW1.out hb4 BW1.out.size); have t0 := carry HB4.out n0; have t1 := carry HB4.out n1; have t2 := carry HB4.out n2; have t3 := carry HB4.out n3; have t4 := carry HB4.out y0; have t5 := carry HB4.out y1; have t6 := carry HB4.out y2; have t7 := carry HB4.out y3; have t8 := carry HB4.out y4; have t9 := carry HB4.out a2; have t10 := carry HB4.out a3; have S4 := BW1.out.size; have S5 := hb4.size) | (go_at_call 113; with_reducible refine KC2.out.mono ?_; rintro e w4 ⟨rfl, hb4⟩; have HB4 : Hid (Below w3.heap.size w3 w4) := Lib.hid (bel_call BW2.out hb4 BW2.out.size); have t0 := carry HB4.out n0; have t1 := carry HB4.out n1; have t2 := carry HB4.out n2; have t3 := carry HB4.out n3; have t4 := carry HB4.out y0; have t5 := carry HB4.out y1; have t6 := carry HB4.out y2; have t7 := carry HB4.out y3; have t8 := carry HB4.out y4; have t9 := carry HB4.out a2; have t10 := carry HB4.out a3; have q0 : w4.cell? ⟨w3.heap.size, 0, none⟩ = some (.int .i64 0) := carry hb4 (by go_simp); have q1 : w4.cell? ⟨w3.heap.size, 1, none⟩ = some (.int .i64 0) := carry hb4 (by go_simp); have q2 : w4.frozen? ⟨w3.heap.size, 0, none⟩ = false := carryF hb4 (by simp) (by go_simp); have q3 : w4.frozen? ⟨w3.heap.size, 1, none⟩ = false := carryF hb4 (by simp) (by go_simp); have Q0 := Lib.hid q0; have Q1 := Lib.hid q1; have S4 := BW2.out.size; have S5 := hb4.size))
          all_goals (go_wp2_with fail; go_meet; exact ⟨rfl, ⟨_, rfl⟩, rfl, Lib.hid (by first | exact (HB4.out.alloc HB4.out.size _) | exact ((HB4.out.setCell (by simp) _).setCell (by simp) _) | exact bel_drewN _ (HB4.out.alloc HB4.out.size _) | exact bel_drewN _ ((HB4.out.setCell (by simp) _).setCell (by simp) _))⟩)
        case rest =>
          obtain ⟨rfl, ⟨k, rfl⟩, rfl, HBc⟩ := hcut
          go_wp2_with fail
          go_ret
          rw [E1.out]
          refine ⟨rfl, ?_⟩
          rw [show T ++ (⟨#[]⟩ : ByteArray) = T from app_nil T]
          exact HS3.out.below HBc.out
    · exact absurd HKD.out (by decide)
    · exact absurd HKD.out (by decide)
end Go.Proofs.YtplaohmdllindaaGreatDoor
