/- SaySelect: texts put together. -/
import Derived.Test.YtplaohmdllindaaGreatDoorQn34
import Derived.Deep.RegionHeld3
import Derived.Test.YtplaohmdllindaaGreatDoorQn1
set_option linter.unusedVariables false
set_option linter.unusedSimpArgs false
/- eval's one of a Select. -/
namespace Go.Proofs.YtplaohmdllindaaGreatDoor
open Go.RowKit Go.Maps

set_option maxHeartbeats 8000000 in
set_option maxRecDepth 100000 in
theorem say_select (V W0 : World) (b mb n : Nat) (S : SetC) (hS : S.ok = true) (hs : S.small) (ags : List ArgC) (hn : (ags.map nmA).Nodup) (hv : ∀ t, (lookA ags t).isNum = true → decOk (lookA ags t).coef (lookA ags t).scale) (f : Nat)
    (hE : RuleEnv W0) (hK : KindsAt W0) (hL : NumLaid W0) (kd off : Int) (t : ByteArray) (A : Option Addr) (cs : List (ByteArray × List Nd)) (cc : Nat) (mc sc : Int) (m : Bool) (hC : CasesN (NodesIn f W0) W0 (.slice A cs.length cc) cs) (hts : t.size ≤ 140737488355328)
    (g : List Nd → Bool → Int) (q : Option Int) (hok : nodeP g q (.mk kd t off cs) m = 0) (T : ByteArray) (w : World) (h : SayW V W0 w b mb n S (argsH ags) T) (hlen : T.size + 200 + (oneP S (lookA ags) (sayP S (lookA ags) f) mc sc (.mk kd t off cs)).2.size ≤ 140737488355328) (hkd : kd = 5)
    (ih : ∀ (v : Value) (c : ByteArray × List Nd) (a d : Int) (w : World), c ∈ cs → kd = 4 ∨ kd = 5 → NodesIn f W0 v c.2 → SayW V W0 w b mb n S (argsH ags) T → T.size + 200 + (sayP S (lookA ags) f c.2 a d).2.size ≤ 140737488355328 →
      Calls Tryz.prog 29 #[.pointer (some ⟨b, 0, none⟩), v, decV a d] w fun e w' => e = .returned (errOf (sayP S (lookA ags) f c.2 a d).1) ∧ SayW V W0 w' b mb n S (argsH ags) (T ++ (sayP S (lookA ags) f c.2 a d).2)) :
    Calls Tryz.prog 74 #[.pointer (some ⟨b, 0, none⟩), .agg #[.int .i64 kd, .string t, .int .i64 off, .slice A cs.length cc], decV mc sc] w fun e w' =>
      e = .returned (errOf (oneP S (lookA ags) (sayP S (lookA ags) f) mc sc (.mk kd t off cs)).1) ∧ SayW V W0 w' b mb n S (argsH ags) (T ++ (oneP S (lookA ags) (sayP S (lookA ags) f) mc sc (.mk kd t off cs)).2) := by
  have HKD := Lib.hid hkd
  clear hkd
  obtain ⟨h1, h2, h3⟩ := nodeP_zero hok
  simp only [Nd.kd, Nd.off, Nd.cs] at h1 h2 h3
  have hw1 : Below w.heap.size w ((w.alloc (.cells #[.int .i64 kd, .string t, .int .i64 off, .slice A cs.length cc] 51)).alloc (.cells #[.int .i64 mc, .int .i64 sc] 23)).drew := belx
  have hw2 : Below w.heap.size w (((w.alloc (.cells #[.int .i64 kd, .string t, .int .i64 off, .slice A cs.length cc] 51)).alloc (.cells #[.int .i64 mc, .int .i64 sc] 23)).alloc (.cells #[.string ⟨#[]⟩, .bool false, .int .i64 0, .int .i64 0, .string ⟨#[]⟩] 38)).drew := belx
  have m5 := (h.below hw1).1.cells.2.2.2.2.2
  have n5 := (h.below hw2).1.cells.2.2.2.2.2
  have hlk1 := look_arg hn (h.below hw1).2.1 t (by unfold maxLen; omega)
  have hlk2 := look_arg hn (h.below hw2).2.1 t (by unfold maxLen; omega)
  unfold argV at hlk1 hlk2
  have HS := Lib.hid h
  have hlt := h.1.lt
  have hva := hv t
  have HO : Hid (oneP S (lookA ags) (sayP S (lookA ags) f) mc sc (.mk kd t off cs) = if kd = 1 then (0, t) else if kd = 6 then numP mc sc else if kd = 3 then numP (lookA ags t).coef (lookA ags t).scale
      else if kd = 4 then (if (lessP (lookA ags t).coef (lookA ags t).scale off).1 = 0 then sayP S (lookA ags) f (bodyAt cs (bestP S (lookA ags t).coef (lookA ags t).scale (lessP (lookA ags t).coef (lookA ags t).scale off) cs)) (lessP (lookA ags t).coef (lookA ags t).scale off).2.1 (lessP (lookA ags t).coef (lookA ags t).scale off).2.2 else ((lessP (lookA ags t).coef (lookA ags t).scale off).1, ⟨#[]⟩))
      else if kd = 5 then sayP S (lookA ags) f (bodyAt cs (choiceGo (lookA ags t).text 0 0 cs)) mc sc else (0, showT (lookA ags t))) := Lib.hid rfl
  have HE := Lib.hid hE
  have HK := Lib.hid hK
  have HL := Lib.hid hL
  have HC := Lib.hid hC
  have HI := Lib.hid ih
  have H2 := Lib.hid h2
  have H3 := Lib.hid h3
  clear ih h hE hK hL hC hn hv hok h2 h3 hw1 hw2
  generalize oneP S (lookA ags) (sayP S (lookA ags) f) mc sc (.mk kd t off cs) = R at *
  generalize lookA ags t = a at *
  generalize sayP S (lookA ags) f = G at *
  generalize argsH ags = l at *
  obtain ⟨an, ai, ac, as', at'⟩ := a
  simp only at HO hva hlk1 hlk2
  go_enter Tryz.func74, Tryz.ntmps74
  go_upto_region 1 with fail
  go_cut [7] (fun p7 wx => p7 = .pointer (some ⟨w.heap.size + 2, 0, none⟩) ∧ wx = (((w.alloc (.cells #[.int .i64 kd, .string t, .int .i64 off, .slice A cs.length cc] 51)).alloc (.cells #[.int .i64 mc, .int .i64 sc] 23)).alloc (.cells #[.string an, .bool ai, .int .i64 ac, .int .i64 as', .string at'] 38)).drew)
  case first =>
    go_region
    all_goals (go_wp2_with fail; go_meet; exact ⟨rfl, rfl⟩)
  case rest =>
    obtain ⟨rfl, hw3⟩ := hcut
    clear hlk1 hlk2 m5 n5
    obtain ⟨w3, rfl⟩ : ∃ w3, w3 = wc := ⟨_, rfl⟩
    have hb3 : Below w.heap.size w w3 := by rw [hw3]; exact belx
    have HS3 := Lib.hid (HS.out.below hb3)
    have n0 : w3.cell? ⟨w.heap.size, 0, none⟩ = some (.int .i64 kd) := by rw [hw3]; go_simp
    have n1 : w3.cell? ⟨w.heap.size, 1, none⟩ = some (.string t) := by rw [hw3]; go_simp
    have n2 : w3.cell? ⟨w.heap.size, 2, none⟩ = some (.int .i64 off) := by rw [hw3]; go_simp
    have n3 : w3.cell? ⟨w.heap.size, 3, none⟩ = some (.slice A cs.length cc) := by rw [hw3]; go_simp
    have d0 : w3.cell? ⟨w.heap.size + 1, 0, none⟩ = some (.int .i64 mc) := by rw [hw3]; go_simp
    have d1 : w3.cell? ⟨w.heap.size + 1, 1, none⟩ = some (.int .i64 sc) := by rw [hw3]; go_simp
    have a1 : w3.cell? ⟨w.heap.size + 2, 1, none⟩ = some (.bool ai) := by rw [hw3]; go_simp
    have a2 : w3.cell? ⟨w.heap.size + 2, 2, none⟩ = some (.int .i64 ac) := by rw [hw3]; go_simp
    have a3 : w3.cell? ⟨w.heap.size + 2, 3, none⟩ = some (.int .i64 as') := by rw [hw3]; go_simp
    have a4 : w3.cell? ⟨w.heap.size + 2, 4, none⟩ = some (.string at') := by rw [hw3]; go_simp
    have f4 : w3.frozen? ⟨w.heap.size + 2, 4, none⟩ = false := by rw [hw3]; go_simp
    have s3 : w.heap.size + 3 = w3.heap.size := by rw [hw3]; simp
    have s0 : b < w3.heap.size := by omega
    have HB03 := Lib.hid hb3
    clear hw3 hb3
    have HB3 := Lib.hid HS3.out.2.2.1
    have hs0 := HB3.out.size
    rcases h1 with rfl | rfl | rfl | rfl | rfl | ⟨rfl, _⟩
    · exact absurd HKD.out (by decide)
    · exact absurd HKD.out (by decide)
    · exact absurd HKD.out (by decide)
    · exact absurd HKD.out (by decide)
    · have hr := HO.out
      rw [if_neg (by decide), if_neg (by decide), if_neg (by decide), if_neg (by decide), if_pos rfl] at hr
      obtain ⟨p1, p2⟩ := H3.out (.inr rfl)
      have hib := choice_lt at' cs p1
      have BW1 : Hid (Below w3.heap.size w3 w3.drew) := Lib.hid belx
      have KCH := Lib.hid (eval_choice (f := f) 5 off t A cs cc at' w3.drew (HC.out.mono (HB3.out.trans (BW1.out.mono hs0)) fun v ms => NodesIn.below (HB3.out.trans (BW1.out.mono hs0)) f))
      have HIB := Lib.hid hib
      have HR := Lib.hid hr
      generalize choiceGo at' 0 0 cs = ix at *
      have hlk : cs[ix]? = some cs[ix] := List.getElem?_eq_getElem hib
      generalize cs[ix] = ck at hlk
      have hbd : bodyAt cs ix = ck.2 := by unfold bodyAt; rw [hlk]; rfl
      obtain ⟨_, _, ec, cc1, cc2, cc3⟩ := HC.out.form
      cases ec
      obtain ⟨bA, oA, rfl, hat⟩ := HC.out.at p1
      obtain ⟨_, _, vb, vbc, hvb⟩ := hat ix ck hlk
      rw [hbd] at HR
      have HIW := Lib.hid (fun W (hS : SayW V W0 W b mb n S l T) => HI.out vb ck mc sc W (List.mem_of_getElem? hlk) (.inr rfl) hvb hS (by rw [HR.out] at hlen; omega))
      have HVB := Lib.hid (carry HB3.out vbc)
      have i0 : (0 : Int) ≤ (ix : Int) := by omega
      have i1 : (ix : Int) < (cs.length : Int) := by have := HIB.out; omega
      have i2 : (ix : Int) ≤ (cc : Int) := by have := HIB.out; omega
      clear hat hvb hlk vbc hr hbd hib HO HI H2 H3 HC a1 a2 a3 f4 HS HE HK HL hva
      go_upto_region 18 with fail
      go_region_with (first | (go_at_call 114; with_reducible refine KCH.out.mono ?_; rintro e w4 ⟨rfl, hb4⟩; have hb34 := bel_call BW1.out hb4 BW1.out.size; have HS4 := Lib.hid (HIW.out _ (HS3.out.below hb34)); have e0 := carry hb34 d0; have e1 := carry hb34 d1; have e2 := carry hb34 HVB.out; have e3 := hb34.size; have e4 := carry hb34 n3; have e5 : b < w4.heap.size := by omega) | (go_at_call 29; with_reducible refine HS4.out.mono ?_; rintro e w5 ⟨rfl, h5⟩))
      all_goals
        go_wp2_with fail
        go_ret
        rw [HR.out]
        exact ⟨rfl, h5⟩
    · exact absurd HKD.out (by decide)
end Go.Proofs.YtplaohmdllindaaGreatDoor
