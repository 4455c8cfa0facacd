/- EvalSay, SayTop: texts put together. -/
import Derived.Test.YtplaohmdllindaaGreatDoorQn34
import Derived.Test.YtplaohmdllindaaGreatDoorQn35
import Derived.Test.YtplaohmdllindaaGreatDoorQn36
import Derived.Test.YtplaohmdllindaaGreatDoorQn1
import Derived.Test.YtplaohmdllindaaGreatDoorQn32
set_option linter.unusedVariables false
set_option linter.unusedSimpArgs false
/- eval's one and say, at every right message. -/
namespace Go.Proofs.YtplaohmdllindaaGreatDoor
open Go.RowKit Go.Maps

theorem nil_app (T : ByteArray) : (⟨#[]⟩ : ByteArray) ++ T = T := by
  apply ByteArray.ext
  apply Array.ext'
  simp
theorem sayGo_step {o : Nd → Int × ByteArray} {ms : List Nd} {k : Nat} {x : Nd} (h : ms[k]? = some x) : sayGo o (ms.drop k) = if (o x).1 = 0 then ((sayGo o (ms.drop (k + 1))).1, (o x).2 ++ (sayGo o (ms.drop (k + 1))).2) else o x := by
  rw [drop_at h, sayGo]

set_option maxHeartbeats 4000000 in
theorem eval_say (W0 : World) (b mb n : Nat) (S : SetC) (hS : S.ok = true) (hs : S.small) (ags : List ArgC) (hn : (ags.map nmA).Nodup) (hv : ∀ t, (lookA ags t).isNum = true → decOk (lookA ags t).coef (lookA ags t).scale)
    (hE : RuleEnv W0) (hK : KindsAt W0) (hL : NumLaid W0) : ∀ (f : Nat) (V : World) (v : Value) (ms : List Nd) (mc sc : Int) (m : Bool) (T : ByteArray) (w : World), NodesIn f W0 v ms → checkP f ms m = 0 → SayW V W0 w b mb n S (argsH ags) T →
      T.size + 200 + (sayP S (lookA ags) f ms mc sc).2.size ≤ 140737488355328 →
      Calls Tryz.prog 29 #[.pointer (some ⟨b, 0, none⟩), v, decV mc sc] w fun e w' => e = .returned (errOf (sayP S (lookA ags) f ms mc sc).1) ∧ SayW V W0 w' b mb n S (argsH ags) (T ++ (sayP S (lookA ags) f ms mc sc).2) := by
  intro f
  induction f with
  | zero =>
    intro V v ms mc sc m T w hN _ h _
    obtain ⟨rfl, A, c, rfl, hc⟩ := hN
    have HS := Lib.hid h
    clear h hE hK hL hn hv hS hs
    show Calls Tryz.prog 29 #[.pointer (some ⟨b, 0, none⟩), .slice A 0 c, decV mc sc] w fun e w' => e = .returned .nilIface ∧ SayW V W0 w' b mb n S (argsH ags) (T ++ ⟨#[]⟩)
    rw [app_nil]
    have hbA : Below w.heap.size w (w.alloc (.cells #[.int .i64 mc, .int .i64 sc] 23)) := belx
    have HS2 := Lib.hid (HS.out.below hbA)
    clear hbA
    go_enter Tryz.func29, Tryz.ntmps29
    go_wp2_with fail
    go_loopw [12] (fun i wr => i = .int .i64 0 ∧ w.alloc (.cells #[.int .i64 mc, .int .i64 sc] 23) = wr) (fun _ _ => 0)
    case atStart => exact ⟨rfl, rfl⟩
    case round =>
      obtain ⟨rfl, rfl⟩ := hrel
      go_wp2_with fail
      go_ret
      exact ⟨rfl, HS2.out⟩
  | succ f ih =>
    intro V v ms mc sc m T w hN hch h hlen
    have HONE : Hid (∀ (V : World) (x : Nd) (A : Option Addr) (cc : Nat) (T : ByteArray) (w : World), x ∈ ms → CasesN (NodesIn f W0) W0 (.slice A x.cs.length cc) x.cs → x.t.size ≤ 140737488355328 → SayW V W0 w b mb n S (argsH ags) T →
        T.size + 200 + (oneP S (lookA ags) (sayP S (lookA ags) f) mc sc x).2.size ≤ 140737488355328 →
        Calls Tryz.prog 74 #[.pointer (some ⟨b, 0, none⟩), .agg #[.int .i64 x.kd, .string x.t, .int .i64 x.off, .slice A x.cs.length cc], decV mc sc] w fun e w' =>
          e = .returned (errOf (oneP S (lookA ags) (sayP S (lookA ags) f) mc sc x).1) ∧ SayW V W0 w' b mb n S (argsH ags) (T ++ (oneP S (lookA ags) (sayP S (lookA ags) f) mc sc x).2)) := Lib.hid (fun V x A cc T w hx hC hts hW hl => by
      obtain ⟨q, hq⟩ := checkGo_zero _ _ _ _ hch x hx
      have hz := nodeP_zero hq
      obtain ⟨kd, t, off, cs⟩ := x
      have hI : ∀ (v : Value) (c : ByteArray × List Nd) (a d : Int) (w : World), c ∈ cs → kd = 4 ∨ kd = 5 → NodesIn f W0 v c.2 → SayW V W0 w b mb n S (argsH ags) T → T.size + 200 + (sayP S (lookA ags) f c.2 a d).2.size ≤ 140737488355328 →
          Calls Tryz.prog 29 #[.pointer (some ⟨b, 0, none⟩), v, decV a d] w fun e w' => e = .returned (errOf (sayP S (lookA ags) f c.2 a d).1) ∧ SayW V W0 w' b mb n S (argsH ags) (T ++ (sayP S (lookA ags) f c.2 a d).2) :=
        fun v c a d w hc hk hv hW hl => ih V v c.2 a d _ T w hv ((hz.2.2 hk).2 c hc) hW hl
      by_cases h4 : kd = 4
      · exact say_plural V W0 b mb n S hS hs ags hn hv f hE hK hL kd off t A cs cc mc sc m hC hts _ q hq T w hW hl h4 hI
      · by_cases h5 : kd = 5
        · exact say_select V W0 b mb n S hS hs ags hn hv f hE hK hL kd off t A cs cc mc sc m hC hts _ q hq T w hW hl h5 hI
        · exact say_plain V W0 b mb n S hS hs ags hn hv f hE hK hL kd off t A cs cc mc sc m hC hts _ q hq T w hW hl ⟨h4, h5⟩ hI)
    obtain ⟨A, c, rfl, hc, hc2, hl⟩ := hN.form
    have HN := Lib.hid hN
    obtain ⟨w1, hw1⟩ : ∃ w1, w1 = w.alloc (.cells #[.int .i64 mc, .int .i64 sc] 23) := ⟨_, rfl⟩
    have hbA : Below w.heap.size w w1 := by rw [hw1]; exact belx
    have hbk : w1.heap[w.heap.size]? = some (.cells #[.int .i64 mc, .int .i64 sc] 23 (0, 0)) := by rw [hw1]; exact heap_alloc_new w _
    obtain ⟨o, ho⟩ : ∃ o, o = oneP S (lookA ags) (sayP S (lookA ags) f) mc sc := ⟨_, rfl⟩
    have hR : sayP S (lookA ags) (f + 1) ms mc sc = sayGo o (ms.drop 0) := by rw [ho]; rfl
    rw [hR] at hlen ⊢
    rw [← ho] at HONE
    have hV := h.2.2.2.2
    have HV := Lib.hid (hV.trans (others_below hbA))
    have HS0 : Hid (SayW w1 W0 w1 b mb n S (argsH ags) (T ++ ⟨#[]⟩)) := Lib.hid (by rw [app_nil]; exact (h.below hbA).from w1 (Lib.OthersKept.refl _ _ _))
    have hlen0 : (T ++ (⟨#[]⟩ : ByteArray)).size + 200 + (sayGo o (ms.drop 0)).2.size ≤ 140737488355328 := by rw [app_nil]; exact hlen
    have HB0 := Lib.hid h.2.2.1
    have hne : b ≠ w.heap.size := by have := h.1.lt; omega
    obtain ⟨R, hRR⟩ : ∃ R, R = sayGo o (ms.drop 0) := ⟨_, rfl⟩
    have HG0 : Hid (((sayGo o (ms.drop 0)).1, (⟨#[]⟩ : ByteArray) ++ (sayGo o (ms.drop 0)).2) = R) := Lib.hid (by rw [hRR, show (⟨#[]⟩ : ByteArray) ++ (sayGo o (ms.drop 0)).2 = (sayGo o (ms.drop 0)).2 from nil_app _])
    rw [← hRR]
    have HW1 := Lib.hid hw1
    have HBK := Lib.hid hbk
    have HBA := Lib.hid hbA
    have HLEN := Lib.hid hlen0
    clear h hE hK hL hn hv hS hs ih hch hN hV hlen hlen0 hRR hR ho hw1 hbk hbA
    generalize argsH ags = l at *
    go_enter Tryz.func29, Tryz.ntmps29
    go_wp2_with fail
    rw [← HW1.out]
    go_loopw [12] (fun i wr => ∃ (k : Nat) (U : ByteArray), k ≤ ms.length ∧ i = .int .i64 k ∧ Hid (SayW w1 W0 wr b mb n S l (T ++ U)) ∧ Hid (((sayGo o (ms.drop k)).1, U ++ (sayGo o (ms.drop k)).2) = R) ∧ Hid ((T ++ U).size + 200 + (sayGo o (ms.drop k)).2.size ≤ 140737488355328)) (fun i _ => ms.length - (intOf i).toNat)
    case atStart => exact ⟨0, ⟨#[]⟩, Nat.zero_le _, rfl, HS0, HG0, HLEN⟩
    case round =>
      obtain ⟨k, U, hk, rfl, HS, HG, HL⟩ := hrel
      by_cases hlt : k < ms.length
      · obtain ⟨bA, oA, rfl, hat⟩ := HN.out.at (by omega)
        obtain ⟨x, hx⟩ : ∃ x, ms[k]? = some x := ⟨ms[k], List.getElem?_eq_getElem hlt⟩
        have hxa := hat k x hx
        have hts := hxa.1
        obtain ⟨A2, cc, x1, x2, x3, hC, n0, n1, n2, n3⟩ := hxa.cells
        have hst := sayGo_step (o := o) hx
        have hb0 := HS.out.2.2.1
        replace n0 := carry hb0 n0
        replace n1 := carry hb0 n1
        replace n2 := carry hb0 n2
        replace n3 := carry hb0 n3
        have hbx := HS.out.2.2.2.2 _ _ HBK.out (fun e => hne (Option.some.inj e).symm) (fun c fz e => by injection e with _ e2 _; exact absurd e2 (by decide))
        have d0 : wr.cell? ⟨w.heap.size, 0, none⟩ = some (.int .i64 mc) := by simp [World.cell?, hbx]
        have d1 : wr.cell? ⟨w.heap.size, 1, none⟩ = some (.int .i64 sc) := by simp [World.cell?, hbx]
        have hbS : Below wr.heap.size wr (wr.alloc (.cells #[.int .i64 x.kd, .string x.t, .int .i64 x.off, .slice A2 x.cs.length cc] 51)) := belx
        have d0' := carry hbS d0
        have d1' := carry hbS d1
        have i0 : (0 : Int) ≤ (k : Int) := by omega
        have i1 : (k : Int) < (ms.length : Int) := by omega
        have i2 : (k : Int) ≤ (c : Int) := by omega
        have e1 : IntKind.i64.wrap ((k : Int) + 1) = (k : Int) + 1 := IntWalk.i64_in _ (by omega)
        have hl1 : (T ++ U).size + 200 + (o x).2.size ≤ 140737488355328 := by
          have := HL.out
          rw [hst] at this
          split at this
          · simp only [ByteArray.size_append] at this ⊢; omega
          · exact this
        have K := Lib.hid (HONE.out w1 x A2 cc (T ++ U) _ (List.mem_of_getElem? hx) hC hts (HS.out.below hbS) hl1)
        have HST := Lib.hid hst
        clear hat hx hxa hC hst hb0 hbx d0 d1 hbS hl1 HS HONE
        go_wp2_with fail
        refine K.out.mono ?_
        rintro e w2 ⟨rfl, h2⟩
        have HS2 := Lib.hid h2
        clear h2 n0 n1 n2 n3 d0' d1' K
        by_cases hz : (o x).1 = 0
        · have E0 : errOf (o x).1 = .nilIface := by rw [hz]; rfl
          have hg := HG.out
          have hl := HL.out
          rw [HST.out, if_pos hz] at hg hl
          have HG2 : Hid (((sayGo o (ms.drop (k + 1))).1, (U ++ (o x).2) ++ (sayGo o (ms.drop (k + 1))).2) = R) := Lib.hid (by rw [← hg, ByteArray.append_assoc])
          have HS3 : Hid (SayW w1 W0 w2 b mb n S l (T ++ (U ++ (o x).2))) := Lib.hid (by rw [← ByteArray.append_assoc]; exact HS2.out)
          have HL3 : Hid ((T ++ (U ++ (o x).2)).size + 200 + (sayGo o (ms.drop (k + 1))).2.size ≤ 140737488355328) := Lib.hid (by simp only [ByteArray.size_append] at hl ⊢; omega)
          rw [E0]
          clear hg hl HG HL HS2 HST hz E0
          go_wp2_with fail
          go_roundw
          case rel => exact ⟨k + 1, U ++ (o x).2, by omega, by go_num, HS3, HG2, HL3⟩
          case measure => simp [intOf]; omega
        · have E0 : errOf (o x).1 = errT (o x).1 := if_neg hz
          have hg := HG.out
          rw [HST.out, if_neg hz] at hg
          have HR : Hid (R = ((o x).1, U ++ (o x).2)) := Lib.hid hg.symm
          have HF := Lib.hid (HS2.out.from V (HV.out.trans HS2.out.2.2.2.2))
          have HE0 : Hid (errOf (o x).1 = errT (o x).1) := Lib.hid E0
          rw [E0]
          clear hg HG HL HS2 HST hz E0
          go_wp2_with fail
          go_ret
          rw [HR.out, HE0.out]
          refine ⟨rfl, ?_⟩
          rw [← ByteArray.append_assoc]
          exact HF.out
      · obtain rfl : k = ms.length := by omega
        have hg := HG.out
        rw [List.drop_of_length_le (Nat.le_refl _), sayGo] at hg
        simp only [app_nil] at hg
        have HR : Hid (R = (0, U)) := Lib.hid hg.symm
        have E0 : Hid (errOf 0 = .nilIface) := Lib.hid rfl
        have HF := Lib.hid (HS.out.from V (HV.out.trans HS.out.2.2.2.2))
        clear hg HG HL
        go_wp2_with fail
        go_ret
        rw [HR.out, E0.out]
        exact ⟨rfl, HF.out⟩
end Go.Proofs.YtplaohmdllindaaGreatDoor

/- eval.Say. -/
namespace Go.Proofs.YtplaohmdllindaaGreatDoor
open Go.RowKit Go.Maps

theorem lang_right {s : List UInt8} {x : SetC} (h : langOf s = some x) : x.ok = true ∧ x.small := by
  have hs : ∀ x : SetC, x.s0.size < 4294967281 → x.s1.size < 4294967281 → x.s2.size < 4294967281 → x.s3.size < 4294967281 → x.s4.size < 4294967281 → x.small := fun x h0 h1 h2 h3 h4 i => by
    match i with
    | 0 => exact h0
    | 1 => exact h1
    | 2 => exact h2
    | 3 => exact h3
    | 4 => exact h4
    | n + 5 => exact (by decide : (⟨#[]⟩ : ByteArray).size < 4294967281)
  rcases langOf_cases h with rfl | rfl | rfl | rfl | rfl | rfl | rfl | rfl
  all_goals exact ⟨by kernel_rfl, hs _ (by decide) (by decide) (by decide) (by decide) (by decide)⟩
theorem no_right : noS.ok = true ∧ noS.small := ⟨by kernel_rfl, fun i => by
  match i with
  | 0 => exact (by decide : (⟨#[]⟩ : ByteArray).size < 4294967281)
  | 1 => exact (by decide : (⟨#[]⟩ : ByteArray).size < 4294967281)
  | 2 => exact (by decide : (⟨#[]⟩ : ByteArray).size < 4294967281)
  | 3 => exact (by decide : (⟨#[]⟩ : ByteArray).size < 4294967281)
  | 4 => exact (by decide : (⟨#[]⟩ : ByteArray).size < 4294967281)
  | n + 5 => exact (by decide : (⟨#[]⟩ : ByteArray).size < 4294967281)⟩
/-- the rules of a language, or none -/
def setOf (l : ByteArray) : SetC := (langOf l.data.toList).getD noS
theorem setOf_right (l : ByteArray) : (setOf l).ok = true ∧ (setOf l).small := by
  unfold setOf
  cases h : langOf l.data.toList with
  | none => exact no_right
  | some x => exact lang_right h
/-- eval.Say: the fault, the text -/
def topT (S : SetC) (f : Nat) (ms : List Nd) (ags : List ArgC) : Int × ByteArray := if (sayT S f ms ags).1 = 0 then sayT S f ms ags else ((sayT S f ms ags).1, ⟨#[]⟩)
def spkBlk (w : World) (b mb : Nat) (S : SetC) : Prop := w.heap[b]? = some (.cells (spkC S mb (.pointer none) (.slice none 0 0)) 97 (0, 0))
theorem spk_fill {w : World} {b mb : Nat} {S : SetC} (h : spkBlk w b mb noS) : spkBlk (((((w.setCell ⟨b, 0, none⟩ (.string S.s0)).setCell ⟨b, 1, none⟩ (.string S.s1)).setCell ⟨b, 2, none⟩ (.string S.s2)).setCell ⟨b, 3, none⟩ (.string S.s3)).setCell ⟨b, 4, none⟩ (.string S.s4)) b mb S := by
  unfold spkBlk at h ⊢
  have h0 := h
  rw [setCell_eq_setRow w b 0 _ _ _ _ h]
  replace h := setRow_heap w b _ (spkC noS mb (.pointer none) (.slice none 0 0) |>.setIfInBounds 0 (.string S.s0)) _ _ h
  rw [setCell_eq_setRow _ b 1 _ _ _ _ h]
  replace h := setRow_heap _ b _ (((spkC noS mb (.pointer none) (.slice none 0 0)).setIfInBounds 0 (.string S.s0)).setIfInBounds 1 (.string S.s1)) _ _ h
  rw [setCell_eq_setRow _ b 2 _ _ _ _ h]
  replace h := setRow_heap _ b _ ((((spkC noS mb (.pointer none) (.slice none 0 0)).setIfInBounds 0 (.string S.s0)).setIfInBounds 1 (.string S.s1)).setIfInBounds 2 (.string S.s2)) _ _ h
  rw [setCell_eq_setRow _ b 3 _ _ _ _ h]
  replace h := setRow_heap _ b _ (((((spkC noS mb (.pointer none) (.slice none 0 0)).setIfInBounds 0 (.string S.s0)).setIfInBounds 1 (.string S.s1)).setIfInBounds 2 (.string S.s2)).setIfInBounds 3 (.string S.s3)) _ _ h
  rw [setCell_eq_setRow _ b 4 _ _ _ _ h]
  exact setRow_heap _ b _ ((((((spkC noS mb (.pointer none) (.slice none 0 0)).setIfInBounds 0 (.string S.s0)).setIfInBounds 1 (.string S.s1)).setIfInBounds 2 (.string S.s2)).setIfInBounds 3 (.string S.s3)).setIfInBounds 4 (.string S.s4)) _ _ h
theorem spkBlk.spk {w : World} {B b mb : Nat} {S : SetC} (h : spkBlk w b mb S) (hB : B ≤ b) : Spk w B b mb S (Lib.strCells ⟨#[]⟩) :=
  .inl ⟨hB, .slice none 0 0, h, World.ownsRow_nil _ _ _ _, by simp [Value.ownBlock]⟩
theorem spkBlk.off {w w' : World} {b mb : Nat} {S : SetC} {L : List Nat} (h : spkBlk w b mb S) (hf : Off L w w') (hb : b ∉ L) : spkBlk w' b mb S := (hf.block b (Array.getElem?_eq_some_iff.1 h).1 hb).trans h
theorem spkBlk.below {w w' : World} {b mb : Nat} {S : SetC} (h : spkBlk w b mb S) (hb : Below w.heap.size w w') : spkBlk w' b mb S := h.off ((Off.refl [] w).below hb (Nat.le_refl _)) (by simp)
theorem spkBlk.cell5 {w : World} {b mb : Nat} {S : SetC} (h : spkBlk w b mb S) : w.cell? ⟨b, 5, none⟩ = some (.map (some mb)) := by rw [Lib.cell_of_heap h]; rfl


set_option maxHeartbeats 8000000 in
set_option maxRecDepth 100000 in
theorem eval_SayL (L f : Nat) (v : Value) (ms : List Nd) (lng : ByteArray) (A : Option Addr) (c : Nat) (ags : List ArgC) (w : World) (hE : RuleEnv w) (hM : MKinds w) (hK : KindsAt w) (hL : NumLaid w) (hN : NodesIn f w v ms) (hA : ArgsIn w A ags) (hc : ags.length ≤ c) (hc2 : c ≤ 9223372036854775807) (hl : ags.length ≤ 1000000000000)
    (hL1 : 200 ≤ L) (hL2 : L ≤ 1000000000000) (hfit : FitN L f ms) (hz : ∀ a ∈ ags, a.name.size ≤ 140737488355328 ∧ a.text.size ≤ L) (hln : lng.size ≤ 9223372036854775807) :
    Calls Tryz.prog 9 #[v, .string lng, .slice A ags.length c] w fun e w' => e = .returned (.tuple #[.string (topT (setOf lng) f ms ags).2, errOf (topT (setOf lng) f ms ags).1]) ∧ Below w.heap.size w w' := by
  have KF := Lib.hid (names_fits f v ms A c ags w hE hM hN hA hc hc2 hl (fun a ha => (hz a ha).1))
  obtain ⟨_, _, rfl, _, _, _⟩ := hN.form
  have hmm := @run_makeMap Tryz.prog
  by_cases hf : fitsP f ms ags = 0
  · obtain ⟨g1, g2, g3⟩ := fits_zero.1 hf
    obtain ⟨a1, a2, _⟩ := (args_zero ags []).1 g2
    have hlookv : ∀ t, (lookA ags t).isNum = true → decOk (lookA ags t).coef (lookA ags t).scale := fun t h => by
      unfold lookA at h ⊢
      cases hq : ags.find? (hasA t) with
      | none => rw [hq] at h; cases h
      | some a => rw [hq] at h; exact (a1 a (List.mem_of_find?_eq_some hq)).2 h
    have hlookt : ∀ t, (lookA ags t).text.size ≤ L ∧ ((lookA ags t).isNum = true → decOk (lookA ags t).coef (lookA ags t).scale) := fun t => ⟨by
      unfold lookA
      cases hq : ags.find? (hasA t) with
      | none => exact Nat.zero_le _
      | some a => exact (hz a (List.mem_of_find?_eq_some hq)).2, hlookv t⟩
    obtain ⟨m1, m2⟩ := msg_small (names_msg g1)
    obtain ⟨S, hS⟩ : ∃ S, S = setOf lng := ⟨_, rfl⟩
    obtain ⟨r1, r2⟩ := setOf_right lng
    rw [← hS] at r1 r2 ⊢
    have hsz := say_size S hL1 hlookt f ms 0 0 hfit
    have hsz2 : cntP f ms * L ≤ 60 * L := Nat.mul_le_mul_right _ m1
    have hT : topT S f ms ags = if (sayP S (lookA ags) f ms 0 0).1 = 0 then sayP S (lookA ags) f ms 0 0 else ((sayP S (lookA ags) f ms 0 0).1, ⟨#[]⟩) := by unfold topT sayT; rw [if_pos hf]
    have KS := Lib.hid (fun (V wx : World) (b mb n : Nat) hW => eval_say w b mb n S r1 r2 ags a2 hlookv hE hK hL f V _ ms 0 0 false ⟨#[]⟩ wx hN m2 hW (by rw [show (⟨#[]⟩ : ByteArray).size = 0 from rfl]; omega))
    have HTOP := Lib.hid hT
    have HA := Lib.hid hA
    have HZ := Lib.hid (fun a ha => (hz a ha).1)
    rw [hf] at KF
    clear hsz hsz2 hT hlookt hlookv a1 a2 g1 g2 g3 m1 m2 hfit hz hN hA hE hM hK hL r1 r2 hf
    generalize sayP S (lookA ags) f ms 0 0 = r at *
    generalize topT S f ms ags = topR at *
    have E0 : Hid (errOf 0 = .nilIface) := Lib.hid rfl
    rw [E0.out] at KF
    cases hlg : langOf lng.data.toList with
    | none =>
      have KL := Lib.hid (fun W => lang_none lng W (by unfold maxLen; omega) hlg)
      have hS2 : S = noS := by rw [hS]; unfold setOf; rw [hlg]; rfl
      clear hS hlg
      go_enter Tryz.func9, Tryz.ntmps9
      go_wp2_with fail
      refine KF.out.mono ?_
      rintro e w1 ⟨rfl, hb1⟩
      have HB1 := Lib.hid hb1
      clear hb1
      go_wp2_with fail
      refine (KL.out _).mono ?_
      rintro e w2 ⟨rfl, hb2⟩
      have hsb : spkBlk ((w1.alloc (.map #[] 0)).alloc (.cells #[.string ⟨#[]⟩, .string ⟨#[]⟩, .string ⟨#[]⟩, .string ⟨#[]⟩, .string ⟨#[]⟩, .map (some w1.heap.size), .pointer none, .slice none 0 0] 97)) (w1.heap.size + 1) w1.heap.size noS := by
        have h := heap_alloc_new (w1.alloc (.map #[] 0)) (.cells #[.string ⟨#[]⟩, .string ⟨#[]⟩, .string ⟨#[]⟩, .string ⟨#[]⟩, .string ⟨#[]⟩, .map (some w1.heap.size), .pointer none, .slice none 0 0] 97)
        rw [show (w1.alloc (.map #[] 0)).heap.size = w1.heap.size + 1 by simp] at h
        exact h
      have hmp : HMap ((w1.alloc (.map #[] 0)).alloc (.cells #[.string ⟨#[]⟩, .string ⟨#[]⟩, .string ⟨#[]⟩, .string ⟨#[]⟩, .string ⟨#[]⟩, .map (some w1.heap.size), .pointer none, .slice none 0 0] 97)) w1.heap.size 0 (argsH (ags.take 0)) := (hm_made w1).alloc _
      have hbb : Below w.heap.size w ((w1.alloc (.map #[] 0)).alloc (.cells #[.string ⟨#[]⟩, .string ⟨#[]⟩, .string ⟨#[]⟩, .string ⟨#[]⟩, .string ⟨#[]⟩, .map (some w1.heap.size), .pointer none, .slice none 0 0] 97)) := by have := HB1.out.size; exact (HB1.out.alloc this _).alloc (by simp; omega) _
      have SB := Lib.hid (hsb.below hb2)
      have MP := Lib.hid (hmp.below hb2)
      have BB := Lib.hid (hbb.trans (hb2.mono hbb.size))
      have s2 := BB.out.size
      have slt2 : w1.heap.size + 1 < w2.heap.size := (Array.getElem?_eq_some_iff.1 SB.out).1
      clear hsb hmp hbb hb2
      have hbA : Below w2.heap.size w2 (w2.alloc (.cells #[.string ⟨#[]⟩, .string ⟨#[]⟩, .string ⟨#[]⟩, .string ⟨#[]⟩, .string ⟨#[]⟩] 26)) := belx
      have HSB : Hid (spkBlk (w2.alloc (.cells #[.string ⟨#[]⟩, .string ⟨#[]⟩, .string ⟨#[]⟩, .string ⟨#[]⟩, .string ⟨#[]⟩] 26)) (w1.heap.size + 1) w1.heap.size S) := Lib.hid (by rw [hS2]; exact SB.out.below hbA)
      have HMP := Lib.hid (MP.out.below hbA)
      have HBQ := Lib.hid (BB.out.trans (hbA.mono s2))
      clear hbA hS2
      go_wp2_with fail
      go_loopw [37] (fun i wr => ∃ k : Nat, k ≤ ags.length ∧ i = .int .i64 k ∧ Hid (spkBlk wr (w1.heap.size + 1) w1.heap.size S) ∧ Hid (HMap wr w1.heap.size k (argsH (ags.take k))) ∧ Hid (Below w.heap.size w wr)) (fun i _ => ags.length - (intOf i).toNat)
      case atStart => exact ⟨0, Nat.zero_le _, rfl, HSB, HMP, HBQ⟩
      case round =>
        obtain ⟨k, hk, rfl, HSk, HMk, HBk⟩ := hrel
        have sk := HBk.out.size
        by_cases hlt : k < ags.length
        · obtain ⟨bA, oA, rfl, hat⟩ := (HA.out.below HBk.out).at (by omega)
          obtain ⟨x, hx⟩ : ∃ x, ags[k]? = some x := ⟨ags[k], List.getElem?_eq_getElem hlt⟩
          obtain ⟨n0, n1, n2, n3, n4⟩ := hat k x hx
          have hxz := HZ.out x (List.mem_of_getElem? hx)
          have i0 : (0 : Int) ≤ (k : Int) := by omega
          have i1 : (k : Int) < (ags.length : Int) := by omega
          have i2 : (k : Int) ≤ (c : Int) := by omega
          have e1 : IntKind.i64.wrap ((k : Int) + 1) = (k : Int) + 1 := IntWalk.i64_in _ (by omega)
          have hbS : Below wr.heap.size wr (wr.alloc (.cells #[.string x.name, .bool x.isNum, .int .i64 x.coef, .int .i64 x.scale, .string x.text] 38)).drew := belx
          have m5 := (HSk.out.below hbS).cell5
          have slt : w1.heap.size + 1 < (wr.alloc (.cells #[.string x.name, .bool x.isNum, .int .i64 x.coef, .int .i64 x.scale, .string x.text] 38)).drew.heap.size := (Array.getElem?_eq_some_iff.1 (HSk.out.below hbS)).1
          obtain ⟨W5, hput, hOW, hFW⟩ := hm_put (s := x.name) (HMk.out.below hbS) Tryz.underlying91 (by unfold maxLen; omega) (by unfold maxLen; omega) (argV x)
          have HS2 : Hid (spkBlk W5 (w1.heap.size + 1) w1.heap.size S) := Lib.hid ((HSk.out.below hbS).off hFW (by simp))
          have HM2 : Hid (HMap W5 w1.heap.size (k + 1) (argsH (ags.take (k + 1)))) := Lib.hid (by
            have e : argsH (ags.take (k + 1)) = argsH (ags.take k) ++ [(x.name.data.toList, argV x)] := by unfold argsH; rw [List.take_add_one, hx, List.map_append]; rfl
            rw [e]; exact hOW)
          have HB2 : Hid (Below w.heap.size w W5) := Lib.hid ((HBk.out.trans (hbS.mono sk)).trans (hFW.toBelow (fun j hj => by simp only [List.mem_singleton] at hj; have := HB1.out.size; omega) (by have := hbS.size; omega)))
          unfold argV at hput
          clear hat hx hbS hOW hFW HSk HMk HBk
          go_wp2_with fail
          go_region
          all_goals
            go_wp2_with fail
            go_roundw
            case rel => exact ⟨k + 1, by omega, by go_num, HS2, HM2, HB2⟩
            case measure => simp [intOf]; omega
        · obtain rfl : k = ags.length := by omega
          have hM : HMap wr w1.heap.size ags.length (argsH ags) := by have := HMk.out; rwa [List.take_length] at this
          have hW : SayW wr w wr (w1.heap.size + 1) w1.heap.size ags.length S (argsH ags) ⟨#[]⟩ := ⟨HSk.out.spk (by have := HB1.out.size; omega), hM, HBk.out, HB1.out.size, Lib.OthersKept.refl _ _ _⟩
          have K := Lib.hid (KS.out wr wr (w1.heap.size + 1) w1.heap.size ags.length hW)
          have slt : w1.heap.size + 1 < wr.heap.size := hW.1.lt
          clear hM hW HSk HMk HBk
          go_wp2_with fail
          refine K.out.mono ?_
          rintro e w5 ⟨rfl, h5⟩
          rw [nil_app] at h5
          have s5 := h5.1.lt
          have hB5 := h5.2.2.1
          by_cases hz : r.1 = 0
          · have E0 : errOf r.1 = .nilIface := by rw [hz]; rfl
            have HT : Hid (topR = r) := Lib.hid (HTOP.out.trans (if_pos hz))
            have KST := Lib.hid (spk_string (l := r.2.data.toList) h5.1 hB5.size)
            have E1 : Hid (errOf r.1 = .nilIface) := Lib.hid E0
            rw [E0]
            clear h5 hz E0 K
            go_wp2_with fail
            refine KST.out.mono ?_
            rintro e w6 ⟨rfl, hb6⟩
            go_wp2_with fail
            go_ret2
            rw [HT.out, E1.out]
            exact ⟨rfl, hB5.trans hb6⟩
          · have E0 : errOf r.1 = errT r.1 := if_neg hz
            have HT : Hid (topR = (r.1, ⟨#[]⟩)) := Lib.hid (HTOP.out.trans (if_neg hz))
            have E1 : Hid (errOf r.1 = errT r.1) := Lib.hid E0
            rw [E0]
            clear h5 hz E0 K
            go_wp2_with fail
            go_ret2
            rw [HT.out]
            show _ = Ending.returned (.tuple #[.string ⟨#[]⟩, errOf r.1]) ∧ _
            rw [E1.out]
            exact ⟨rfl, hB5⟩
    | some x =>
      have KL := Lib.hid (fun W => lang_known lng x W (by unfold maxLen; omega) hlg)
      have hS2 : S = x := by rw [hS]; unfold setOf; rw [hlg]; rfl
      clear hS hlg
      go_enter Tryz.func9, Tryz.ntmps9
      go_wp2_with fail
      refine KF.out.mono ?_
      rintro e w1 ⟨rfl, hb1⟩
      have HB1 := Lib.hid hb1
      clear hb1
      go_wp2_with fail
      refine (KL.out _).mono ?_
      rintro e w2 ⟨rfl, hb2⟩
      have hsb : spkBlk ((w1.alloc (.map #[] 0)).alloc (.cells #[.string ⟨#[]⟩, .string ⟨#[]⟩, .string ⟨#[]⟩, .string ⟨#[]⟩, .string ⟨#[]⟩, .map (some w1.heap.size), .pointer none, .slice none 0 0] 97)) (w1.heap.size + 1) w1.heap.size noS := by
        have h := heap_alloc_new (w1.alloc (.map #[] 0)) (.cells #[.string ⟨#[]⟩, .string ⟨#[]⟩, .string ⟨#[]⟩, .string ⟨#[]⟩, .string ⟨#[]⟩, .map (some w1.heap.size), .pointer none, .slice none 0 0] 97)
        rw [show (w1.alloc (.map #[] 0)).heap.size = w1.heap.size + 1 by simp] at h
        exact h
      have hmp : HMap ((w1.alloc (.map #[] 0)).alloc (.cells #[.string ⟨#[]⟩, .string ⟨#[]⟩, .string ⟨#[]⟩, .string ⟨#[]⟩, .string ⟨#[]⟩, .map (some w1.heap.size), .pointer none, .slice none 0 0] 97)) w1.heap.size 0 (argsH (ags.take 0)) := (hm_made w1).alloc _
      have hbb : Below w.heap.size w ((w1.alloc (.map #[] 0)).alloc (.cells #[.string ⟨#[]⟩, .string ⟨#[]⟩, .string ⟨#[]⟩, .string ⟨#[]⟩, .string ⟨#[]⟩, .map (some w1.heap.size), .pointer none, .slice none 0 0] 97)) := by have := HB1.out.size; exact (HB1.out.alloc this _).alloc (by simp; omega) _
      have SB := Lib.hid (hsb.below hb2)
      have MP := Lib.hid (hmp.below hb2)
      have BB := Lib.hid (hbb.trans (hb2.mono hbb.size))
      have s2 := BB.out.size
      have slt2 : w1.heap.size + 1 < w2.heap.size := (Array.getElem?_eq_some_iff.1 SB.out).1
      clear hsb hmp hbb hb2
      obtain ⟨x0, x1, x2, x3, x4⟩ := x
      simp only
      have c0 : w2.cell? ⟨w1.heap.size + 1, 0, none⟩ = some (.string ⟨#[]⟩) := by rw [Lib.cell_of_heap SB.out]; rfl
      have c1 : w2.cell? ⟨w1.heap.size + 1, 1, none⟩ = some (.string ⟨#[]⟩) := by rw [Lib.cell_of_heap SB.out]; rfl
      have c2 : w2.cell? ⟨w1.heap.size + 1, 2, none⟩ = some (.string ⟨#[]⟩) := by rw [Lib.cell_of_heap SB.out]; rfl
      have c3 : w2.cell? ⟨w1.heap.size + 1, 3, none⟩ = some (.string ⟨#[]⟩) := by rw [Lib.cell_of_heap SB.out]; rfl
      have c4 : w2.cell? ⟨w1.heap.size + 1, 4, none⟩ = some (.string ⟨#[]⟩) := by rw [Lib.cell_of_heap SB.out]; rfl
      have f0 : w2.frozen? ⟨w1.heap.size + 1, 0, none⟩ = false := Lib.frozen_of_heap SB.out 0
      have f1 : w2.frozen? ⟨w1.heap.size + 1, 1, none⟩ = false := Lib.frozen_of_heap SB.out 1
      have f2 : w2.frozen? ⟨w1.heap.size + 1, 2, none⟩ = false := Lib.frozen_of_heap SB.out 2
      have f3 : w2.frozen? ⟨w1.heap.size + 1, 3, none⟩ = false := Lib.frozen_of_heap SB.out 3
      have f4 : w2.frozen? ⟨w1.heap.size + 1, 4, none⟩ = false := Lib.frozen_of_heap SB.out 4
      obtain ⟨wp, hwp⟩ : ∃ wp, wp = (((((w2.setCell ⟨w1.heap.size + 1, 0, none⟩ (.string x0)).setCell ⟨w1.heap.size + 1, 1, none⟩ (.string x1)).setCell ⟨w1.heap.size + 1, 2, none⟩ (.string x2)).setCell ⟨w1.heap.size + 1, 3, none⟩ (.string x3)).setCell ⟨w1.heap.size + 1, 4, none⟩ (.string x4)) := ⟨_, rfl⟩
      have hsp : spkBlk wp (w1.heap.size + 1) w1.heap.size S := by rw [hS2, hwp]; exact spk_fill (S := ⟨x0, x1, x2, x3, x4⟩) SB.out
      have hoff : Off [w1.heap.size + 1] w2 wp := by
        rw [hwp]
        exact (((((Off.refl _ _).setCell _ _ (by simp)).setCell _ _ (by simp)).setCell _ _ (by simp)).setCell _ _ (by simp)).setCell _ _ (by simp)
      have hmp2 : HMap wp w1.heap.size 0 (argsH (ags.take 0)) := MP.out.off hoff (by simp)
      have hbq : Below w.heap.size w wp := BB.out.trans (hoff.toBelow (fun j hj => by simp only [List.mem_singleton] at hj; have := HB1.out.size; omega) s2)
      obtain ⟨wq, hwq⟩ : ∃ wq, wq = wp.alloc (.cells #[.string x0, .string x1, .string x2, .string x3, .string x4] 26) := ⟨_, rfl⟩
      have hbA : Below wp.heap.size wp wq := by rw [hwq]; exact belx
      have HSB : Hid (spkBlk wq (w1.heap.size + 1) w1.heap.size S) := Lib.hid (hsp.below hbA)
      have HMP : Hid (HMap wq w1.heap.size 0 (argsH (ags.take 0))) := Lib.hid (hmp2.below hbA)
      have HBQ : Hid (Below w.heap.size w wq) := Lib.hid (hbq.trans (hbA.mono hbq.size))
      rw [hwp] at hwq
      have HWQ := Lib.hid hwq
      clear hbA hS2 hoff hwq hwp hsp hmp2 hbq
      go_wp2_with fail
      rw [← HWQ.out]
      go_loopw [37] (fun i wr => ∃ k : Nat, k ≤ ags.length ∧ i = .int .i64 k ∧ Hid (spkBlk wr (w1.heap.size + 1) w1.heap.size S) ∧ Hid (HMap wr w1.heap.size k (argsH (ags.take k))) ∧ Hid (Below w.heap.size w wr)) (fun i _ => ags.length - (intOf i).toNat)
      case atStart => exact ⟨0, Nat.zero_le _, rfl, HSB, HMP, HBQ⟩
      case round =>
        obtain ⟨k, hk, rfl, HSk, HMk, HBk⟩ := hrel
        have sk := HBk.out.size
        by_cases hlt : k < ags.length
        · obtain ⟨bA, oA, rfl, hat⟩ := (HA.out.below HBk.out).at (by omega)
          obtain ⟨x, hx⟩ : ∃ x, ags[k]? = some x := ⟨ags[k], List.getElem?_eq_getElem hlt⟩
          obtain ⟨n0, n1, n2, n3, n4⟩ := hat k x hx
          have hxz := HZ.out x (List.mem_of_getElem? hx)
          have i0 : (0 : Int) ≤ (k : Int) := by omega
          have i1 : (k : Int) < (ags.length : Int) := by omega
          have i2 : (k : Int) ≤ (c : Int) := by omega
          have e1 : IntKind.i64.wrap ((k : Int) + 1) = (k : Int) + 1 := IntWalk.i64_in _ (by omega)
          have hbS : Below wr.heap.size wr (wr.alloc (.cells #[.string x.name, .bool x.isNum, .int .i64 x.coef, .int .i64 x.scale, .string x.text] 38)).drew := belx
          have m5 := (HSk.out.below hbS).cell5
          have slt : w1.heap.size + 1 < (wr.alloc (.cells #[.string x.name, .bool x.isNum, .int .i64 x.coef, .int .i64 x.scale, .string x.text] 38)).drew.heap.size := (Array.getElem?_eq_some_iff.1 (HSk.out.below hbS)).1
          obtain ⟨W5, hput, hOW, hFW⟩ := hm_put (s := x.name) (HMk.out.below hbS) Tryz.underlying91 (by unfold maxLen; omega) (by unfold maxLen; omega) (argV x)
          have HS2 : Hid (spkBlk W5 (w1.heap.size + 1) w1.heap.size S) := Lib.hid ((HSk.out.below hbS).off hFW (by simp))
          have HM2 : Hid (HMap W5 w1.heap.size (k + 1) (argsH (ags.take (k + 1)))) := Lib.hid (by
            have e : argsH (ags.take (k + 1)) = argsH (ags.take k) ++ [(x.name.data.toList, argV x)] := by unfold argsH; rw [List.take_add_one, hx, List.map_append]; rfl
            rw [e]; exact hOW)
          have HB2 : Hid (Below w.heap.size w W5) := Lib.hid ((HBk.out.trans (hbS.mono sk)).trans (hFW.toBelow (fun j hj => by simp only [List.mem_singleton] at hj; have := HB1.out.size; omega) (by have := hbS.size; omega)))
          unfold argV at hput
          clear hat hx hbS hOW hFW HSk HMk HBk
          go_wp2_with fail
          go_region
          all_goals
            go_wp2_with fail
            go_roundw
            case rel => exact ⟨k + 1, by omega, by go_num, HS2, HM2, HB2⟩
            case measure => simp [intOf]; omega
        · obtain rfl : k = ags.length := by omega
          have hM : HMap wr w1.heap.size ags.length (argsH ags) := by have := HMk.out; rwa [List.take_length] at this
          have hW : SayW wr w wr (w1.heap.size + 1) w1.heap.size ags.length S (argsH ags) ⟨#[]⟩ := ⟨HSk.out.spk (by have := HB1.out.size; omega), hM, HBk.out, HB1.out.size, Lib.OthersKept.refl _ _ _⟩
          have K := Lib.hid (KS.out wr wr (w1.heap.size + 1) w1.heap.size ags.length hW)
          have slt : w1.heap.size + 1 < wr.heap.size := hW.1.lt
          clear hM hW HSk HMk HBk
          go_wp2_with fail
          refine K.out.mono ?_
          rintro e w5 ⟨rfl, h5⟩
          rw [nil_app] at h5
          have s5 := h5.1.lt
          have hB5 := h5.2.2.1
          by_cases hz : r.1 = 0
          · have E0 : errOf r.1 = .nilIface := by rw [hz]; rfl
            have HT : Hid (topR = r) := Lib.hid (HTOP.out.trans (if_pos hz))
            have KST := Lib.hid (spk_string (l := r.2.data.toList) h5.1 hB5.size)
            have E1 : Hid (errOf r.1 = .nilIface) := Lib.hid E0
            rw [E0]
            clear h5 hz E0 K
            go_wp2_with fail
            refine KST.out.mono ?_
            rintro e w6 ⟨rfl, hb6⟩
            go_wp2_with fail
            go_ret2
            rw [HT.out, E1.out]
            exact ⟨rfl, hB5.trans hb6⟩
          · have E0 : errOf r.1 = errT r.1 := if_neg hz
            have HT : Hid (topR = (r.1, ⟨#[]⟩)) := Lib.hid (HTOP.out.trans (if_neg hz))
            have E1 : Hid (errOf r.1 = errT r.1) := Lib.hid E0
            rw [E0]
            clear h5 hz E0 K
            go_wp2_with fail
            go_ret2
            rw [HT.out]
            show _ = Ending.returned (.tuple #[.string ⟨#[]⟩, errOf r.1]) ∧ _
            rw [E1.out]
            exact ⟨rfl, hB5⟩
  · have hT : topT (setOf lng) f ms ags = (fitsP f ms ags, ⟨#[]⟩) := by unfold topT sayT; rw [if_neg hf]; simp only; rw [if_neg hf]
    rw [hT]
    have HE : Hid (errOf (fitsP f ms ags) = errT (fitsP f ms ags)) := Lib.hid (if_neg hf)
    rw [HE.out] at KF
    clear hT hfit hz hN hA hE hM hK hL hf
    generalize fitsP f ms ags = E at *
    simp only
    rw [HE.out]
    go_enter Tryz.func9, Tryz.ntmps9
    go_wp2_with fail
    refine KF.out.mono ?_
    rintro e w1 ⟨rfl, hb1⟩
    go_wp2_with fail
    go_ret2
    exact ⟨rfl, hb1⟩
end Go.Proofs.YtplaohmdllindaaGreatDoor
