/- EvalSay, SayTop, EvalFacts, WrapsPlain: texts put together. -/
import Derived.Test.YthlcjlmaaaappaaGreatDoorEw29
import Derived.Test.YthlcjlmaaaappaaGreatDoorEw30
import Derived.Test.YthlcjlmaaaappaaGreatDoorEw31
import Derived.Test.YthlcjlmaaaappaaGreatDoorEw27
import Derived.Test.YthlcjlmaaaappaaGreatDoorEw26
set_option linter.unusedVariables false
set_option linter.unusedSimpArgs false
/- eval's one and say, at every right message. -/
namespace Go.Proofs.YthlcjlmaaaappaaGreatDoor
open Go.RowKit Go.Maps

theorem nil_app (T : ByteArray) : (⟨#[]⟩ : ByteArray) ++ T = T := by
  apply ByteArray.ext
  apply Array.ext'
  simp
theorem sayGo_step {o : Nd → Int × ByteArray} {ms : List Nd} {k : Nat} {x : Nd} (h : ms[k]? = some x) : sayGo o (ms.drop k) = if (o x).1 = 0 then ((sayGo o (ms.drop (k + 1))).1, (o x).2 ++ (sayGo o (ms.drop (k + 1))).2) else o x := by
  rw [drop_at h, sayGo]

set_option maxHeartbeats 4000000 in
theorem eval_say (W0 : World) (b mb n : Nat) (S : SetC) (hS : S.ok = true) (hs : S.small) (ags : List ArgC) (hn : (ags.map nmA).Nodup) (hv : ∀ t, (lookA ags t).isNum = true → decOk (lookA ags t).coef (lookA ags t).scale)
    (hE : RuleEnv W0) (hK : KindsAt W0) (hL : NumLaid W0) : ∀ (f : Nat) (V : World) (v : Value) (ms : List Nd) (mc sc : Int) (m : Bool) (T : ByteArray) (w : World), NodesIn f W0 v ms → checkP f ms m = 0 → SayW V W0 w b mb n S (argsH ags) T →
      T.size + 200 + (sayP S (lookA ags) f ms mc sc).2.size ≤ 140737488355328 →
      Calls Tryz.prog 41 #[.pointer (some ⟨b, 0, none⟩), v, decV mc sc] w fun e w' => e = .returned (errOf (sayP S (lookA ags) f ms mc sc).1) ∧ SayW V W0 w' b mb n S (argsH ags) (T ++ (sayP S (lookA ags) f ms mc sc).2) := by
  intro f
  induction f with
  | zero =>
    intro V v ms mc sc m T w hN _ h _
    obtain ⟨rfl, A, c, rfl, hc⟩ := hN
    have HS := Lib.hid h
    clear h hE hK hL hn hv hS hs
    show Calls Tryz.prog 41 #[.pointer (some ⟨b, 0, none⟩), .slice A 0 c, decV mc sc] w fun e w' => e = .returned .nilIface ∧ SayW V W0 w' b mb n S (argsH ags) (T ++ ⟨#[]⟩)
    rw [app_nil]
    have hbA : Below w.heap.size w (w.alloc (.cells #[.int .i64 mc, .int .i64 sc] 51)) := (by (repeat (first | with_reducible exact Below.refl _ _ | with_reducible refine bel_set ?_ ?_ | with_reducible refine bel_alloc ?_ ?_ | with_reducible refine Below.drew ?_ | with_reducible refine bel_drewN _ ?_ | with_reducible refine bel_call ?_ (by assumption) ?_)); all_goals (first | (simp; done) | omega | (simp; omega)))
    have HS2 := Lib.hid (HS.out.below hbA)
    clear hbA
    go_enter Tryz.func41, Tryz.ntmps41
    go_wp2_with fail
    go_loopw [12] (fun i wr => i = .int .i64 0 ∧ w.alloc (.cells #[.int .i64 mc, .int .i64 sc] 51) = wr) (fun _ _ => 0)
    case atStart => exact ⟨rfl, rfl⟩
    case round =>
      obtain ⟨rfl, rfl⟩ := hrel
      go_wp2_with fail
      go_ret
      exact ⟨rfl, HS2.out⟩
  | succ f ih =>
    intro V v ms mc sc m T w hN hch h hlen
    have HONE : Hid (∀ (V : World) (x : Nd) (A : Option Addr) (cc : Nat) (T : ByteArray) (w : World), x ∈ ms → CasesN (NodesIn f W0) W0 (.slice A x.cs.length cc) x.cs → x.t.size ≤ 140737488355328 → SayW V W0 w b mb n S (argsH ags) T →
        T.size + 200 + (oneP S (lookA ags) (sayP S (lookA ags) f) mc sc x).2.size ≤ 140737488355328 →
        Calls Tryz.prog 63 #[.pointer (some ⟨b, 0, none⟩), .agg #[.int .i64 x.kd, .string x.t, .int .i64 x.off, .slice A x.cs.length cc], decV mc sc] w fun e w' =>
          e = .returned (errOf (oneP S (lookA ags) (sayP S (lookA ags) f) mc sc x).1) ∧ SayW V W0 w' b mb n S (argsH ags) (T ++ (oneP S (lookA ags) (sayP S (lookA ags) f) mc sc x).2)) := Lib.hid (fun V x A cc T w hx hC hts hW hl => by
      obtain ⟨q, hq⟩ := checkGo_zero _ _ _ _ hch x hx
      have hz := nodeP_zero hq
      obtain ⟨kd, t, off, cs⟩ := x
      have hI : ∀ (v : Value) (c : ByteArray × List Nd) (a d : Int) (w : World), c ∈ cs → kd = 4 ∨ kd = 5 → NodesIn f W0 v c.2 → SayW V W0 w b mb n S (argsH ags) T → T.size + 200 + (sayP S (lookA ags) f c.2 a d).2.size ≤ 140737488355328 →
          Calls Tryz.prog 41 #[.pointer (some ⟨b, 0, none⟩), v, decV a d] w fun e w' => e = .returned (errOf (sayP S (lookA ags) f c.2 a d).1) ∧ SayW V W0 w' b mb n S (argsH ags) (T ++ (sayP S (lookA ags) f c.2 a d).2) :=
        fun v c a d w hc hk hv hW hl => ih V v c.2 a d _ T w hv ((hz.2.2 hk).2 c hc) hW hl
      by_cases h4 : kd = 4
      · exact say_plural V W0 b mb n S hS hs ags hn hv f hE hK hL kd off t A cs cc mc sc m hC hts _ q hq T w hW hl h4 hI
      · by_cases h5 : kd = 5
        · exact say_select V W0 b mb n S hS hs ags hn hv f hE hK hL kd off t A cs cc mc sc m hC hts _ q hq T w hW hl h5 hI
        · exact say_plain V W0 b mb n S hS hs ags hn hv f hE hK hL kd off t A cs cc mc sc m hC hts _ q hq T w hW hl ⟨h4, h5⟩ hI)
    obtain ⟨A, c, rfl, hc, hc2, hl⟩ := hN.form
    have HN := Lib.hid hN
    obtain ⟨w1, hw1⟩ : ∃ w1, w1 = w.alloc (.cells #[.int .i64 mc, .int .i64 sc] 51) := ⟨_, rfl⟩
    have hbA : Below w.heap.size w w1 := by rw [hw1]; exact (by (repeat (first | with_reducible exact Below.refl _ _ | with_reducible refine bel_set ?_ ?_ | with_reducible refine bel_alloc ?_ ?_ | with_reducible refine Below.drew ?_ | with_reducible refine bel_drewN _ ?_ | with_reducible refine bel_call ?_ (by assumption) ?_)); all_goals (first | (simp; done) | omega | (simp; omega)))
    have hbk : w1.heap[w.heap.size]? = some (.cells #[.int .i64 mc, .int .i64 sc] 51 (0, 0)) := by rw [hw1]; exact heap_alloc_new w _
    obtain ⟨o, ho⟩ : ∃ o, o = oneP S (lookA ags) (sayP S (lookA ags) f) mc sc := ⟨_, rfl⟩
    have hR : sayP S (lookA ags) (f + 1) ms mc sc = sayGo o (ms.drop 0) := by rw [ho]; rfl
    rw [hR] at hlen ⊢
    rw [← ho] at HONE
    have hV := h.2.2.2.2
    have HV := Lib.hid (hV.trans (others_below hbA))
    have HS0 : Hid (SayW w1 W0 w1 b mb n S (argsH ags) (T ++ ⟨#[]⟩)) := Lib.hid (by rw [app_nil]; exact (h.below hbA).from w1 (Lib.OthersKept.refl _ _ _))
    have hlen0 : (T ++ (⟨#[]⟩ : ByteArray)).size + 200 + (sayGo o (ms.drop 0)).2.size ≤ 140737488355328 := by rw [app_nil]; exact hlen
    have HB0 := Lib.hid h.2.2.1
    have hne : b ≠ w.heap.size := by have := h.1.lt; omega
    obtain ⟨R, hRR⟩ : ∃ R, R = sayGo o (ms.drop 0) := ⟨_, rfl⟩
    have HG0 : Hid (((sayGo o (ms.drop 0)).1, (⟨#[]⟩ : ByteArray) ++ (sayGo o (ms.drop 0)).2) = R) := Lib.hid (by rw [hRR, show (⟨#[]⟩ : ByteArray) ++ (sayGo o (ms.drop 0)).2 = (sayGo o (ms.drop 0)).2 from nil_app _])
    rw [← hRR]
    have HW1 := Lib.hid hw1
    have HBK := Lib.hid hbk
    have HBA := Lib.hid hbA
    have HLEN := Lib.hid hlen0
    clear h hE hK hL hn hv hS hs ih hch hN hV hlen hlen0 hRR hR ho hw1 hbk hbA
    generalize argsH ags = l at *
    go_enter Tryz.func41, Tryz.ntmps41
    go_wp2_with fail
    rw [← HW1.out]
    go_loopw [12] (fun i wr => ∃ (k : Nat) (U : ByteArray), k ≤ ms.length ∧ i = .int .i64 k ∧ Hid (SayW w1 W0 wr b mb n S l (T ++ U)) ∧ Hid (((sayGo o (ms.drop k)).1, U ++ (sayGo o (ms.drop k)).2) = R) ∧ Hid ((T ++ U).size + 200 + (sayGo o (ms.drop k)).2.size ≤ 140737488355328)) (fun i _ => ms.length - (intOf i).toNat)
    case atStart => exact ⟨0, ⟨#[]⟩, Nat.zero_le _, rfl, HS0, HG0, HLEN⟩
    case round =>
      obtain ⟨k, U, hk, rfl, HS, HG, HL⟩ := hrel
      by_cases hlt : k < ms.length
      · obtain ⟨bA, oA, rfl, hat⟩ := HN.out.at (by omega)
        obtain ⟨x, hx⟩ : ∃ x, ms[k]? = some x := ⟨ms[k], List.getElem?_eq_getElem hlt⟩
        have hxa := hat k x hx
        have hts := hxa.1
        obtain ⟨A2, cc, x1, x2, x3, hC, n0, n1, n2, n3⟩ := hxa.cells
        have hst := sayGo_step (o := o) hx
        have hb0 := HS.out.2.2.1
        replace n0 := carry hb0 n0
        replace n1 := carry hb0 n1
        replace n2 := carry hb0 n2
        replace n3 := carry hb0 n3
        have hbx := HS.out.2.2.2.2 _ _ HBK.out (fun e => hne (Option.some.inj e).symm) (fun c fz e => by injection e with _ e2 _; exact absurd e2 (by decide))
        have d0 : wr.cell? ⟨w.heap.size, 0, none⟩ = some (.int .i64 mc) := by simp [World.cell?, hbx]
        have d1 : wr.cell? ⟨w.heap.size, 1, none⟩ = some (.int .i64 sc) := by simp [World.cell?, hbx]
        have hbS : Below wr.heap.size wr (wr.alloc (.cells #[.int .i64 x.kd, .string x.t, .int .i64 x.off, .slice A2 x.cs.length cc] 30)) := (by (repeat (first | with_reducible exact Below.refl _ _ | with_reducible refine bel_set ?_ ?_ | with_reducible refine bel_alloc ?_ ?_ | with_reducible refine Below.drew ?_ | with_reducible refine bel_drewN _ ?_ | with_reducible refine bel_call ?_ (by assumption) ?_)); all_goals (first | (simp; done) | omega | (simp; omega)))
        have d0' := carry hbS d0
        have d1' := carry hbS d1
        have i0 : (0 : Int) ≤ (k : Int) := by omega
        have i1 : (k : Int) < (ms.length : Int) := by omega
        have i2 : (k : Int) ≤ (c : Int) := by omega
        have e1 : IntKind.i64.wrap ((k : Int) + 1) = (k : Int) + 1 := IntWalk.i64_in _ (by omega)
        have hl1 : (T ++ U).size + 200 + (o x).2.size ≤ 140737488355328 := by
          have := HL.out
          rw [hst] at this
          split at this
          · simp only [ByteArray.size_append] at this ⊢; omega
          · exact this
        have K := Lib.hid (HONE.out w1 x A2 cc (T ++ U) _ (List.mem_of_getElem? hx) hC hts (HS.out.below hbS) hl1)
        have HST := Lib.hid hst
        clear hat hx hxa hC hst hb0 hbx d0 d1 hbS hl1 HS HONE
        go_wp2_with fail
        refine K.out.mono ?_
        rintro e w2 ⟨rfl, h2⟩
        have HS2 := Lib.hid h2
        clear h2 n0 n1 n2 n3 d0' d1' K
        by_cases hz : (o x).1 = 0
        · have E0 : errOf (o x).1 = .nilIface := by rw [hz]; rfl
          have hg := HG.out
          have hl := HL.out
          rw [HST.out, if_pos hz] at hg hl
          have HG2 : Hid (((sayGo o (ms.drop (k + 1))).1, (U ++ (o x).2) ++ (sayGo o (ms.drop (k + 1))).2) = R) := Lib.hid (by rw [← hg, ByteArray.append_assoc])
          have HS3 : Hid (SayW w1 W0 w2 b mb n S l (T ++ (U ++ (o x).2))) := Lib.hid (by rw [← ByteArray.append_assoc]; exact HS2.out)
          have HL3 : Hid ((T ++ (U ++ (o x).2)).size + 200 + (sayGo o (ms.drop (k + 1))).2.size ≤ 140737488355328) := Lib.hid (by simp only [ByteArray.size_append] at hl ⊢; omega)
          rw [E0]
          clear hg hl HG HL HS2 HST hz E0
          go_wp2_with fail
          go_roundw
          case rel => exact ⟨k + 1, U ++ (o x).2, by omega, by go_num, HS3, HG2, HL3⟩
          case measure => simp [intOf]; omega
        · have E0 : errOf (o x).1 = errT (o x).1 := if_neg hz
          have hg := HG.out
          rw [HST.out, if_neg hz] at hg
          have HR : Hid (R = ((o x).1, U ++ (o x).2)) := Lib.hid hg.symm
          have HF := Lib.hid (HS2.out.from V (HV.out.trans HS2.out.2.2.2.2))
          have HE0 : Hid (errOf (o x).1 = errT (o x).1) := Lib.hid E0
          rw [E0]
          clear hg HG HL HS2 HST hz E0
          go_wp2_with fail
          go_ret
          rw [HR.out, HE0.out]
          refine ⟨rfl, ?_⟩
          rw [← ByteArray.append_assoc]
          exact HF.out
      · obtain rfl : k = ms.length := by omega
        have hg := HG.out
        rw [List.drop_of_length_le (Nat.le_refl _), sayGo] at hg
        simp only [app_nil] at hg
        have HR : Hid (R = (0, U)) := Lib.hid hg.symm
        have E0 : Hid (errOf 0 = .nilIface) := Lib.hid rfl
        have HF := Lib.hid (HS.out.from V (HV.out.trans HS.out.2.2.2.2))
        clear hg HG HL
        go_wp2_with fail
        go_ret
        rw [HR.out, E0.out]
        exact ⟨rfl, HF.out⟩
end Go.Proofs.YthlcjlmaaaappaaGreatDoor

/- eval.Say. -/
namespace Go.Proofs.YthlcjlmaaaappaaGreatDoor
open Go.RowKit Go.Maps

theorem lang_right {s : List UInt8} {x : SetC} (h : langOf s = some x) : x.ok = true ∧ x.small := by
  have hs : ∀ x : SetC, x.s0.size < 4294967281 → x.s1.size < 4294967281 → x.s2.size < 4294967281 → x.s3.size < 4294967281 → x.s4.size < 4294967281 → x.small := fun x h0 h1 h2 h3 h4 i => by
    match i with
    | 0 => exact h0
    | 1 => exact h1
    | 2 => exact h2
    | 3 => exact h3
    | 4 => exact h4
    | n + 5 => exact (by decide : (⟨#[]⟩ : ByteArray).size < 4294967281)
  rcases langOf_cases h with rfl | rfl | rfl | rfl | rfl | rfl | rfl | rfl
  all_goals exact ⟨by kernel_rfl, hs _ (by decide) (by decide) (by decide) (by decide) (by decide)⟩
theorem no_right : noS.ok = true ∧ noS.small := ⟨by kernel_rfl, fun i => by
  match i with
  | 0 => exact (by decide : (⟨#[]⟩ : ByteArray).size < 4294967281)
  | 1 => exact (by decide : (⟨#[]⟩ : ByteArray).size < 4294967281)
  | 2 => exact (by decide : (⟨#[]⟩ : ByteArray).size < 4294967281)
  | 3 => exact (by decide : (⟨#[]⟩ : ByteArray).size < 4294967281)
  | 4 => exact (by decide : (⟨#[]⟩ : ByteArray).size < 4294967281)
  | n + 5 => exact (by decide : (⟨#[]⟩ : ByteArray).size < 4294967281)⟩
/-- the rules of a language, or none -/
def setOf (l : ByteArray) : SetC := (langOf l.data.toList).getD noS
theorem setOf_right (l : ByteArray) : (setOf l).ok = true ∧ (setOf l).small := by
  unfold setOf
  cases h : langOf l.data.toList with
  | none => exact no_right
  | some x => exact lang_right h
/-- eval.Say: the fault, the text -/
def topT (S : SetC) (f : Nat) (ms : List Nd) (ags : List ArgC) : Int × ByteArray := if (sayT S f ms ags).1 = 0 then sayT S f ms ags else ((sayT S f ms ags).1, ⟨#[]⟩)
def spkBlk (w : World) (b mb : Nat) (S : SetC) : Prop := w.heap[b]? = some (.cells (spkC S mb (.pointer none) (.slice none 0 0)) 93 (0, 0))
theorem spk_fill {w : World} {b mb : Nat} {S : SetC} (h : spkBlk w b mb noS) : spkBlk (((((w.setCell ⟨b, 0, none⟩ (.string S.s0)).setCell ⟨b, 1, none⟩ (.string S.s1)).setCell ⟨b, 2, none⟩ (.string S.s2)).setCell ⟨b, 3, none⟩ (.string S.s3)).setCell ⟨b, 4, none⟩ (.string S.s4)) b mb S := by
  unfold spkBlk at h ⊢
  have h0 := h
  rw [setCell_eq_setRow w b 0 _ _ _ _ h]
  replace h := setRow_heap w b _ (spkC noS mb (.pointer none) (.slice none 0 0) |>.setIfInBounds 0 (.string S.s0)) _ _ h
  rw [setCell_eq_setRow _ b 1 _ _ _ _ h]
  replace h := setRow_heap _ b _ (((spkC noS mb (.pointer none) (.slice none 0 0)).setIfInBounds 0 (.string S.s0)).setIfInBounds 1 (.string S.s1)) _ _ h
  rw [setCell_eq_setRow _ b 2 _ _ _ _ h]
  replace h := setRow_heap _ b _ ((((spkC noS mb (.pointer none) (.slice none 0 0)).setIfInBounds 0 (.string S.s0)).setIfInBounds 1 (.string S.s1)).setIfInBounds 2 (.string S.s2)) _ _ h
  rw [setCell_eq_setRow _ b 3 _ _ _ _ h]
  replace h := setRow_heap _ b _ (((((spkC noS mb (.pointer none) (.slice none 0 0)).setIfInBounds 0 (.string S.s0)).setIfInBounds 1 (.string S.s1)).setIfInBounds 2 (.string S.s2)).setIfInBounds 3 (.string S.s3)) _ _ h
  rw [setCell_eq_setRow _ b 4 _ _ _ _ h]
  exact setRow_heap _ b _ ((((((spkC noS mb (.pointer none) (.slice none 0 0)).setIfInBounds 0 (.string S.s0)).setIfInBounds 1 (.string S.s1)).setIfInBounds 2 (.string S.s2)).setIfInBounds 3 (.string S.s3)).setIfInBounds 4 (.string S.s4)) _ _ h
theorem spkBlk.spk {w : World} {B b mb : Nat} {S : SetC} (h : spkBlk w b mb S) (hB : B ≤ b) : Spk w B b mb S (Lib.strCells ⟨#[]⟩) :=
  .inl ⟨hB, .slice none 0 0, h, World.ownsRow_nil _ _ _ _, by simp [Value.ownBlock]⟩
theorem spkBlk.off {w w' : World} {b mb : Nat} {S : SetC} {L : List Nat} (h : spkBlk w b mb S) (hf : Off L w w') (hb : b ∉ L) : spkBlk w' b mb S := (hf.block b (Array.getElem?_eq_some_iff.1 h).1 hb).trans h
theorem spkBlk.below {w w' : World} {b mb : Nat} {S : SetC} (h : spkBlk w b mb S) (hb : Below w.heap.size w w') : spkBlk w' b mb S := h.off ((Off.refl [] w).below hb (Nat.le_refl _)) (by simp)
theorem spkBlk.cell5 {w : World} {b mb : Nat} {S : SetC} (h : spkBlk w b mb S) : w.cell? ⟨b, 5, none⟩ = some (.map (some mb)) := by rw [Lib.cell_of_heap h]; rfl


set_option maxHeartbeats 8000000 in
set_option maxRecDepth 100000 in
theorem eval_Say (L f : Nat) (v : Value) (ms : List Nd) (lng : ByteArray) (A : Option Addr) (c : Nat) (ags : List ArgC) (w : World) (hE : RuleEnv w) (hM : MKinds w) (hK : KindsAt w) (hL : NumLaid w) (hN : NodesIn f w v ms) (hA : ArgsIn w A ags) (hc : ags.length ≤ c) (hc2 : c ≤ 9223372036854775807) (hl : ags.length ≤ 1000000000000)
    (hL1 : 200 ≤ L) (hL2 : L ≤ 1000000000000) (hfit : FitN L f ms) (hz : ∀ a ∈ ags, a.name.size ≤ 140737488355328 ∧ a.text.size ≤ L) (hln : lng.size ≤ 140737488355328) :
    Calls Tryz.prog 16 #[v, .string lng, .slice A ags.length c] w fun e w' => e = .returned (.tuple #[.string (topT (setOf lng) f ms ags).2, errOf (topT (setOf lng) f ms ags).1]) ∧ Below w.heap.size w w' := by
  have KF := Lib.hid (names_fits f v ms A c ags w hE hM hN hA hc hc2 hl (fun a ha => (hz a ha).1))
  obtain ⟨_, _, rfl, _, _, _⟩ := hN.form
  have hmm := @run_makeMap Tryz.prog
  by_cases hf : fitsP f ms ags = 0
  · obtain ⟨g1, g2, g3⟩ := fits_zero.1 hf
    obtain ⟨a1, a2, _⟩ := (args_zero ags []).1 g2
    have hlookv : ∀ t, (lookA ags t).isNum = true → decOk (lookA ags t).coef (lookA ags t).scale := fun t h => by
      unfold lookA at h ⊢
      cases hq : ags.find? (hasA t) with
      | none => rw [hq] at h; cases h
      | some a => rw [hq] at h; exact (a1 a (List.mem_of_find?_eq_some hq)).2 h
    have hlookt : ∀ t, (lookA ags t).text.size ≤ L ∧ ((lookA ags t).isNum = true → decOk (lookA ags t).coef (lookA ags t).scale) := fun t => ⟨by
      unfold lookA
      cases hq : ags.find? (hasA t) with
      | none => exact Nat.zero_le _
      | some a => exact (hz a (List.mem_of_find?_eq_some hq)).2, hlookv t⟩
    obtain ⟨m1, m2⟩ := msg_small (names_msg g1)
    obtain ⟨S, hS⟩ : ∃ S, S = setOf lng := ⟨_, rfl⟩
    obtain ⟨r1, r2⟩ := setOf_right lng
    rw [← hS] at r1 r2 ⊢
    have hsz := say_size S hL1 hlookt f ms 0 0 hfit
    have hsz2 : cntP f ms * L ≤ 60 * L := Nat.mul_le_mul_right _ m1
    have hT : topT S f ms ags = if (sayP S (lookA ags) f ms 0 0).1 = 0 then sayP S (lookA ags) f ms 0 0 else ((sayP S (lookA ags) f ms 0 0).1, ⟨#[]⟩) := by unfold topT sayT; rw [if_pos hf]
    have KS := Lib.hid (fun (V wx : World) (b mb n : Nat) hW => eval_say w b mb n S r1 r2 ags a2 hlookv hE hK hL f V _ ms 0 0 false ⟨#[]⟩ wx hN m2 hW (by rw [show (⟨#[]⟩ : ByteArray).size = 0 from rfl]; omega))
    have HTOP := Lib.hid hT
    have HA := Lib.hid hA
    have HZ := Lib.hid (fun a ha => (hz a ha).1)
    rw [hf] at KF
    clear hsz hsz2 hT hlookt hlookv a1 a2 g1 g2 g3 m1 m2 hfit hz hN hA hE hM hK hL r1 r2 hf
    generalize sayP S (lookA ags) f ms 0 0 = r at *
    generalize topT S f ms ags = topR at *
    have E0 : Hid (errOf 0 = .nilIface) := Lib.hid rfl
    rw [E0.out] at KF
    cases hlg : langOf lng.data.toList with
    | none =>
      have KL := Lib.hid (fun W => lang_none lng W (by unfold maxLen; omega) hlg)
      have hS2 : S = noS := by rw [hS]; unfold setOf; rw [hlg]; rfl
      clear hS hlg
      go_enter Tryz.func16, Tryz.ntmps16
      go_wp2_with fail
      refine KF.out.mono ?_
      rintro e w1 ⟨rfl, hb1⟩
      have HB1 := Lib.hid hb1
      clear hb1
      go_wp2_with fail
      refine (KL.out _).mono ?_
      rintro e w2 ⟨rfl, hb2⟩
      have hsb : spkBlk ((w1.alloc (.map #[] 0)).alloc (.cells #[.string ⟨#[]⟩, .string ⟨#[]⟩, .string ⟨#[]⟩, .string ⟨#[]⟩, .string ⟨#[]⟩, .map (some w1.heap.size), .pointer none, .slice none 0 0] 93)) (w1.heap.size + 1) w1.heap.size noS := by
        have h := heap_alloc_new (w1.alloc (.map #[] 0)) (.cells #[.string ⟨#[]⟩, .string ⟨#[]⟩, .string ⟨#[]⟩, .string ⟨#[]⟩, .string ⟨#[]⟩, .map (some w1.heap.size), .pointer none, .slice none 0 0] 93)
        rw [show (w1.alloc (.map #[] 0)).heap.size = w1.heap.size + 1 by simp] at h
        exact h
      have hmp : HMap ((w1.alloc (.map #[] 0)).alloc (.cells #[.string ⟨#[]⟩, .string ⟨#[]⟩, .string ⟨#[]⟩, .string ⟨#[]⟩, .string ⟨#[]⟩, .map (some w1.heap.size), .pointer none, .slice none 0 0] 93)) w1.heap.size 0 (argsH (ags.take 0)) := (hm_made w1).alloc _
      have hbb : Below w.heap.size w ((w1.alloc (.map #[] 0)).alloc (.cells #[.string ⟨#[]⟩, .string ⟨#[]⟩, .string ⟨#[]⟩, .string ⟨#[]⟩, .string ⟨#[]⟩, .map (some w1.heap.size), .pointer none, .slice none 0 0] 93)) := by have := HB1.out.size; exact (HB1.out.alloc this _).alloc (by simp; omega) _
      have SB := Lib.hid (hsb.below hb2)
      have MP := Lib.hid (hmp.below hb2)
      have BB := Lib.hid (hbb.trans (hb2.mono hbb.size))
      have s2 := BB.out.size
      have slt2 : w1.heap.size + 1 < w2.heap.size := (Array.getElem?_eq_some_iff.1 SB.out).1
      clear hsb hmp hbb hb2
      have hbA : Below w2.heap.size w2 (w2.alloc (.cells #[.string ⟨#[]⟩, .string ⟨#[]⟩, .string ⟨#[]⟩, .string ⟨#[]⟩, .string ⟨#[]⟩] 40)) := (by (repeat (first | with_reducible exact Below.refl _ _ | with_reducible refine bel_set ?_ ?_ | with_reducible refine bel_alloc ?_ ?_ | with_reducible refine Below.drew ?_ | with_reducible refine bel_drewN _ ?_ | with_reducible refine bel_call ?_ (by assumption) ?_)); all_goals (first | (simp; done) | omega | (simp; omega)))
      have HSB : Hid (spkBlk (w2.alloc (.cells #[.string ⟨#[]⟩, .string ⟨#[]⟩, .string ⟨#[]⟩, .string ⟨#[]⟩, .string ⟨#[]⟩] 40)) (w1.heap.size + 1) w1.heap.size S) := Lib.hid (by rw [hS2]; exact SB.out.below hbA)
      have HMP := Lib.hid (MP.out.below hbA)
      have HBQ := Lib.hid (BB.out.trans (hbA.mono s2))
      clear hbA hS2
      go_wp2_with fail
      go_loopw [37] (fun i wr => ∃ k : Nat, k ≤ ags.length ∧ i = .int .i64 k ∧ Hid (spkBlk wr (w1.heap.size + 1) w1.heap.size S) ∧ Hid (HMap wr w1.heap.size k (argsH (ags.take k))) ∧ Hid (Below w.heap.size w wr)) (fun i _ => ags.length - (intOf i).toNat)
      case atStart => exact ⟨0, Nat.zero_le _, rfl, HSB, HMP, HBQ⟩
      case round =>
        obtain ⟨k, hk, rfl, HSk, HMk, HBk⟩ := hrel
        have sk := HBk.out.size
        by_cases hlt : k < ags.length
        · obtain ⟨bA, oA, rfl, hat⟩ := (HA.out.below HBk.out).at (by omega)
          obtain ⟨x, hx⟩ : ∃ x, ags[k]? = some x := ⟨ags[k], List.getElem?_eq_getElem hlt⟩
          obtain ⟨n0, n1, n2, n3, n4⟩ := hat k x hx
          have hxz := HZ.out x (List.mem_of_getElem? hx)
          have i0 : (0 : Int) ≤ (k : Int) := by omega
          have i1 : (k : Int) < (ags.length : Int) := by omega
          have i2 : (k : Int) ≤ (c : Int) := by omega
          have e1 : IntKind.i64.wrap ((k : Int) + 1) = (k : Int) + 1 := IntWalk.i64_in _ (by omega)
          have hbS : Below wr.heap.size wr (wr.alloc (.cells #[.string x.name, .bool x.isNum, .int .i64 x.coef, .int .i64 x.scale, .string x.text] 53)).drew := (by (repeat (first | with_reducible exact Below.refl _ _ | with_reducible refine bel_set ?_ ?_ | with_reducible refine bel_alloc ?_ ?_ | with_reducible refine Below.drew ?_ | with_reducible refine bel_drewN _ ?_ | with_reducible refine bel_call ?_ (by assumption) ?_)); all_goals (first | (simp; done) | omega | (simp; omega)))
          have m5 := (HSk.out.below hbS).cell5
          have slt : w1.heap.size + 1 < (wr.alloc (.cells #[.string x.name, .bool x.isNum, .int .i64 x.coef, .int .i64 x.scale, .string x.text] 53)).drew.heap.size := (Array.getElem?_eq_some_iff.1 (HSk.out.below hbS)).1
          obtain ⟨W5, hput, hOW, hFW⟩ := hm_put (s := x.name) (HMk.out.below hbS) Tryz.underlying87 (by unfold maxLen; omega) (by unfold maxLen; omega) (argV x)
          have HS2 : Hid (spkBlk W5 (w1.heap.size + 1) w1.heap.size S) := Lib.hid ((HSk.out.below hbS).off hFW (by simp))
          have HM2 : Hid (HMap W5 w1.heap.size (k + 1) (argsH (ags.take (k + 1)))) := Lib.hid (by
            have e : argsH (ags.take (k + 1)) = argsH (ags.take k) ++ [(x.name.data.toList, argV x)] := by unfold argsH; rw [List.take_add_one, hx, List.map_append]; rfl
            rw [e]; exact hOW)
          have HB2 : Hid (Below w.heap.size w W5) := Lib.hid ((HBk.out.trans (hbS.mono sk)).trans (hFW.toBelow (fun j hj => by simp only [List.mem_singleton] at hj; have := HB1.out.size; omega) (by have := hbS.size; omega)))
          unfold argV at hput
          clear hat hx hbS hOW hFW HSk HMk HBk
          go_wp2_with fail
          go_region
          all_goals
            go_wp2_with fail
            go_roundw
            case rel => exact ⟨k + 1, by omega, by go_num, HS2, HM2, HB2⟩
            case measure => simp [intOf]; omega
        · obtain rfl : k = ags.length := by omega
          have hM : HMap wr w1.heap.size ags.length (argsH ags) := by have := HMk.out; rwa [List.take_length] at this
          have hW : SayW wr w wr (w1.heap.size + 1) w1.heap.size ags.length S (argsH ags) ⟨#[]⟩ := ⟨HSk.out.spk (by have := HB1.out.size; omega), hM, HBk.out, HB1.out.size, Lib.OthersKept.refl _ _ _⟩
          have K := Lib.hid (KS.out wr wr (w1.heap.size + 1) w1.heap.size ags.length hW)
          have slt : w1.heap.size + 1 < wr.heap.size := hW.1.lt
          clear hM hW HSk HMk HBk
          go_wp2_with fail
          refine K.out.mono ?_
          rintro e w5 ⟨rfl, h5⟩
          rw [nil_app] at h5
          have s5 := h5.1.lt
          have hB5 := h5.2.2.1
          by_cases hz : r.1 = 0
          · have E0 : errOf r.1 = .nilIface := by rw [hz]; rfl
            have HT : Hid (topR = r) := Lib.hid (HTOP.out.trans (if_pos hz))
            have KST := Lib.hid (spk_string (l := r.2.data.toList) h5.1 hB5.size)
            have E1 : Hid (errOf r.1 = .nilIface) := Lib.hid E0
            rw [E0]
            clear h5 hz E0 K
            go_wp2_with fail
            refine KST.out.mono ?_
            rintro e w6 ⟨rfl, hb6⟩
            go_wp2_with fail
            go_ret2
            rw [HT.out, E1.out]
            exact ⟨rfl, hB5.trans hb6⟩
          · have E0 : errOf r.1 = errT r.1 := if_neg hz
            have HT : Hid (topR = (r.1, ⟨#[]⟩)) := Lib.hid (HTOP.out.trans (if_neg hz))
            have E1 : Hid (errOf r.1 = errT r.1) := Lib.hid E0
            rw [E0]
            clear h5 hz E0 K
            go_wp2_with fail
            go_ret2
            rw [HT.out]
            show _ = Ending.returned (.tuple #[.string ⟨#[]⟩, errOf r.1]) ∧ _
            rw [E1.out]
            exact ⟨rfl, hB5⟩
    | some x =>
      have KL := Lib.hid (fun W => lang_known lng x W (by unfold maxLen; omega) hlg)
      have hS2 : S = x := by rw [hS]; unfold setOf; rw [hlg]; rfl
      clear hS hlg
      go_enter Tryz.func16, Tryz.ntmps16
      go_wp2_with fail
      refine KF.out.mono ?_
      rintro e w1 ⟨rfl, hb1⟩
      have HB1 := Lib.hid hb1
      clear hb1
      go_wp2_with fail
      refine (KL.out _).mono ?_
      rintro e w2 ⟨rfl, hb2⟩
      have hsb : spkBlk ((w1.alloc (.map #[] 0)).alloc (.cells #[.string ⟨#[]⟩, .string ⟨#[]⟩, .string ⟨#[]⟩, .string ⟨#[]⟩, .string ⟨#[]⟩, .map (some w1.heap.size), .pointer none, .slice none 0 0] 93)) (w1.heap.size + 1) w1.heap.size noS := by
        have h := heap_alloc_new (w1.alloc (.map #[] 0)) (.cells #[.string ⟨#[]⟩, .string ⟨#[]⟩, .string ⟨#[]⟩, .string ⟨#[]⟩, .string ⟨#[]⟩, .map (some w1.heap.size), .pointer none, .slice none 0 0] 93)
        rw [show (w1.alloc (.map #[] 0)).heap.size = w1.heap.size + 1 by simp] at h
        exact h
      have hmp : HMap ((w1.alloc (.map #[] 0)).alloc (.cells #[.string ⟨#[]⟩, .string ⟨#[]⟩, .string ⟨#[]⟩, .string ⟨#[]⟩, .string ⟨#[]⟩, .map (some w1.heap.size), .pointer none, .slice none 0 0] 93)) w1.heap.size 0 (argsH (ags.take 0)) := (hm_made w1).alloc _
      have hbb : Below w.heap.size w ((w1.alloc (.map #[] 0)).alloc (.cells #[.string ⟨#[]⟩, .string ⟨#[]⟩, .string ⟨#[]⟩, .string ⟨#[]⟩, .string ⟨#[]⟩, .map (some w1.heap.size), .pointer none, .slice none 0 0] 93)) := by have := HB1.out.size; exact (HB1.out.alloc this _).alloc (by simp; omega) _
      have SB := Lib.hid (hsb.below hb2)
      have MP := Lib.hid (hmp.below hb2)
      have BB := Lib.hid (hbb.trans (hb2.mono hbb.size))
      have s2 := BB.out.size
      have slt2 : w1.heap.size + 1 < w2.heap.size := (Array.getElem?_eq_some_iff.1 SB.out).1
      clear hsb hmp hbb hb2
      obtain ⟨x0, x1, x2, x3, x4⟩ := x
      simp only
      have c0 : w2.cell? ⟨w1.heap.size + 1, 0, none⟩ = some (.string ⟨#[]⟩) := by rw [Lib.cell_of_heap SB.out]; rfl
      have c1 : w2.cell? ⟨w1.heap.size + 1, 1, none⟩ = some (.string ⟨#[]⟩) := by rw [Lib.cell_of_heap SB.out]; rfl
      have c2 : w2.cell? ⟨w1.heap.size + 1, 2, none⟩ = some (.string ⟨#[]⟩) := by rw [Lib.cell_of_heap SB.out]; rfl
      have c3 : w2.cell? ⟨w1.heap.size + 1, 3, none⟩ = some (.string ⟨#[]⟩) := by rw [Lib.cell_of_heap SB.out]; rfl
      have c4 : w2.cell? ⟨w1.heap.size + 1, 4, none⟩ = some (.string ⟨#[]⟩) := by rw [Lib.cell_of_heap SB.out]; rfl
      have f0 : w2.frozen? ⟨w1.heap.size + 1, 0, none⟩ = false := Lib.frozen_of_heap SB.out 0
      have f1 : w2.frozen? ⟨w1.heap.size + 1, 1, none⟩ = false := Lib.frozen_of_heap SB.out 1
      have f2 : w2.frozen? ⟨w1.heap.size + 1, 2, none⟩ = false := Lib.frozen_of_heap SB.out 2
      have f3 : w2.frozen? ⟨w1.heap.size + 1, 3, none⟩ = false := Lib.frozen_of_heap SB.out 3
      have f4 : w2.frozen? ⟨w1.heap.size + 1, 4, none⟩ = false := Lib.frozen_of_heap SB.out 4
      obtain ⟨wp, hwp⟩ : ∃ wp, wp = (((((w2.setCell ⟨w1.heap.size + 1, 0, none⟩ (.string x0)).setCell ⟨w1.heap.size + 1, 1, none⟩ (.string x1)).setCell ⟨w1.heap.size + 1, 2, none⟩ (.string x2)).setCell ⟨w1.heap.size + 1, 3, none⟩ (.string x3)).setCell ⟨w1.heap.size + 1, 4, none⟩ (.string x4)) := ⟨_, rfl⟩
      have hsp : spkBlk wp (w1.heap.size + 1) w1.heap.size S := by rw [hS2, hwp]; exact spk_fill (S := ⟨x0, x1, x2, x3, x4⟩) SB.out
      have hoff : Off [w1.heap.size + 1] w2 wp := by
        rw [hwp]
        exact (((((Off.refl _ _).setCell _ _ (by simp)).setCell _ _ (by simp)).setCell _ _ (by simp)).setCell _ _ (by simp)).setCell _ _ (by simp)
      have hmp2 : HMap wp w1.heap.size 0 (argsH (ags.take 0)) := MP.out.off hoff (by simp)
      have hbq : Below w.heap.size w wp := BB.out.trans (hoff.toBelow (fun j hj => by simp only [List.mem_singleton] at hj; have := HB1.out.size; omega) s2)
      obtain ⟨wq, hwq⟩ : ∃ wq, wq = wp.alloc (.cells #[.string x0, .string x1, .string x2, .string x3, .string x4] 40) := ⟨_, rfl⟩
      have hbA : Below wp.heap.size wp wq := by rw [hwq]; exact (by (repeat (first | with_reducible exact Below.refl _ _ | with_reducible refine bel_set ?_ ?_ | with_reducible refine bel_alloc ?_ ?_ | with_reducible refine Below.drew ?_ | with_reducible refine bel_drewN _ ?_ | with_reducible refine bel_call ?_ (by assumption) ?_)); all_goals (first | (simp; done) | omega | (simp; omega)))
      have HSB : Hid (spkBlk wq (w1.heap.size + 1) w1.heap.size S) := Lib.hid (hsp.below hbA)
      have HMP : Hid (HMap wq w1.heap.size 0 (argsH (ags.take 0))) := Lib.hid (hmp2.below hbA)
      have HBQ : Hid (Below w.heap.size w wq) := Lib.hid (hbq.trans (hbA.mono hbq.size))
      rw [hwp] at hwq
      have HWQ := Lib.hid hwq
      clear hbA hS2 hoff hwq hwp hsp hmp2 hbq
      go_wp2_with fail
      rw [← HWQ.out]
      go_loopw [37] (fun i wr => ∃ k : Nat, k ≤ ags.length ∧ i = .int .i64 k ∧ Hid (spkBlk wr (w1.heap.size + 1) w1.heap.size S) ∧ Hid (HMap wr w1.heap.size k (argsH (ags.take k))) ∧ Hid (Below w.heap.size w wr)) (fun i _ => ags.length - (intOf i).toNat)
      case atStart => exact ⟨0, Nat.zero_le _, rfl, HSB, HMP, HBQ⟩
      case round =>
        obtain ⟨k, hk, rfl, HSk, HMk, HBk⟩ := hrel
        have sk := HBk.out.size
        by_cases hlt : k < ags.length
        · obtain ⟨bA, oA, rfl, hat⟩ := (HA.out.below HBk.out).at (by omega)
          obtain ⟨x, hx⟩ : ∃ x, ags[k]? = some x := ⟨ags[k], List.getElem?_eq_getElem hlt⟩
          obtain ⟨n0, n1, n2, n3, n4⟩ := hat k x hx
          have hxz := HZ.out x (List.mem_of_getElem? hx)
          have i0 : (0 : Int) ≤ (k : Int) := by omega
          have i1 : (k : Int) < (ags.length : Int) := by omega
          have i2 : (k : Int) ≤ (c : Int) := by omega
          have e1 : IntKind.i64.wrap ((k : Int) + 1) = (k : Int) + 1 := IntWalk.i64_in _ (by omega)
          have hbS : Below wr.heap.size wr (wr.alloc (.cells #[.string x.name, .bool x.isNum, .int .i64 x.coef, .int .i64 x.scale, .string x.text] 53)).drew := (by (repeat (first | with_reducible exact Below.refl _ _ | with_reducible refine bel_set ?_ ?_ | with_reducible refine bel_alloc ?_ ?_ | with_reducible refine Below.drew ?_ | with_reducible refine bel_drewN _ ?_ | with_reducible refine bel_call ?_ (by assumption) ?_)); all_goals (first | (simp; done) | omega | (simp; omega)))
          have m5 := (HSk.out.below hbS).cell5
          have slt : w1.heap.size + 1 < (wr.alloc (.cells #[.string x.name, .bool x.isNum, .int .i64 x.coef, .int .i64 x.scale, .string x.text] 53)).drew.heap.size := (Array.getElem?_eq_some_iff.1 (HSk.out.below hbS)).1
          obtain ⟨W5, hput, hOW, hFW⟩ := hm_put (s := x.name) (HMk.out.below hbS) Tryz.underlying87 (by unfold maxLen; omega) (by unfold maxLen; omega) (argV x)
          have HS2 : Hid (spkBlk W5 (w1.heap.size + 1) w1.heap.size S) := Lib.hid ((HSk.out.below hbS).off hFW (by simp))
          have HM2 : Hid (HMap W5 w1.heap.size (k + 1) (argsH (ags.take (k + 1)))) := Lib.hid (by
            have e : argsH (ags.take (k + 1)) = argsH (ags.take k) ++ [(x.name.data.toList, argV x)] := by unfold argsH; rw [List.take_add_one, hx, List.map_append]; rfl
            rw [e]; exact hOW)
          have HB2 : Hid (Below w.heap.size w W5) := Lib.hid ((HBk.out.trans (hbS.mono sk)).trans (hFW.toBelow (fun j hj => by simp only [List.mem_singleton] at hj; have := HB1.out.size; omega) (by have := hbS.size; omega)))
          unfold argV at hput
          clear hat hx hbS hOW hFW HSk HMk HBk
          go_wp2_with fail
          go_region
          all_goals
            go_wp2_with fail
            go_roundw
            case rel => exact ⟨k + 1, by omega, by go_num, HS2, HM2, HB2⟩
            case measure => simp [intOf]; omega
        · obtain rfl : k = ags.length := by omega
          have hM : HMap wr w1.heap.size ags.length (argsH ags) := by have := HMk.out; rwa [List.take_length] at this
          have hW : SayW wr w wr (w1.heap.size + 1) w1.heap.size ags.length S (argsH ags) ⟨#[]⟩ := ⟨HSk.out.spk (by have := HB1.out.size; omega), hM, HBk.out, HB1.out.size, Lib.OthersKept.refl _ _ _⟩
          have K := Lib.hid (KS.out wr wr (w1.heap.size + 1) w1.heap.size ags.length hW)
          have slt : w1.heap.size + 1 < wr.heap.size := hW.1.lt
          clear hM hW HSk HMk HBk
          go_wp2_with fail
          refine K.out.mono ?_
          rintro e w5 ⟨rfl, h5⟩
          rw [nil_app] at h5
          have s5 := h5.1.lt
          have hB5 := h5.2.2.1
          by_cases hz : r.1 = 0
          · have E0 : errOf r.1 = .nilIface := by rw [hz]; rfl
            have HT : Hid (topR = r) := Lib.hid (HTOP.out.trans (if_pos hz))
            have KST := Lib.hid (spk_string (l := r.2.data.toList) h5.1 hB5.size)
            have E1 : Hid (errOf r.1 = .nilIface) := Lib.hid E0
            rw [E0]
            clear h5 hz E0 K
            go_wp2_with fail
            refine KST.out.mono ?_
            rintro e w6 ⟨rfl, hb6⟩
            go_wp2_with fail
            go_ret2
            rw [HT.out, E1.out]
            exact ⟨rfl, hB5.trans hb6⟩
          · have E0 : errOf r.1 = errT r.1 := if_neg hz
            have HT : Hid (topR = (r.1, ⟨#[]⟩)) := Lib.hid (HTOP.out.trans (if_neg hz))
            have E1 : Hid (errOf r.1 = errT r.1) := Lib.hid E0
            rw [E0]
            clear h5 hz E0 K
            go_wp2_with fail
            go_ret2
            rw [HT.out]
            show _ = Ending.returned (.tuple #[.string ⟨#[]⟩, errOf r.1]) ∧ _
            rw [E1.out]
            exact ⟨rfl, hB5⟩
  · have hT : topT (setOf lng) f ms ags = (fitsP f ms ags, ⟨#[]⟩) := by unfold topT sayT; rw [if_neg hf]; simp only; rw [if_neg hf]
    rw [hT]
    have HE : Hid (errOf (fitsP f ms ags) = errT (fitsP f ms ags)) := Lib.hid (if_neg hf)
    rw [HE.out] at KF
    clear hT hfit hz hN hA hE hM hK hL hf
    generalize fitsP f ms ags = E at *
    simp only
    rw [HE.out]
    go_enter Tryz.func16, Tryz.ntmps16
    go_wp2_with fail
    refine KF.out.mono ?_
    rintro e w1 ⟨rfl, hb1⟩
    go_wp2_with fail
    go_ret2
    exact ⟨rfl, hb1⟩
end Go.Proofs.YthlcjlmaaaappaaGreatDoor

/- What the laws of eval share: a message of one word; args and one more. -/
namespace Go.Proofs.YthlcjlmaaaappaaGreatDoor
open Go.RowKit Go.Maps

def wordA : List Nd := [.mk 1 ⟨#[97]⟩ 0 []]
theorem lit_word (w : World) (b : Nat) (h0 : w.cell? ⟨b, 0, none⟩ = some (.int .i64 1)) (h1 : w.cell? ⟨b, 1, none⟩ = some (.string ⟨#[97]⟩)) (h2 : w.cell? ⟨b, 2, none⟩ = some (.int .i64 0)) (h3 : w.cell? ⟨b, 3, none⟩ = some (.slice none 0 0)) :
    NodesIn 1 w (.slice (some ⟨b, 0, none⟩) 1 1) wordA := by
  refine ⟨_, 1, rfl, Nat.le_refl _, by omega, by decide, .inr ⟨b, 0, rfl, fun j x hx => ?_⟩⟩
  obtain rfl : j = 0 := by have := (List.getElem?_eq_some_iff.1 hx).1; simp [wordA] at this; omega
  cases hx
  refine ⟨by decide, by decide, by decide, ?_, ?_, ?_, _, ?_, ⟨none, 0, rfl, Nat.le_refl _, by omega, by decide, .inl rfl⟩⟩
  · exact h0
  · exact h1
  · exact h2
  · exact h3
theorem word_fits : fitsP 1 wordA [] = 0 := by decide +kernel
theorem word_says (S : SetC) : topT S 1 wordA [] = (0, ⟨#[97]⟩) := by
  unfold topT sayT
  rw [if_pos word_fits]
  rfl
/-- eval.Say of one word -/
theorem say_word (w : World) (b : Nat) (hE : RuleEnv w) (hM : MKinds w) (hK : KindsAt w) (hL : NumLaid w) (h0 : w.cell? ⟨b, 0, none⟩ = some (.int .i64 1)) (h1 : w.cell? ⟨b, 1, none⟩ = some (.string ⟨#[97]⟩)) (h2 : w.cell? ⟨b, 2, none⟩ = some (.int .i64 0)) (h3 : w.cell? ⟨b, 3, none⟩ = some (.slice none 0 0)) :
    Calls Tryz.prog 16 #[.slice (some ⟨b, 0, none⟩) 1 1, .string ⟨#[101, 110]⟩, .slice none 0 0] w fun e w' => e = .returned (.tuple #[.string ⟨#[97]⟩, .nilIface]) ∧ Below w.heap.size w w' := by
  have := eval_Say 200 1 _ wordA ⟨#[101, 110]⟩ none 0 [] w hE hM hK hL (lit_word w b h0 h1 h2 h3) (.inl rfl) (Nat.le_refl _) (by omega) (Nat.zero_le _) (by omega) (by omega)
    (fun x hx => by
      have : x = .mk 1 ⟨#[97]⟩ 0 [] := by simpa [wordA] using hx
      subst this
      exact ⟨by decide, fun c hc => by cases hc⟩) (by simp) (by decide)
  rw [word_says] at this
  exact this
theorem ownsG_litA (w : World) (x : ArgC) (base : Nat) (hb : base ≤ w.heap.size) : OwnsG kArg (w.alloc (.cells #[.string x.name, .bool x.isNum, .int .i64 x.coef, .int .i64 x.scale, .string x.text] 53)) base (.slice (some ⟨w.heap.size, 0, none⟩) 1 1) [x] :=
  World.ownsRow_lit (size := 5) w _ 1 hb (by decide) rfl
def zzS : ByteArray := ⟨#[122, 122, 95, 122, 122, 95, 122, 122]⟩
theorem zz_name (t : ByteArray) (n : Bool) (c s : Int) : nameB (nmA ⟨zzS, n, c, s, t⟩) = true := by show nameB zzS.data.toList = true; decide
theorem zz_no {ags : List ArgC} (h : ags.any (hasA zzS) = false) : ∀ a ∈ ags, nmA a ≠ zzS.data.toList := fun a ha e => by
  have := List.any_eq_false.1 h a ha
  exact this ((hasA_iff zzS a).2 e)
theorem sayT_fits {S : SetC} {f : Nat} {ms : List Nd} {ags : List ArgC} (h : (topT S f ms ags).1 = 0) : (sayT S f ms ags).1 = 0 ∧ fitsP f ms ags = 0 ∧ topT S f ms ags = sayT S f ms ags := by
  unfold topT at h ⊢
  split at h
  · rename_i h1
    refine ⟨h1, ?_, if_pos h1⟩
    unfold sayT at h1
    split at h1
    · rename_i h2; exact h2
    · exact h1
  · rename_i h1; exact absurd h h1
theorem topT_no {S : SetC} {f : Nat} {ms : List Nd} {ags : List ArgC} (h : ¬ (topT S f ms ags).1 = 0) : (topT S f ms ags).2 = ⟨#[]⟩ := by
  unfold topT at h ⊢
  split
  · rename_i h1
    rw [if_pos h1] at h
    exact absurd h1 h
  · rfl
end Go.Proofs.YthlcjlmaaaappaaGreatDoor

/- A message within other of a Select or of a Plural: what is said. No program stands here. -/
namespace Go.Proofs.YthlcjlmaaaappaaGreatDoor

def wrapK (kd : Int) (name : ByteArray) (ms : List Nd) : List Nd := [.mk kd name 0 [(otherS, ms)]]
theorem check_mark : ∀ (f : Nat) (ms : List Nd), checkP f ms false = 0 → checkP f ms true = 0
  | 0, _, _ => rfl
  | f + 1, ms, h => by
    have hc : ∀ (kd : Int) (cs : List (ByteArray × List Nd)) (seen : List ByteArray), casesP (checkP f) kd false seen cs = 0 → casesP (checkP f) kd true seen cs = 0 := by
      intro kd cs
      induction cs with
      | nil => intro seen h; exact h
      | cons k l ih =>
        intro seen h
        unfold casesP at h ⊢
        split
        · rename_i h1
          rw [if_pos h1] at h
          split
          · rename_i h2
            rw [if_pos h2] at h
            exact h
          · rename_i h2
            rw [if_neg h2] at h
            have hb : checkP f k.2 (false || decide (kd = 4)) = 0 := by
              split at h
              · assumption
              · exact h
            rw [if_pos hb] at h
            have hb2 : checkP f k.2 (true || decide (kd = 4)) = 0 := by
              rw [Bool.true_or]
              cases hq : decide (kd = 4)
              · rw [hq] at hb
                exact check_mark f k.2 hb
              · rw [hq] at hb
                exact hb
            rw [if_pos hb2]
            exact ih _ h
        · rename_i h1
          rw [if_neg h1] at h
          exact h
    have hg : ∀ (l : List Nd) (p : Option Int), checkGo (checkP f) false p l = 0 → checkGo (checkP f) true p l = 0 := by
      intro l
      induction l with
      | nil => intro p h; exact h
      | cons x r ih =>
        intro p h
        unfold checkGo at h ⊢
        have h0 : nodeP (checkP f) p x false = 0 := by
          split at h
          · assumption
          · exact h
        rw [if_pos h0] at h
        have h1 : nodeP (checkP f) p x true = 0 := by
          unfold nodeP at h0 ⊢
          have hf : fineB x.kd x.t p true = true := by
            split at h0
            · rename_i hf
              unfold fineB at hf ⊢
              split
              · rename_i k1; rw [if_pos k1] at hf; exact hf
              · rename_i k1
                rw [if_neg k1] at hf
                split
                · rename_i k2; rw [if_pos k2] at hf; exact hf
                · rename_i k2
                  rw [if_neg k2, Bool.and_false] at hf
                  cases hf
            · cases h0
          have hf0 : fineB x.kd x.t p false = true := by
            split at h0
            · assumption
            · cases h0
          rw [if_pos hf]
          rw [if_pos hf0] at h0
          split
          · rename_i k1; rw [if_pos k1] at h0; exact h0
          · rename_i k1
            rw [if_neg k1] at h0
            split
            · rename_i k2
              rw [if_pos k2] at h0
              exact hc _ _ _ h0
            · rfl
        rw [if_pos h1]
        exact ih _ h
    exact hg ms none h
theorem wrapK_size (kd : Int) (hk : kd = 4 ∨ kd = 5) (name : ByteArray) (f : Nat) (ms : List Nd) : sizeP (f + 1) (wrapK kd name ms) 0 = if (sizeP f ms 1).2 || decide (60 < 1 + (sizeP f ms 1).1) then (1 + (sizeP f ms 1).1, true) else (1 + (sizeP f ms 1).1, decide (60 < 1 + (sizeP f ms 1).1)) := by
  have hfl : flatC (wrapK kd name ms) = [(otherS, ms)] := by
    unfold flatC wrapK
    show casesOf (.mk kd name 0 [(otherS, ms)]) ++ [] = _
    rw [cases_mem (x := .mk kd name 0 [(otherS, ms)]) hk]
    rfl
  conv => { lhs; unfold sizeP }
  rw [if_neg (by omega), hfl]
  rfl
theorem wrapK_check (kd : Int) (hk : kd = 4 ∨ kd = 5) (name : ByteArray) (hn : nameB name.data.toList = true) (f : Nat) (ms : List Nd) (h : checkP f ms false = 0) : checkP (f + 1) (wrapK kd name ms) false = 0 := by
  have h1 : checkP (f + 1) (wrapK kd name ms) false = if nodeP (checkP f) none (.mk kd name 0 [(otherS, ms)]) false = 0 then 0 else nodeP (checkP f) none (.mk kd name 0 [(otherS, ms)]) false := rfl
  have h2 : nodeP (checkP f) none (.mk kd name 0 [(otherS, ms)]) false = 0 := by
    rcases hk with rfl | rfl
    · have e : nodeP (checkP f) none (.mk 4 name 0 [(otherS, ms)]) false = if nameB name.data.toList then casesP (checkP f) 4 false [] [(otherS, ms)] else 3 := rfl
      rw [e, if_pos hn, cases_other]
      exact check_mark f ms h
    · have e : nodeP (checkP f) none (.mk 5 name 0 [(otherS, ms)]) false = if nameB name.data.toList then casesP (checkP f) 5 false [] [(otherS, ms)] else 3 := rfl
      rw [e, if_pos hn, cases_other]
      exact h
  rw [h1, if_pos h2]
/-- whether it is too large -/
def wrapBig (f : Nat) (ms : List Nd) : Bool := (sizeP f ms 1).2 || decide (60 < 1 + (sizeP f ms 1).1)
theorem wrapK_msg (kd : Int) (hk : kd = 4 ∨ kd = 5) (name : ByteArray) (hn : nameB name.data.toList = true) (f : Nat) (ms : List Nd) (h : checkP f ms false = 0) : msgP (f + 1) (wrapK kd name ms) = if wrapBig f ms then 4 else 0 := by
  unfold msgP
  rw [wrapK_size kd hk, wrapK_check kd hk name hn f ms h]
  unfold wrapBig
  cases hq : ((sizeP f ms 1).2 || decide (60 < 1 + (sizeP f ms 1).1))
  · have : decide (60 < 1 + (sizeP f ms 1).1) = false := by rw [Bool.or_eq_false_iff] at hq; exact hq.2
    rw [this]
    rfl
  · rfl
theorem wrapK_all (kd : Int) (hk : kd = 4 ∨ kd = 5) (name : ByteArray) (f : Nat) (ms : List Nd) : allN (f + 1) [] (wrapK kd name ms) = allN f [⟨name, decide (kd = 4), decide (kd = 5)⟩] ms := by
  rcases hk with rfl | rfl <;> rfl
/-- args and one more -/
theorem wrapK_fits {f : Nat} {ms : List Nd} {ags : List ArgC} (h : fitsP f ms ags = 0) (kd : Int) (hk : kd = 4 ∨ kd = 5) (z : ArgC) (hz : nameB (nmA z) = true ∧ (z.isNum = true → decOk z.coef z.scale)) (hkz : z.isNum = decide (kd = 4)) (hno : ∀ a ∈ ags, nmA a ≠ nmA z) :
    fitsP (f + 1) (wrapK kd z.name ms) (ags ++ [z]) = (if wrapBig f ms then 4 else 0) ∧ ∀ t : ByteArray, t.toList ∈ namesOf (allN f [] ms) → lookA ags t = lookA (ags ++ [z]) t := by
  obtain ⟨g1, g2, g3⟩ := fits_zero.1 h
  have hap : argsP (ags ++ [z]) [] = 0 := nmA_sub g2 hz hno (List.perm_append_singleton z ags)
  obtain ⟨m1, m2⟩ := fits_more h hap (fun a ha => List.mem_append_left _ ha)
  have hch := (msg_small (names_msg g1)).2
  have hm := wrapK_msg kd hk z.name hz.1 f ms hch
  refine ⟨?_, m2⟩
  by_cases hb : wrapBig f ms = true
  · rw [if_pos hb] at hm ⊢
    unfold fitsP namesP
    rw [hm]
    rfl
  · rw [if_neg hb] at hm ⊢
    -- the names
    have hzn : ¬ z.name.toList ∈ namesOf (allN f [] ms) := fun hmem => by
      obtain ⟨n, hn, e⟩ := List.mem_map.1 hmem
      obtain ⟨a, ha, _⟩ := (need_zero ags _).1 g3 n hn
      have h1 := (find_iff ((args_zero ags []).1 g2).2.1 n.name a).1 ha
      refine hno a h1.1 ?_
      rw [h1.2]
      unfold nmA
      rw [← Lib.toList_data, ← Lib.toList_data]
      exact e
    have hall : allN (f + 1) [] (wrapK kd z.name ms) = ⟨z.name, decide (kd = 4), decide (kd = 5)⟩ :: allN f [] ms := by
      rw [wrapK_all kd hk, all_cons ⟨z.name, decide (kd = 4), decide (kd = 5)⟩ f ms hzn]
    have hany : (allN (f + 1) [] (wrapK kd z.name ms)).any (fun n => n.num && n.text) = false := by
      have h0 : (allN f [] ms).any (fun n => n.num && n.text) = false := by
        unfold namesP at g1
        rw [if_pos (names_msg g1)] at g1
        cases hq : (allN f [] ms).any (fun n => n.num && n.text)
        · rfl
        · rw [hq, if_pos rfl] at g1; cases g1
      rw [hall, List.any_cons, h0, Bool.or_false]
      rcases hk with rfl | rfl <;> rfl
    have hnames : namesP (f + 1) (wrapK kd z.name ms) = 0 := by
      unfold namesP
      rw [if_pos hm, hany, if_neg (by decide)]
    refine fits_zero.2 ⟨hnames, hap, ?_⟩
    rw [hall]
    refine (need_zero _ _).2 fun n hn => ?_
    have hnd := ((args_zero (ags ++ [z]) []).1 hap).2.1
    rcases List.mem_cons.1 hn with rfl | hn
    · refine ⟨z, (find_iff hnd _ z).2 ⟨by simp, rfl⟩, ?_⟩
      rw [hkz]
      rcases hk with rfl | rfl <;> rfl
    · obtain ⟨a, ha, hq⟩ := (need_zero ags _).1 g3 n hn
      obtain ⟨k1, k2⟩ := (find_iff ((args_zero ags []).1 g2).2.1 n.name a).1 ha
      exact ⟨a, (find_iff hnd _ a).2 ⟨List.mem_append_left _ k1, k2⟩, hq⟩
theorem pick_one (s : ByteArray) (ms : List Nd) : choiceGo s 0 0 [(otherS, ms)] = 0 := by
  unfold choiceGo
  split
  · rfl
  · unfold choiceGo
    split <;> rfl
theorem best_one (S : SetC) (c s : Int) (l : Int × Int × Int) (ms : List Nd) : bestP S c s l [(otherS, ms)] = 0 := by
  have := bestP_lt S c s l [(otherS, ms)] (by simp)
  simp at this
  exact this
/-- what is said of a message within other -/
theorem wrapK_says (S : SetC) {f : Nat} {ms : List Nd} {ags : List ArgC} (h : (topT S f ms ags).1 = 0) (kd : Int) (hk : kd = 4 ∨ kd = 5) (z : ArgC) (hz : nameB (nmA z) = true ∧ (z.isNum = true → decOk z.coef z.scale)) (hkz : z.isNum = decide (kd = 4)) (hno : ∀ a ∈ ags, nmA a ≠ nmA z) :
    topT S (f + 1) (wrapK kd z.name ms) (ags ++ [z]) = if wrapBig f ms then (4, ⟨#[]⟩) else topT S f ms ags := by
  obtain ⟨h1, h2, h3⟩ := sayT_fits h
  obtain ⟨w1, w2⟩ := wrapK_fits h2 kd hk z hz hkz hno
  have hch := (msg_small (names_msg (fits_zero.1 h2).1)).2
  by_cases hb : wrapBig f ms = true
  · rw [if_pos hb] at w1 ⊢
    have e : sayT S (f + 1) (wrapK kd z.name ms) (ags ++ [z]) = (4, ⟨#[]⟩) := by
      unfold sayT
      rw [if_neg (by rw [w1]; decide), w1]
    unfold topT
    rw [e]
    rfl
  · rw [if_neg hb] at w1 ⊢
    have hap := (fits_zero.1 w1).2.1
    have hnd := ((args_zero (ags ++ [z]) []).1 hap).2.1
    have hlz : lookA (ags ++ [z]) z.name = z := by
      unfold lookA
      rw [(find_iff hnd _ z).2 ⟨by simp, rfl⟩]
      rfl
    have hin : ∀ mc sc, sayP S (lookA (ags ++ [z])) f ms mc sc = sayP S (lookA ags) f ms 0 0 := fun mc sc => by
      rw [say_mark S _ f ms mc sc 0 0 hch]
      exact (say_look S w2 f ms 0 0 (all_uses f [] ms)).symm
    have hone : oneP S (lookA (ags ++ [z])) (sayP S (lookA (ags ++ [z])) f) 0 0 (.mk kd z.name 0 [(otherS, ms)]) = sayP S (lookA ags) f ms 0 0 := by
      rcases hk with rfl | rfl
      · have e : oneP S (lookA (ags ++ [z])) (sayP S (lookA (ags ++ [z])) f) 0 0 (.mk 4 z.name 0 [(otherS, ms)]) = if (lessP (lookA (ags ++ [z]) z.name).coef (lookA (ags ++ [z]) z.name).scale 0).1 = 0 then sayP S (lookA (ags ++ [z])) f (bodyAt [(otherS, ms)] (bestP S (lookA (ags ++ [z]) z.name).coef (lookA (ags ++ [z]) z.name).scale (lessP (lookA (ags ++ [z]) z.name).coef (lookA (ags ++ [z]) z.name).scale 0) [(otherS, ms)])) (lessP (lookA (ags ++ [z]) z.name).coef (lookA (ags ++ [z]) z.name).scale 0).2.1 (lessP (lookA (ags ++ [z]) z.name).coef (lookA (ags ++ [z]) z.name).scale 0).2.2 else ((lessP (lookA (ags ++ [z]) z.name).coef (lookA (ags ++ [z]) z.name).scale 0).1, ⟨#[]⟩) := rfl
        rw [e, hlz]
        have hd := hz.2 hkz
        have hl : (lessP z.coef z.scale 0).1 = 0 := by
          unfold lessP
          rw [if_pos ⟨hd, ⟨by omega, by omega, by omega, by omega⟩, by rw [Int.zero_mul]; have := hd.2.2.1; omega, by rw [Int.zero_mul]; have := hd.2.2.2; omega⟩]
        rw [if_pos hl, best_one]
        exact hin _ _
      · have e : oneP S (lookA (ags ++ [z])) (sayP S (lookA (ags ++ [z])) f) 0 0 (.mk 5 z.name 0 [(otherS, ms)]) = sayP S (lookA (ags ++ [z])) f (bodyAt [(otherS, ms)] (choiceGo (lookA (ags ++ [z]) z.name).text 0 0 [(otherS, ms)])) 0 0 := rfl
        rw [e, pick_one]
        exact hin _ _
    have hr : sayT S f ms ags = sayP S (lookA ags) f ms 0 0 := if_pos h2
    have hs : sayT S (f + 1) (wrapK kd z.name ms) (ags ++ [z]) = sayT S f ms ags := by
      have e : sayT S (f + 1) (wrapK kd z.name ms) (ags ++ [z]) = sayGo (oneP S (lookA (ags ++ [z])) (sayP S (lookA (ags ++ [z])) f) 0 0) [.mk kd z.name 0 [(otherS, ms)]] := if_pos w1
      rw [e, hr]
      rw [hr] at h1
      unfold sayGo
      rw [hone, if_pos h1]
      unfold sayGo
      rw [app_nil]
      exact Prod.ext h1.symm rfl
    unfold topT
    rw [hs]
end Go.Proofs.YthlcjlmaaaappaaGreatDoor
