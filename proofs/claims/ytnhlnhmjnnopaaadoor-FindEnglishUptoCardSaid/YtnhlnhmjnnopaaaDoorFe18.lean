/- RFault: texts put together. -/
import Derived.Test.YtnhlnhmjnnopaaaDoorFe8
import Derived.Test.YtnhlnhmjnnopaaaDoorFe17
import Derived.Deep.DeepCutAuto
set_option linter.unusedVariables false
set_option linter.unusedSimpArgs false
/- linguisterref1.TagFault. -/
namespace Go.Proofs.YtnhlnhmjnnopaaaDoor
open Go.RowKit

def lowA : ByteArray := ⟨#[97, 98, 99, 100, 101, 102, 103, 104, 105, 106, 107, 108, 109, 110, 111, 112, 113, 114, 115, 116, 117, 118, 119, 120, 121, 122]⟩
def highA : ByteArray := ⟨#[65, 66, 67, 68, 69, 70, 71, 72, 73, 74, 75, 76, 77, 78, 79, 80, 81, 82, 83, 84, 85, 86, 87, 88, 89, 90]⟩
def numA : ByteArray := ⟨#[48, 49, 50, 51, 52, 53, 54, 55, 56, 57]⟩
def bothA : ByteArray := ⟨#[97, 98, 99, 100, 101, 102, 103, 104, 105, 106, 107, 108, 109, 110, 111, 112, 113, 114, 115, 116, 117, 118, 119, 120, 121, 122, 48, 49, 50, 51, 52, 53, 54, 55, 56, 57]⟩

/-- Only at letters of a kind. -/
theorem ref_kind {of : ByteArray} {ofL : List UInt8} {p : UInt8 → Bool} (ho : of.data.toList = ofL) (h : (fun c => ofL.contains c) = p) (hof : of.size ≤ 100) (s : ByteArray) (a b : Nat) (w : World) (hs : s.size ≤ 140737488355328) :
    Calls Tryd.prog 42 #[.string s, .string of, .int .i64 a, .int .i64 b] w fun e w' => e = .returned (.bool (madeB p s.data.toList a b)) ∧ Below w.heap.size w w' := by
  refine (ref_only s of a b w hs (by omega)).mono ?_
  rintro e w' ⟨rfl, n, rfl⟩
  refine ⟨?_, bel_drewN _ (Below.refl _ _)⟩
  rw [ho, only_made h]

/-- The tag's box lies as it lay. -/
def TB (w : World) (l s r : ByteArray) (A : Option Addr) (n c : Nat) (W : World) : Prop :=
  (W.cell? ⟨w.heap.size, 0, none⟩ = some (.string l) ∧ W.cell? ⟨w.heap.size, 1, none⟩ = some (.string s) ∧ W.cell? ⟨w.heap.size, 2, none⟩ = some (.string r) ∧ W.cell? ⟨w.heap.size, 3, none⟩ = some (.slice A n c)) ∧ w.heap.size + 1 ≤ W.heap.size ∧ Below w.heap.size w W
theorem TB.step {w W W' : World} {l s r : ByteArray} {A : Option Addr} {n c : Nat} (h : TB w l s r A n c W) (hb : Below W.heap.size W W') : TB w l s r A n c W' := by
  obtain ⟨⟨h0, h1, h2, h3⟩, hs, hB⟩ := h
  exact ⟨⟨carry hb h0, carry hb h1, carry hb h2, carry hb h3⟩, Nat.le_trans hs hb.size, hB.trans (hb.mono (by omega))⟩
theorem TB.start (w : World) (l s r : ByteArray) (A : Option Addr) (n c : Nat) : TB w l s r A n c (w.alloc (.cells #[.string l, .string s, .string r, .slice A n c] 47)) := by
  refine ⟨⟨?_, ?_, ?_, ?_⟩, ?_, ?_⟩
  all_goals (first | (go_simp; done) | (simp; done) | exact (by (repeat (first | with_reducible exact Below.refl _ _ | with_reducible refine bel_set ?_ ?_ | with_reducible refine bel_alloc ?_ ?_ | with_reducible refine Below.drew ?_ | with_reducible refine bel_drewN _ ?_ | with_reducible refine bel_call ?_ (by assumption) ?_)); all_goals (first | (simp; done) | omega | (simp; omega))))

theorem script_parts (s : ByteArray) (h : s.size = 4) : scriptB s.data.toList = (madeB highB (s.extract 0 1).data.toList 1 1 && madeB lowB (s.extract 1 s.size).data.toList 3 3) := by
  have hl : s.data.toList.length = 4 := by simpa using h
  have e1 : (s.extract 0 1).data.toList = s.data.toList.take 1 := by rw [Lib.extract_data, List.drop_zero]
  have e2 : (s.extract 1 s.size).data.toList = s.data.toList.drop 1 := by
    rw [Lib.extract_data, List.take_of_length_le (by rw [List.length_drop]; omega)]
  rw [e1, e2]
  unfold scriptB
  rw [decide_eq_true hl, Bool.true_and]
  congr 1
  generalize s.data.toList = L at *
  match L, hl with
  | [x, _, _, _], _ => simp [madeB]
theorem script_short (s : ByteArray) (h : s.size ≠ 4) : scriptB s.data.toList = false := by
  have hl : ¬ s.data.toList.length = 4 := by simpa using h
  unfold scriptB
  rw [decide_eq_false hl, Bool.false_and]

set_option maxHeartbeats 4000000 in
theorem ref_fault (l s r : ByteArray) (A : Option Addr) (c : Nat) (vs : List ByteArray) (w : World) (hl : l.size ≤ 140737488355328) (hs : s.size ≤ 140737488355328) (hr : r.size ≤ 140737488355328) (hv : ∀ v ∈ vs, v.size ≤ 140737488355328) (hX : StrsIn w A vs) (hn : vs.length ≤ c) (hc : c ≤ 9223372036854775807) :
    Calls Tryd.prog 46 #[tagV l s r A vs.length c] w fun e w' => e = .returned (.int .i64 (tagErr l.data.toList s.data.toList r.data.toList (listsOf vs))) ∧ Below w.heap.size w w' := by
  have KS1 := Lib.hid (fun W => ref_kind (of := highA) (ofL := highL) rfl high_is (by decide) (s.extract 0 1) 1 1 W (by simp; omega))
  have KS2 := Lib.hid (fun W => ref_kind (of := lowA) (ofL := lowL) rfl low_is (by decide) (s.extract 1 s.size) 3 3 W (by simp; omega))
  have KR1 := Lib.hid (fun W => ref_kind (of := highA) (ofL := highL) rfl high_is (by decide) r 2 2 W hr)
  have KR2 := Lib.hid (fun W => ref_kind (of := numA) (ofL := numL) rfl num_is (by decide) r 3 3 W hr)
  have KL := Lib.hid (fun W => ref_kind (of := lowA) (ofL := lowL) rfl low_is (by decide) l 2 3 W hl)
  have KV := Lib.hid (fun v (h : v ∈ vs) W => ref_kind (of := bothA) (ofL := lowL ++ numL) rfl both_is (by decide) v 5 8 W (hv v h))
  have HX := Lib.hid hX
  clear hX hv hl hr
  have F0 := Lib.hid (TB.start w l s r A vs.length c)
  have sp := Lib.hid (script_parts s)
  have ss := Lib.hid (script_short s)
  have re : Hid (regionB r.data.toList = (madeB highB r.data.toList 2 2 || madeB numB r.data.toList 3 3)) := Lib.hid rfl
  have tg : Hid (tagErr l.data.toList s.data.toList r.data.toList (listsOf vs) = if headB l.data.toList s.data.toList r.data.toList = false then 3 else if varErr [] (listsOf vs) = 0 then (if 3 < (listsOf vs).length then 4 else 0) else varErr [] (listsOf vs)) := Lib.hid rfl
  have hd : Hid (headB l.data.toList s.data.toList r.data.toList = (madeB lowB l.data.toList 2 3 && ((s.data.toList.isEmpty || scriptB s.data.toList) && (r.data.toList.isEmpty || regionB r.data.toList)))) := Lib.hid rfl
  generalize tagErr l.data.toList s.data.toList r.data.toList (listsOf vs) = E at *
  go_enter Tryd.func46, Tryd.ntmps46
  go_upto_region 1 with fail
  go_cut [3] (fun s3 wx => s3 = .bool (s.data.toList.isEmpty || scriptB s.data.toList) ∧ Hid (TB w l s r A vs.length c wx))
  case first =>
    by_cases h0 : s.toList = []
    · have h1 : s.data.toList.isEmpty = true := by rw [← isEmpty_iff]; exact h0
      go_wp2_with fail
      go_meet
      exact ⟨by rw [h1]; rfl, F0⟩
    · have h1 : s.data.toList.isEmpty = false := by
        cases hq : s.data.toList.isEmpty
        · rfl
        · exact absurd ((isEmpty_iff s).2 hq) h0
      have h2 : s.toList.isEmpty = false := by cases hq : s.toList with | nil => exact absurd hq h0 | cons x xl => rfl
      have hor : (s.data.toList.isEmpty || scriptB s.data.toList) = scriptB s.data.toList := by rw [h1, Bool.false_or]
      clear h1
      by_cases h4 : s.size = 4
      · have i4 : (s.size : Int) = 4 := by omega
        have i1 : (1 : Int) ≤ (s.size : Int) := by omega
        replace hor := hor.trans (sp.out h4)
        clear sp ss
        cases hb1 : madeB highB (s.extract 0 1).data.toList 1 1
        · rw [hb1] at KS1 hor
          replace hor := hor.trans (Bool.false_and _)
          have EV := Lib.hid hor
          clear hor hb1
          go_wp2_with fail
          refine (KS1.out _).mono ?_
          rintro e w1 ⟨rfl, hb⟩
          have F1 := Lib.hid (F0.out.step hb)
          clear hb
          go_wp2_with fail
          go_meet
          exact ⟨congrArg Value.bool EV.out.symm, F1⟩
        · rw [hb1] at KS1 hor
          cases hb2 : madeB lowB (s.extract 1 s.size).data.toList 3 3
          all_goals (
            rw [hb2] at KS2 hor
            have EV := Lib.hid hor
            clear hor hb1 hb2
            go_wp2_with fail
            refine (KS1.out _).mono ?_
            rintro e w1 ⟨rfl, hb⟩
            have F1 := Lib.hid (F0.out.step hb)
            clear hb
            obtain ⟨⟨c0, c1, c2, c3⟩, hs1, hB1⟩ := F1.out
            clear i4 h4 hs h0 h2 c0 c2 c3 hB1 hs1
            go_wp2_with fail
            refine (KS2.out _).mono ?_
            rintro e w2 ⟨rfl, hb⟩
            have F2 := Lib.hid (F1.out.step hb)
            clear hb
            go_wp2_with fail
            go_meet
            exact ⟨congrArg Value.bool EV.out.symm, F2⟩)
      · have i4 : ¬ (s.size : Int) = 4 := by omega
        replace hor := hor.trans (ss.out h4)
        have EV := Lib.hid hor
        clear sp ss hor KS1 KS2 hs re tg hd
        go_wp2_with fail
        go_meet
        exact ⟨congrArg Value.bool EV.out.symm, F0⟩
  case rest =>
    obtain ⟨rfl, HF⟩ := hcut
    clear F0 sp ss KS1 KS2 hs
    generalize hSB : (s.data.toList.isEmpty || scriptB s.data.toList) = SB at *
    clear hSB
    obtain ⟨⟨c0, c1, c2, c3⟩, hs1, hB1⟩ := HF.out
    go_upto_region 2 with fail
    go_cut [4] (fun s4 wx => s4 = .bool (r.data.toList.isEmpty || regionB r.data.toList) ∧ Hid (TB w l s r A vs.length c wx))
    case first =>
      by_cases h0 : r.toList = []
      · have h1 : r.data.toList.isEmpty = true := by rw [← isEmpty_iff]; exact h0
        go_wp2_with fail
        go_meet
        exact ⟨by rw [h1]; rfl, HF⟩
      · have h1 : r.data.toList.isEmpty = false := by
          cases hq : r.data.toList.isEmpty
          · rfl
          · exact absurd ((isEmpty_iff r).2 hq) h0
        have h2 : r.toList.isEmpty = false := by cases hq : r.toList with | nil => exact absurd hq h0 | cons x xl => rfl
        have hor : (r.data.toList.isEmpty || regionB r.data.toList) = (madeB highB r.data.toList 2 2 || madeB numB r.data.toList 3 3) := by rw [h1, Bool.false_or, re.out]
        clear h1
        cases hb1 : madeB highB r.data.toList 2 2
        · cases hb2 : madeB numB r.data.toList 3 3
          all_goals (
            rw [hb1] at KR1 hor
            rw [hb2] at KR2 hor
            have EV := Lib.hid hor
            clear hor hb1 hb2
            go_wp2_with fail
            refine (KR1.out _).mono ?_
            rintro e w1 ⟨rfl, hb⟩
            have F1 := Lib.hid (HF.out.step hb)
            clear hb c0 c1 c2 c3 hs1 hB1
            obtain ⟨⟨c0, c1, c2, c3⟩, hs1, hB1⟩ := F1.out
            go_wp2_with fail
            refine (KR2.out _).mono ?_
            rintro e w2 ⟨rfl, hb⟩
            have F2 := Lib.hid (F1.out.step hb)
            clear hb
            go_wp2_with fail
            go_meet
            exact ⟨congrArg Value.bool EV.out.symm, F2⟩)
        · rw [hb1] at KR1 hor
          have EV := Lib.hid hor
          clear hor hb1
          go_wp2_with fail
          refine (KR1.out _).mono ?_
          rintro e w1 ⟨rfl, hb⟩
          have F1 := Lib.hid (HF.out.step hb)
          clear hb
          go_wp2_with fail
          go_meet
          exact ⟨congrArg Value.bool EV.out.symm, F1⟩
    case rest =>
      obtain ⟨rfl, HG⟩ := hcut
      clear KR1 KR2 re HF c0 c1 c2 c3 hs1 hB1
      generalize hRB : (r.data.toList.isEmpty || regionB r.data.toList) = RB at *
      clear hRB
      obtain ⟨⟨c0, c1, c2, c3⟩, hs1, hB1⟩ := HG.out
      have hE := tg.out
      rw [hd.out] at hE
      clear tg hd
      cases hL : madeB lowB l.data.toList 2 3
      · rw [hL] at KL hE
        have HE : Hid (E = 3) := Lib.hid (by rw [hE]; rfl)
        clear hE hL
        go_wp2_with fail
        refine (KL.out _).mono ?_
        rintro e w1 ⟨rfl, hb⟩
        go_wp2_with fail
        go_ret
        exact ⟨ret_int HE.out.symm, hB1.trans (hb.mono (by omega))⟩
      · rw [hL, Bool.true_and] at hE
        rw [hL] at KL
        clear hL
        cases SB
        · have HE : Hid (E = 3) := Lib.hid (by rw [hE]; rfl)
          clear hE
          go_wp2_with fail
          refine (KL.out _).mono ?_
          rintro e w1 ⟨rfl, hb⟩
          go_wp2_with fail
          go_ret
          exact ⟨ret_int HE.out.symm, hB1.trans (hb.mono (by omega))⟩
        · cases RB
          · have HE : Hid (E = 3) := Lib.hid (by rw [hE]; rfl)
            clear hE
            go_wp2_with fail
            refine (KL.out _).mono ?_
            rintro e w1 ⟨rfl, hb⟩
            go_wp2_with fail
            go_ret
            exact ⟨ret_int HE.out.symm, hB1.trans (hb.mono (by omega))⟩
          · have HE : Hid (E = if varErr [] (listsOf vs) = 0 then (if 3 < vs.length then 4 else 0) else varErr [] (listsOf vs)) := Lib.hid (by rw [hE]; simp)
            clear hE
            generalize hV : varErr [] (listsOf vs) = V at *
            have HV0 := Lib.hid hV
            clear hV
            go_wp2_with fail
            refine (KL.out _).mono ?_
            rintro e w1 ⟨rfl, hb⟩
            have G1 := Lib.hid (HG.out.step hb)
            clear hb HG c0 c1 c2 c3 hs1 hB1 KL
            go_wp2_with fail
            go_loopw [5] (fun i wr => ∃ k : Nat, k ≤ vs.length ∧ i = .int .i64 k ∧ Hid (varErr (listsOf (vs.take k)) (listsOf (vs.drop k)) = V) ∧ Hid (TB w l s r A vs.length c wr)) (fun i _ => vs.length - (intOf i).toNat)
            case atStart => exact ⟨0, Nat.zero_le _, rfl, HV0, G1⟩
            case round =>
              obtain ⟨k, hk, rfl, HV, HT⟩ := hrel
              obtain ⟨⟨c0, c1, c2, c3⟩, hs1, hB1⟩ := HT.out
              clear c0 c1 c2 G1 HV0
              by_cases hlt : k < vs.length
              · obtain ⟨bk, o, rfl, hcl⟩ : ∃ bk o, A = some ⟨bk, o, none⟩ ∧ ∀ (j : Nat) x, vs[j]? = some x → w.cell? ⟨bk, o + j, none⟩ = some (.string x) := by
                  rcases HX.out with h | h
                  · rw [h] at hlt; simp at hlt
                  · exact h
                obtain ⟨v, hv⟩ : ∃ v, vs[k]? = some v := ⟨vs[k], List.getElem?_eq_getElem hlt⟩
                have hcv := carry hB1 (hcl k v hv)
                have hst := varErr_step vs k v hv
                rw [HV.out] at hst
                have i0 : (0 : Int) ≤ (k : Int) := by omega
                have i1 : (k : Int) < (vs.length : Int) := by omega
                have i2 : (k : Int) ≤ (c : Int) := by omega
                have e1 : IntKind.i64.wrap ((k : Int) + 1) = (k : Int) + 1 := IntWalk.i64_in _ (by omega)
                have KM := Lib.hid (fun W => KV.out v (List.mem_of_getElem? hv) W)
                cases hm : madeB bothB v.data.toList 5 8
                · rw [hm] at KM
                  rw [if_pos hm] at hst
                  have H3 : Hid (E = 3) := Lib.hid (by rw [HE.out, hst]; rfl)
                  clear hst hm hcl hv
                  go_wp2_with fail
                  refine (KM.out _).mono ?_
                  rintro e w2 ⟨rfl, hb⟩
                  go_wp2_with fail
                  go_ret
                  exact ⟨ret_int H3.out.symm, hB1.trans (hb.mono (by omega))⟩
                · rw [hm] at KM
                  rw [if_neg (by rw [hm]; decide)] at hst
                  go_wp2_with fail
                  refine (KM.out _).mono ?_
                  rintro e w2 ⟨rfl, hb⟩
                  have T2 := Lib.hid (HT.out.step hb)
                  have hcv2 := carry hb hcv
                  have d3 := carry hb c3
                  have hB2 : Below w.heap.size w w2 := hB1.trans (hb.mono (by omega))
                  have KI := Lib.hid (fun n => ref_in (some ⟨bk, o, none⟩) c k vs v (w2.drewN n) (.inr ⟨bk, o, rfl, fun j x hx => show w2.cell? _ = _ from carry hB2 (hcl j x hx)⟩) (by omega) (by omega) (by omega))
                  clear hb hcv c3 hcl
                  cases hcn : (listsOf (vs.take k)).contains v.data.toList
                  · rw [if_neg (by rw [hcn]; decide)] at hst
                    rw [hcn] at KI
                    have HF := Lib.hid hst
                    clear hst hcn hm hv
                    go_wp2_with fail
                    go_quiet ((go_at_call 67; exact Calls.quiet_left (KI.out _)))
                    go_wp2_with fail
                    go_roundw
                    case rel => exact ⟨k + 1, by omega, by go_num, Lib.hid HF.out.symm, Lib.hid (T2.out.step (bel_drewN _ (Below.refl _ _)))⟩
                    case measure => simp [intOf]; omega
                  · rw [if_pos hcn] at hst
                    rw [hcn] at KI
                    have H5 : Hid (E = 5) := Lib.hid (by rw [HE.out, hst]; rfl)
                    clear hst hcn hm hv
                    go_wp2_with fail
                    go_quiet ((go_at_call 67; exact Calls.quiet_left (KI.out _)))
                    go_wp2_with fail
                    go_ret
                    exact ⟨ret_int H5.out.symm, bel_drewN _ hB2⟩
              · have h0 : V = 0 := by
                  have := HV.out
                  rw [List.drop_of_length_le (by omega)] at this
                  exact this.symm
                obtain rfl : k = vs.length := by omega
                by_cases h3 : 3 < vs.length
                · have i3 : (3 : Int) < (vs.length : Int) := by omega
                  have H4 : Hid (E = 4) := Lib.hid (by rw [HE.out, if_pos h0, if_pos h3])
                  clear h0 h3
                  go_wp2_with fail
                  go_ret
                  exact ⟨ret_int H4.out.symm, hB1⟩
                · have i3 : ¬ (3 : Int) < (vs.length : Int) := by omega
                  have H4 : Hid (E = 0) := Lib.hid (by rw [HE.out, if_pos h0, if_neg h3])
                  clear h0 h3
                  go_wp2_with fail
                  go_ret
                  exact ⟨ret_int H4.out.symm, hB1⟩
end Go.Proofs.YtnhlnhmjnnopaaaDoor
