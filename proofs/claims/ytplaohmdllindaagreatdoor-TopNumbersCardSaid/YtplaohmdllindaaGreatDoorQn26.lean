/- CheckT: texts put together. -/
import Derived.Test.YtplaohmdllindaaGreatDoorQn10
import Derived.Deep.RegionHeld3
import Derived.Test.YtplaohmdllindaaGreatDoorQn1
set_option linter.unusedVariables false
set_option linter.unusedSimpArgs false
/- msg.check, msg.Check at every message. -/
namespace Go.Proofs.YtplaohmdllindaaGreatDoor
open Go.RowKit

/-- the kind of the node ahead of place k -/
def prevAt (ms : List Nd) : Nat → Option Int
  | 0 => none
  | j + 1 => (ms[j]?).map Nd.kd
theorem checkGo_step {g : List Nd → Bool → Int} {m : Bool} {ms : List Nd} {k : Nat} {x : Nd} (h : ms[k]? = some x) (p : Option Int) :
    checkGo g m p (ms.drop k) = if nodeP g p x m = 0 then checkGo g m (prevAt ms (k + 1)) (ms.drop (k + 1)) else nodeP g p x m := by
  rw [drop_at h, checkGo, show prevAt ms (k + 1) = some x.kd by show (ms[k]?).map Nd.kd = _; rw [h]; rfl]

set_option maxHeartbeats 4000000 in
theorem check_any (f : Nat) : ∀ (v : Value) (ms : List Nd) (m : Bool) (w : World), RuleEnv w → MKinds w → NodesIn f w v ms →
      Calls Tryz.prog 71 #[v, .bool m] w fun e w' => e = .returned (errOf (checkP f ms m)) ∧ Below w.heap.size w w' := by
  induction f with
  | zero =>
    intro v ms m w _ _ h
    obtain ⟨rfl, A, c, rfl, hc⟩ := h
    have HD : Hid (errOf (checkP 0 [] m) = .nilIface) := Lib.hid rfl
    go_enter Tryz.func71, Tryz.ntmps71
    go_wp2_with fail
    go_loopw [10] (fun i wr => i = .int .i64 0 ∧ w = wr) (fun _ _ => 0)
    case atStart => exact ⟨rfl, rfl⟩
    case round =>
      obtain ⟨rfl, rfl⟩ := hrel
      go_wp2_with fail
      go_ret
      rw [HD.out]
      exact ⟨rfl, belx⟩
  | succ f ih =>
    intro v ms m w hE hK hN
    obtain ⟨A, c, rfl, hc, hc2, hl⟩ := hN.form
    have HN := Lib.hid hN
    have HE := Lib.hid hE
    have HK := Lib.hid hK
    have HG := Lib.hid (cases_gen f ih)
    have HX : Hid (checkGo (checkP f) m (prevAt ms 0) (ms.drop 0) = checkP (f + 1) ms m) := Lib.hid rfl
    generalize checkP (f + 1) ms m = R at *
    clear hN hE hK ih
    go_enter Tryz.func71, Tryz.ntmps71
    go_wp2_with fail
    go_loopw [10] (fun i wr => ∃ k : Nat, k ≤ ms.length ∧ i = .int .i64 k ∧ Hid (checkGo (checkP f) m (prevAt ms k) (ms.drop k) = R) ∧ Hid (Below w.heap.size w wr)) (fun i _ => ms.length - (intOf i).toNat)
    case atStart => exact ⟨0, Nat.zero_le _, rfl, HX, Lib.hid (Below.refl _ _)⟩
    case round =>
      obtain ⟨k, hk1, rfl, HR, HB⟩ := hrel
      have sB := HB.out.size
      by_cases hlt : k < ms.length
      · obtain ⟨b, o, rfl, hat⟩ := HN.out.at (by omega)
        obtain ⟨x, hx⟩ : ∃ x, ms[k]? = some x := ⟨ms[k], List.getElem?_eq_getElem hlt⟩
        have hst := checkGo_step (g := checkP f) (m := m) hx (prevAt ms k)
        rw [HR.out] at hst
        have hprev : PrevAt w (some ⟨b, o, none⟩) k c (prevAt ms k) := by
          cases k with
          | zero => exact .inl ⟨rfl, rfl⟩
          | succ j =>
            obtain ⟨y, hy⟩ : ∃ y, ms[j]? = some y := ⟨ms[j], List.getElem?_eq_getElem (by omega)⟩
            obtain ⟨_, _, _, _, _, _, y0, _⟩ := (hat j y hy).cells
            exact .inr ⟨b, o, j, y.kd, rfl, by omega, hc2, rfl, by show (ms[j]?).map Nd.kd = _; rw [hy]; rfl, y0⟩
        have hxa := hat k x hx
        have hts := hxa.1
        obtain ⟨A2, cc, x1, x2, x3, hC, n0, n1, n2, n3⟩ := hxa.cells
        obtain ⟨kd, t, off, cs⟩ := x
        simp only [Nd.kd, Nd.t, Nd.off, Nd.cs] at hC n0 n1 n2 n3 x1 x3 hts
        have HCC := Lib.hid (fun (hk : kd = 4 ∨ kd = 5) (W : World) (hb : Below w.heap.size w W) => HG.out kd off t A2 cs cc m W hk (HE.out.below hb) (HK.out.below hb) (hC.mono hb fun v ms => NodesIn.below hb f))
        replace n0 := carry HB.out n0
        replace n1 := carry HB.out n1
        replace n2 := carry HB.out n2
        replace n3 := carry HB.out n3
        have HF := Lib.hid (fun (W : World) (hb : Below w.heap.size w W) => fine_any kd off t A2 (some ⟨b, o, none⟩) cs.length cc k c (prevAt ms k) m W (by omega) (hprev.below hb))
        have i0 : (0 : Int) ≤ (k : Int) := by omega
        have i1 : (k : Int) < (ms.length : Int) := by omega
        have i2 : (k : Int) ≤ (c : Int) := by omega
        have e1 : IntKind.i64.wrap ((k : Int) + 1) = (k : Int) + 1 := IntWalk.i64_in _ (by omega)
        have HS : Hid (Below w.heap.size w (wr.alloc (.cells #[.int .i64 kd, .string t, .int .i64 off, .slice A2 cs.length cc] 51))) := Lib.hid (HB.out.alloc sB _)
        have HST := Lib.hid hst
        have HF1 := Lib.hid (HF.out _ HS.out)
        have HF2 := Lib.hid (HF.out _ HS.out.drew)
        have HF3 := Lib.hid (fun n => HF.out _ (bel_drewN n HS.out))
        clear HF
        clear hprev hxa hat hC hx hst hts
        go_wp2_with fail
        clear n0 n1 n2 n3
        go_region_held3 (fun w' => w'.cell? ⟨wr.heap.size, 0, none⟩ = some (.int .i64 kd) ∧ w'.cell? ⟨wr.heap.size, 1, none⟩ = some (.string t) ∧ w'.cell? ⟨wr.heap.size, 2, none⟩ = some (.int .i64 off) ∧ w'.cell? ⟨wr.heap.size, 3, none⟩ = some (.slice A2 cs.length cc))
          (first | go_keep | (go_split_ands; refine ⟨?_, ?_, ?_, ?_⟩ <;> first | assumption | exact carry (by assumption) (by go_simp) | exact carry (by assumption) (by assumption) | exact carry (by assumption) (carry (by assumption) (by go_simp))))
          (first | (go_at_call 135; (first | with_reducible refine HF1.out.mono ?_ | with_reducible refine HF2.out.mono ?_ | with_reducible refine (HF3.out _).mono ?_); rintro e wx ⟨rfl, hbx⟩; have HBX : Hid (Below w.heap.size w wx) := Lib.hid (by first | exact bel_call HS.out hbx (by simp; omega) | exact bel_call HS.out.drew hbx (by simp; omega) | exact bel_call (bel_drewN _ HS.out) hbx (by simp; omega)); have hbz := hbx; clear hbx))
        rename_i hh
        obtain ⟨h0, h1, h2, h3⟩ := hh
        have sX := HBX.out.size
        have hNP : nodeP (checkP f) (prevAt ms k) (.mk kd t off cs) m = if fineB kd t (prevAt ms k) m then (if kd = 4 ∧ (off < 0 ∨ 9 < off) then 1 else if kd = 4 ∨ kd = 5 then casesP (checkP f) kd m [] cs else 0) else 3 := rfl
        clear hbz HF1 HF2 HF3
        generalize nodeP (checkP f) (prevAt ms k) (.mk kd t off cs) m = NP at *
        generalize fineB kd t (prevAt ms k) m = F at *
        cases F
        · have hst := HST.out
          rw [if_neg (by decide)] at hNP
          rw [hNP, if_neg (by decide)] at hst
          have HR3 : Hid (R = 3) := Lib.hid hst
          clear hst HST hNP
          go_wp2_with fail
          go_ret
          rw [HR3.out]
          exact ⟨rfl, HBX.out⟩
        · rw [if_pos rfl] at hNP
          by_cases h4 : kd = 4
          · subst h4
            by_cases ho : off < 0 ∨ 9 < off
            · have hst := HST.out
              rw [if_pos ⟨rfl, ho⟩] at hNP
              rw [hNP, if_neg (by decide)] at hst
              have HR1 : Hid (R = 1) := Lib.hid hst
              clear hst HST hNP
              rcases ho with ho | ho
              · go_wp2_with fail
                go_ret
                rw [HR1.out]
                exact ⟨rfl, HBX.out⟩
              · have ho2 : ¬ off < 0 := by omega
                go_wp2_with fail
                go_ret
                rw [HR1.out]
                exact ⟨rfl, HBX.out⟩
            · have hst := HST.out
              rw [if_neg (fun h => ho h.2), if_pos (.inl rfl)] at hNP
              subst hNP
              have HST2 := Lib.hid hst
              have o1 : ¬ off < 0 := fun h => ho (.inl h)
              have o2 : ¬ 9 < off := fun h => ho (.inr h)
              have HC4 := Lib.hid (HCC.out (.inl rfl) _ HBX.out)
              clear hst HST ho HCC
              generalize casesP (checkP f) 4 m [] cs = E at *
              by_cases hE0 : E = 0
              · have e0 : errOf E = .nilIface := if_pos hE0
                have hr := HST2.out
                rw [if_pos hE0] at hr
                have HR2 := Lib.hid hr.symm
                rw [e0] at HC4
                clear hr HST2 e0 hE0
                go_wp2_with fail
                refine HC4.out.mono ?_
                rintro e w3 ⟨rfl, hb3⟩
                go_wp2_with fail
                go_roundw
                case rel => exact ⟨k + 1, by omega, by go_num, HR2, Lib.hid (HBX.out.trans (hb3.mono sX))⟩
                case measure => simp [intOf]; omega
              · have e0 : errOf E = errT E := if_neg hE0
                have hr := HST2.out
                rw [if_neg hE0] at hr
                have HR2 := Lib.hid hr
                have E0 := Lib.hid e0
                rw [e0] at HC4
                clear hr HST2 e0 hE0
                go_wp2_with fail
                refine HC4.out.mono ?_
                rintro e w3 ⟨rfl, hb3⟩
                go_wp2_with fail
                go_ret
                rw [HR2.out, E0.out]
                exact ⟨rfl, HBX.out.trans (hb3.mono sX)⟩
          · by_cases h5 : kd = 5
            · subst h5
              have hst := HST.out
              rw [if_neg (fun h => absurd h.1 (by decide)), if_pos (.inr rfl)] at hNP
              subst hNP
              have HST2 := Lib.hid hst
              have HC4 := Lib.hid (HCC.out (.inr rfl) _ HBX.out)
              clear hst HST HCC
              generalize casesP (checkP f) 5 m [] cs = E at *
              by_cases hE0 : E = 0
              · have e0 : errOf E = .nilIface := if_pos hE0
                have hr := HST2.out
                rw [if_pos hE0] at hr
                have HR2 := Lib.hid hr.symm
                rw [e0] at HC4
                clear hr HST2 e0 hE0
                go_wp2_with fail
                refine HC4.out.mono ?_
                rintro e w3 ⟨rfl, hb3⟩
                go_wp2_with fail
                go_roundw
                case rel => exact ⟨k + 1, by omega, by go_num, HR2, Lib.hid (HBX.out.trans (hb3.mono sX))⟩
                case measure => simp [intOf]; omega
              · have e0 : errOf E = errT E := if_neg hE0
                have hr := HST2.out
                rw [if_neg hE0] at hr
                have HR2 := Lib.hid hr
                have E0 := Lib.hid e0
                rw [e0] at HC4
                clear hr HST2 e0 hE0
                go_wp2_with fail
                refine HC4.out.mono ?_
                rintro e w3 ⟨rfl, hb3⟩
                go_wp2_with fail
                go_ret
                rw [HR2.out, E0.out]
                exact ⟨rfl, HBX.out.trans (hb3.mono sX)⟩
            · have hst := HST.out
              rw [if_neg (fun h => h4 h.1), if_neg (fun h => h.elim h4 h5)] at hNP
              rw [hNP, if_pos rfl] at hst
              have HST2 := Lib.hid hst
              have k4 : (kd == 4) = false := by rw [beq_eq_false_iff_ne]; exact h4
              have k5 : (kd == 5) = false := by rw [beq_eq_false_iff_ne]; exact h5
              clear hst HST HCC h4 h5 hNP
              go_wp2_with fail
              go_roundw
              case rel => exact ⟨k + 1, by omega, by go_num, Lib.hid HST2.out.symm, HBX⟩
              case measure => simp [intOf]; omega
      · obtain rfl : k = ms.length := by omega
        have hr := HR.out
        rw [List.drop_of_length_le (Nat.le_refl _), checkGo] at hr
        have HD : Hid (errOf R = .nilIface) := Lib.hid (if_pos hr.symm)
        clear hr
        go_wp2_with fail
        go_ret
        rw [HD.out]
        exact ⟨rfl, HB.out⟩

/-- msg.Check -/
theorem msg_any (f : Nat) (v : Value) (ms : List Nd) (w : World) (hE : RuleEnv w) (hK : MKinds w) (hN : NodesIn f w v ms) :
    Calls Tryz.prog 27 #[v] w fun e w' => e = .returned (errOf (msgP f ms)) ∧ Below w.heap.size w w' := by
  have HS := Lib.hid (size_any f v ms 0 w (by omega) hN)
  have HC := Lib.hid (fun W (hb : Below w.heap.size w W) => check_any f v ms false W (hE.below hb) (hK.below hb) (NodesIn.below hb f hN))
  obtain ⟨A, c, rfl, h1, h2, h3⟩ := hN.form
  obtain ⟨K, T, hKT⟩ : ∃ K T, sizeP f ms 0 = (K, T) := ⟨_, _, rfl⟩
  have HM : Hid (msgP f ms = if T then 4 else checkP f ms false) := Lib.hid (by unfold msgP; rw [hKT])
  rw [hKT] at HS
  simp only at HS
  clear hE hK hN hKT
  cases T
  · rw [if_neg (by decide)] at HM
    rw [HM.out]
    go_enter Tryz.func27, Tryz.ntmps27
    go_wp2_with fail
    refine HS.out.mono ?_
    rintro e w1 ⟨rfl, hb1⟩
    go_wp2_with fail
    refine (HC.out _ hb1).mono ?_
    rintro e w2 ⟨rfl, hb2⟩
    go_wp2_with fail
    go_ret
    exact ⟨rfl, hb1.trans (hb2.mono hb1.size)⟩
  · rw [if_pos rfl] at HM
    rw [HM.out]
    have HD : Hid (errOf 4 = errT 4) := Lib.hid rfl
    go_enter Tryz.func27, Tryz.ntmps27
    go_wp2_with fail
    refine HS.out.mono ?_
    rintro e w1 ⟨rfl, hb1⟩
    go_wp2_with fail
    go_ret
    rw [HD.out]
    exact ⟨rfl, hb1⟩
end Go.Proofs.YtplaohmdllindaaGreatDoor
