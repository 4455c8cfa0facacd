/- RuleOr: the law's walk. -/
import Derived.Test.YtkklemhhimcahaaDoorRuleParse3
import Derived.Test.YtkklemhhimcahaaDoorRuleOrPlain
import Derived.Test.YtkklemhhimcahaaDoorRuleAny
import Derived.Test.YtkklemhhimcahaaDoorAppendG
namespace Go.Proofs.YtkklemhhimcahaaDoor
open Go.RowKit

set_option maxRecDepth 100000 in
theorem n1_ok : parseOk ⟨#[110, 32, 61, 32, 49]⟩ = true := by kernel_rfl
set_option maxRecDepth 100000 in
theorem n1_len : (parseB ⟨#[110, 32, 61, 32, 49]⟩).length = 1 := by kernel_rfl
/-- rule.Parse("n = 1") -/
theorem parse_n1 (w : World) (hE : RuleEnv w) :
    Calls Tryd.prog 7 #[.string ⟨#[110, 32, 61, 32, 49]⟩] w fun e w' => (∃ A c, e = .returned (.tuple #[.slice A 1 c, .nilIface])) ∧ Below w.heap.size w w' := by
  refine (rule_parse _ w hE (by decide)).mono ?_
  rintro e w' ⟨hp, hb⟩
  refine ⟨?_, hb⟩
  unfold ParsePost at hp
  rw [if_pos n1_ok] at hp
  obtain ⟨A, c, ps, h1, _, _, _, _, h2⟩ := hp
  have hl := congrArg List.length h1
  rw [n1_len] at hl
  have hl2 : ps.length = 1 := by rw [← hl]; unfold ruleC; rw [List.length_map]
  rw [hl2] at h2
  exact ⟨A, c, h2⟩

def HoldsIs (E : Int) (R : Bool) (b : Bool) (y : Value) : Prop := (E = 0 ∧ y = .nilIface ∧ b = R) ∨ (E ≠ 0 ∧ ∃ k : Int, y = .iface 61 (.int .i64 k))
theorem holds_out (A : Option Addr) (c : Nat) (ps : List PartD) (o : OpsC) (w : World) (h : RuleIn w A ps) (hc : ps.length ≤ c) (hc2 : c ≤ 9223372036854775807) (hn : ruleCount (ruleC ps) ≤ 9000000000000000000) (ho : o.fits) :
    Calls Tryd.prog 8 #[.slice A ps.length c, opsV o.i o.v o.w o.f o.t] w fun e w' => (∃ b y, e = .returned (.tuple #[.bool b, y]) ∧ HoldsIs (ruleErr (ruleC ps)) (ruleHolds (ruleC ps) o) b y ∧ (ruleErr (ruleC ps) ≠ 0 → b = false)) ∧ Below w.heap.size w w' := by
  refine (rule_Holds A c ps o w h hc hc2 hn ho).mono ?_
  rintro e w' ⟨rfl, hb⟩
  refine ⟨⟨_, _, rfl, ?_, fun hE => by rw [if_neg hE]⟩, hb⟩
  by_cases h0 : ruleErr (ruleC ps) = 0
  · exact .inl ⟨h0, by unfold errOf; rw [if_pos h0], by rw [if_pos h0]⟩
  · exact .inr ⟨h0, _, by unfold errOf; rw [if_neg h0]⟩

theorem RuleIn.lies {w : World} {A : Option Addr} {ps : List PartD} (h : RuleIn w A ps) : LiesG kPart w A ps := by
  rcases h.1 with h1 | ⟨g, o, h1, h2⟩
  · exact .inl h1
  · refine .inr ⟨g, o, h1, fun j t i u ht hu => ?_⟩
    have hi : i = 0 := by have := (List.getElem?_eq_some_iff.1 hu).1; rw [kPart.hlen] at this; simp [kPart] at this; exact this
    subst hi
    have hu' : Value.slice t.A t.rs.length t.n = u := by simpa [kPart, PartD.val] using hu
    subst hu'
    simpa [kPart, PartD.val] using h2 j t ht
theorem OwnsG.ruleIn {w : World} {base : Nat} {A : Option Addr} {n c : Nat} {ps : List PartD} (h : OwnsG kPart w base (.slice A n c) ps) (hf : ∀ p ∈ ps, p.fits w) : RuleIn w A ps ∧ n = ps.length ∧ ps.length ≤ c ∧ c ≤ 9223372036854775807 := by
  obtain ⟨A', c', h1, h2, h3, _, h4⟩ := h.form
  cases h1
  refine ⟨⟨?_, hf⟩, rfl, h2, h3⟩
  rcases h4 with h4 | ⟨g, rfl, _, _, h5⟩
  · exact .inl h4
  · refine .inr ⟨g, 0, rfl, fun j p hp => ?_⟩
    have := h5 j p 0 p.val hp (by simp [kPart]; rfl)
    simpa [kPart, PartD.val] using this

theorem or_small {ps qs : List PartD} (h1 : RuleSmall ps) (h2 : RuleSmall qs) : RuleSmall (ps ++ qs) := by
  intro p hp
  rcases List.mem_append.1 hp with h | h
  · exact h1 p h
  · exact h2 p h
theorem ruleC_append (ps qs : List PartD) : ruleC (ps ++ qs) = ruleC ps ++ ruleC qs := by unfold ruleC; rw [List.map_append]

/-- the texts are one of two and the sign between them -/
theorem or_text {P Q : RuleC} (h1 : ruleErr P = 0) (h2 : ruleErr Q = 0) : (⟨(ruleL (P ++ Q)).toArray⟩ : ByteArray) = ⟨(ruleL P).toArray⟩ ++ ⟨#[32, 111, 114, 32]⟩ ++ ⟨(ruleL Q).toArray⟩ := by
  rw [ruleL_append P Q (ruleErr_ok h1).1 (ruleErr_ok h2).1]
  apply ByteArray.ext
  apply Array.ext'
  simp [ByteArray.data_append]

theorem rule_size (ps : List PartD) (w : World) (h : ∀ p ∈ ps, p.fits w) (hs : RuleSmall ps) (h0 : ruleErr (ruleC ps) = 0) : (⟨(ruleL (ruleC ps)).toArray⟩ : ByteArray).size ≤ 140737488355328 := by
  have hok := ruleErr_ok h0
  have := (rule_len ps w h hs hok.2.2 (fun p hp => by have := (hok.2.1 p.c (List.mem_map_of_mem hp)).1; rwa [part_c_len] at this)).2.2
  simpa [ByteArray.size] using this
theorem OpsAt.kept {w w' : World} {b B : Nat} {o : OpsC} (h : OpsAt w b o) (hB : b < B) (hb : Below B w w') : OpsAt w' b o :=
  have hc : ∀ (k : Nat) v, w.cell? ⟨b, k, none⟩ = some v → w'.cell? ⟨b, k, none⟩ = some v := fun k v hv => by rw [← hv]; exact hb.cell (p := ⟨b, k, none⟩) hB
  ⟨hc _ _ h.1, hc _ _ h.2.1, hc _ _ h.2.2.1, hc _ _ h.2.2.2.1, hc _ _ h.2.2.2.2⟩

set_option maxHeartbeats 8000000 in
theorem walk22 (A B : Option Addr) (c d : Nat) (ps qs : List PartD) (o : OpsC) (w : World) (hE : RuleEnv w) (ho : o.fits)
    (hp : RuleIn w A ps) (hpc : ps.length ≤ c) (hpc2 : c ≤ 9223372036854775807) (hpA : A = none → c = 0) (hps : RuleSmall ps) (hpn : ruleCount (ruleC ps) + ps.length ≤ 1048576)
    (hq : RuleIn w B qs) (hqc : qs.length ≤ d) (hqc2 : d ≤ 9223372036854775807) (hqA : B = none → d = 0) (hqs : RuleSmall qs) (hqn : ruleCount (ruleC qs) + qs.length ≤ 1048576) :
    Calls Tryd.prog 3 #[.slice A ps.length c, .slice B qs.length d, opsV o.i o.v o.w o.f o.t] w fun e w' => e = .returned (.bool true) ∧ Below w.heap.size w w' := by
  have KP := Lib.hid (fun W (hb : Below w.heap.size w W) => parse_n1 W (hE.below hb))
  have KH1 := Lib.hid (fun W (hb : Below w.heap.size w W) => holds_out A c ps o W (hp.below hb) hpc hpc2 (by omega) ho)
  have KH2 := Lib.hid (fun W (hb : Below w.heap.size w W) => holds_out B d qs o W (hq.below hb) hqc hqc2 (by omega) ho)
  have KH3 := Lib.hid (fun A c W (h : RuleIn W A (ps ++ qs)) hc hc2 => by have := holds_out A c (ps ++ qs) o W h hc hc2 (by rw [ruleC_append, count_append]; omega) ho; rw [List.length_append] at this; exact this)
  have KT1 := Lib.hid (fun W (hb : Below w.heap.size w W) h0 => rule_text_ok A c ps W (hE.below hb).pow (hp.below hb) hpc hpc2 hps h0)
  have KT2 := Lib.hid (fun W (hb : Below w.heap.size w W) h0 => rule_text_ok B d qs W (hE.below hb).pow (hq.below hb) hqc hqc2 hqs h0)
  have KT3 := Lib.hid (fun A c W (hb : Below w.heap.size w W) (h : RuleIn W A (ps ++ qs)) hc hc2 h0 => by have := rule_text_ok A c (ps ++ qs) W (hE.below hb).pow h hc hc2 (or_small hps hqs) h0; rw [List.length_append] at this; exact this)
  have HOR : Hid (ruleHolds (ruleC (ps ++ qs)) o = (ruleHolds (ruleC ps) o || ruleHolds (ruleC qs) o)) := Lib.hid (by rw [ruleC_append, ruleHolds_append])
  have HTX := Lib.hid (fun (h1 : ruleErr (ruleC ps) = 0) (h2 : ruleErr (ruleC qs) = 0) => or_text h1 h2)
  rw [← ruleC_append] at HTX
  have KZ1 := Lib.hid (rule_size ps w hp.2 hps)
  have KZ2 := Lib.hid (rule_size qs w hq.2 hqs)
  have HP := Lib.hid hp
  have HQ := Lib.hid hq
  have HF : Hid (∀ W, Below w.heap.size w W → ∀ p ∈ ps ++ qs, p.fits W) := Lib.hid (fun W hb p hp' => by
    rcases List.mem_append.1 hp' with h | h
    · exact (hp.below hb).2 p h
    · exact (hq.below hb).2 p h)
  have HPA := Lib.hid hpA
  have HQA := Lib.hid hqA
  have L1 : ps.length ≤ 1048576 := by omega
  have L2 : qs.length ≤ 1048576 := by omega
  have HL : Hid ((ps ++ qs).length = ps.length + qs.length) := Lib.hid (by rw [List.length_append])
  clear hp hq hE hps hqs hpA hqA hpn hqn
  generalize ruleHolds (ruleC ps) o = R1 at *
  generalize ruleHolds (ruleC qs) o = R2 at *
  generalize ruleHolds (ruleC (ps ++ qs)) o = R3 at *
  generalize (⟨(ruleL (ruleC ps)).toArray⟩ : ByteArray) = T1 at *
  generalize (⟨(ruleL (ruleC qs)).toArray⟩ : ByteArray) = T2 at *
  generalize (⟨(ruleL (ruleC (ps ++ qs))).toArray⟩ : ByteArray) = T3 at *
  generalize ruleErr (ruleC ps) = E1 at *
  generalize ruleErr (ruleC qs) = E2 at *
  generalize ruleErr (ruleC (ps ++ qs)) = E3 at *
  obtain ⟨oi, ov, ow, of', ot⟩ := o
  simp only at *
  go_enter Tryd.func3, Tryd.ntmps3
  go_wp2_with fail
  refine (KP.out _ (by (repeat (first | with_reducible exact Below.refl _ _ | with_reducible refine bel_set ?_ ?_ | with_reducible refine bel_alloc ?_ ?_ | with_reducible refine Below.drew ?_ | with_reducible refine bel_drewN _ ?_ | with_reducible refine bel_call ?_ (by assumption) ?_)); all_goals (first | (simp; done) | omega | (simp; omega)))).mono ?_
  rintro e w1 ⟨⟨Af, cf, rfl⟩, hb⟩
  have x0 : w1.cell? ⟨w.heap.size, 0, none⟩ = some (.int .i64 oi) := carry hb (by go_simp)
  have x1 : w1.cell? ⟨w.heap.size, 1, none⟩ = some (.int .i64 ov) := carry hb (by go_simp)
  have x2 : w1.cell? ⟨w.heap.size, 2, none⟩ = some (.int .i64 ow) := carry hb (by go_simp)
  have x3 : w1.cell? ⟨w.heap.size, 3, none⟩ = some (.int .i64 of') := carry hb (by go_simp)
  have x4 : w1.cell? ⟨w.heap.size, 4, none⟩ = some (.int .i64 ot) := carry hb (by go_simp)
  have HX : Hid (OpsAt w1 w.heap.size ⟨oi, ov, ow, of', ot⟩) := Lib.hid ⟨x0, x1, x2, x3, x4⟩
  have HB1 : Hid (Below w.heap.size w w1) := Lib.hid (by (repeat (first | with_reducible exact Below.refl _ _ | with_reducible refine bel_set ?_ ?_ | with_reducible refine bel_alloc ?_ ?_ | with_reducible refine Below.drew ?_ | with_reducible refine bel_drewN _ ?_ | with_reducible refine bel_call ?_ (by assumption) ?_)); all_goals (first | (simp; done) | omega | (simp; omega)))
  have s1 : w.heap.size < w1.heap.size := lt_of_cell x0
  clear hb x0 x1 x2 x3 x4
  have hO : OwnsG kPart (w1.alloc (.cells #[] 56)) w1.heap.size (.slice (some ⟨w1.heap.size, 0, none⟩) 0 0) [] := World.ownsRow_lit w1 #[] 0 (Nat.le_refl _) (by simp [maxLen]) rfl
  have HO := Lib.hid hO
  have HBA : Hid (Below w.heap.size w (w1.alloc (.cells #[] 56))) := Lib.hid (HB1.out.alloc (by omega) _)
  have HXA : Hid (OpsAt (w1.alloc (.cells #[] 56)) w.heap.size ⟨oi, ov, ow, of', ot⟩) := Lib.hid (HX.out.below ((Below.refl _ _).alloc (Nat.le_refl _) _))
  clear hO
  go_wp2_with (first
    | (at_builtin; refine wpList_append_manyG (k := kPart) rfl (.tmp 26) (.tmp 27) rfl (ys := ps) rfl rfl HO.out (HP.out.below HBA.out).lies HPA.out (by simp) (by simp [kPart]; omega) (by simp; omega) ?_; intro v1 w2 ho1 hf1; have b2 := HO.out.grown hf1 (by simp); have HB2 : Hid (Below w.heap.size w w2) := Lib.hid (HBA.out.trans (b2.mono (by omega))); have HX2 : Hid (OpsAt w2 w.heap.size ⟨oi, ov, ow, of', ot⟩) := Lib.hid (HX.out.below (((Below.refl _ _).alloc (Nat.le_refl _) _).trans b2)); have HO1 := Lib.hid ho1; have s2 : w1.heap.size < w2.heap.size := (by have := b2.size; simp at this; omega); clear ho1 hf1 b2)
    | (at_builtin; refine wpList_append_manyG (k := kPart) rfl (.tmp 28) (.tmp 29) rfl (ys := qs) rfl rfl HO1.out (HQ.out.below HB2.out).lies HQA.out (by omega) (by simp [kPart]; omega) (by simp; omega) ?_; intro v2 w3 ho2 hf2; have b3 := HO1.out.grown hf2 (by omega); have HB3 : Hid (Below w.heap.size w w3) := Lib.hid (HB2.out.trans (b3.mono (by omega))); have HX3 : Hid (OpsAt w3 w.heap.size ⟨oi, ov, ow, of', ot⟩) := Lib.hid (HX2.out.kept (by omega) b3); have HO2 : Hid (OwnsG kPart w3 w1.heap.size v2 (ps ++ qs)) := Lib.hid ho2; have s3 : w2.heap.size ≤ w3.heap.size := b3.size; obtain ⟨y0, y1, y2, y3, y4⟩ := HX3.out; clear ho2 hf2 b3))
  obtain ⟨A3, c3, rfl, _⟩ := HO2.out.form
  have HB3' := HB3
  have HO3 : Hid (OwnsG kPart w3 w1.heap.size (.slice A3 (ps.length + qs.length) c3) (ps ++ qs)) := Lib.hid (by have := HO2.out; rw [HL.out] at this; exact this)
  clear HO2
  go_wp2_with fail
  refine (KH1.out _ HB3.out).mono ?_
  rintro e w4 ⟨⟨b4, z4, rfl, hh4, hf4⟩, hb⟩
  have HH4 := Lib.hid hh4
  have HZ4 := Lib.hid hf4
  have HB4 : Hid (Below w.heap.size w w4) := Lib.hid (HB3.out.trans (hb.mono (by have := HB3.out.size; omega)))
  have HX4 : Hid (OpsAt w4 w.heap.size ⟨oi, ov, ow, of', ot⟩) := Lib.hid (HX3.out.below hb)
  have HO4 : Hid (OwnsG kPart w4 w1.heap.size (.slice A3 (ps.length + qs.length) c3) (ps ++ qs)) := Lib.hid (HO3.out.below hb)
  clear y0 y1 y2 y3 y4 hh4 hf4 hb
  obtain ⟨y0, y1, y2, y3, y4⟩ := HX4.out
  go_wp2_with fail
  refine (KH2.out _ HB4.out).mono ?_
  rintro e w5 ⟨⟨b5, z5, rfl, hh5, hf5⟩, hb⟩
  have HH5 := Lib.hid hh5
  have HZ5 := Lib.hid hf5
  have HB5 : Hid (Below w.heap.size w w5) := Lib.hid (HB4.out.trans (hb.mono (by have := HB4.out.size; omega)))
  have HX5 : Hid (OpsAt w5 w.heap.size ⟨oi, ov, ow, of', ot⟩) := Lib.hid (HX4.out.below hb)
  have HO5 : Hid (OwnsG kPart w5 w1.heap.size (.slice A3 (ps.length + qs.length) c3) (ps ++ qs)) := Lib.hid (HO4.out.below hb)
  clear y0 y1 y2 y3 y4 hh5 hf5 hb
  obtain ⟨y0, y1, y2, y3, y4⟩ := HX5.out
  have HR5 := Lib.hid (HO5.out.ruleIn (HF.out _ HB5.out))
  go_wp2_with fail
  refine (KH3.out _ _ _ HR5.out.1 HR5.out.2.2.1 HR5.out.2.2.2).mono ?_
  rintro e w6 ⟨⟨b6, z6, rfl, hh6, hf6⟩, hb⟩
  have HH6 := Lib.hid hh6
  have HZ6 := Lib.hid hf6
  have HB6 : Hid (Below w.heap.size w w6) := Lib.hid (HB5.out.trans (hb.mono (by have := HB5.out.size; omega)))
  have HX6 : Hid (OpsAt w6 w.heap.size ⟨oi, ov, ow, of', ot⟩) := Lib.hid (HX5.out.below hb)
  have HO6 : Hid (OwnsG kPart w6 w1.heap.size (.slice A3 (ps.length + qs.length) c3) (ps ++ qs)) := Lib.hid (HO5.out.below hb)
  clear y0 y1 y2 y3 y4 hh6 hf6 hb
  obtain ⟨y0, y1, y2, y3, y4⟩ := HX6.out
  have HR6 := Lib.hid (HO6.out.ruleIn (HF.out _ HB6.out))
  clear y0 y1 y2 y3 y4
  rcases HH4.out with ⟨e1, rfl, r1⟩ | ⟨e1, k1, rfl⟩
  · rcases HH5.out with ⟨e2, rfl, r2⟩ | ⟨e2, k2, rfl⟩
    · rcases HH6.out with ⟨e3, rfl, r3⟩ | ⟨e3, k3, rfl⟩
      · have HT1 := Lib.hid (fun W hb => KT1.out W hb e1)
        have HT2 := Lib.hid (fun W hb => KT2.out W hb e2)
        have HT3 := Lib.hid (fun A c W hb h hc hc2 => KT3.out A c W hb h hc hc2 e3)
        have HTE := Lib.hid (HTX.out e1 e2)
        have z1 := KZ1.out e1
        have z2 := KZ2.out e2
        have HBQ : Hid (b6 = (b4 || b5)) := Lib.hid (by rw [r3, HOR.out, r1, r2])
        clear HH4 HH5 HH6 HZ4 HZ5 HZ6 KT1 KT2 KT3 HTX HOR e1 e2 e3 r1 r2 r3 KH1 KH2 KH3 KP
        go_wp2_with fail
        refine (HT1.out _ HB6.out).mono ?_
        rintro e w7 ⟨rfl, hb⟩
        have HB7 : Hid (Below w.heap.size w w7) := Lib.hid (HB6.out.trans (hb.mono (by have := HB6.out.size; omega)))
        have HR7 := Lib.hid (HR6.out.1.below hb)
        clear hb
        go_wp2_with fail
        refine (HT2.out _ HB7.out).mono ?_
        rintro e w8 ⟨rfl, hb⟩
        have HB8 : Hid (Below w.heap.size w w8) := Lib.hid (HB7.out.trans (hb.mono (by have := HB7.out.size; omega)))
        have HR8 := Lib.hid (HR7.out.below hb)
        clear hb
        go_wp2_with fail
        refine (HT3.out _ _ _ HB8.out HR8.out HR6.out.2.2.1 HR6.out.2.2.2).mono ?_
        rintro e w9 ⟨rfl, hb⟩
        have HB9 : Hid (Below w.heap.size w w9) := Lib.hid (HB8.out.trans (hb.mono (by have := HB8.out.size; omega)))
        clear hb
        have he := HTE.out
        subst he
        cases b4 <;> cases b5 <;> (obtain rfl := HBQ.out; go_wp2_with fail; go_ret; exact ⟨rfl, HB9.out⟩)
      · have hz := HZ6.out e3
        subst hz
        clear HH4 HH5 HH6 HZ4 HZ5 HZ6 KT1 KT2 KT3 HTX HOR e1 e2 e3 r1 r2 KH1 KH2 KH3 KP
        go_wp2_with fail
        go_ret
        exact ⟨rfl, HB6.out⟩
    · rcases HH6.out with ⟨e3, rfl, r3⟩ | ⟨e3, k3, rfl⟩
      · cases b6 <;>
        · clear HH4 HH5 HH6 HZ4 HZ5 HZ6 KT1 KT2 KT3 HTX HOR e1 e2 e3 r1 r3 KH1 KH2 KH3 KP
          go_wp2_with fail
          go_ret
          exact ⟨rfl, HB6.out⟩
      · have hz := HZ6.out e3
        subst hz
        clear HH4 HH5 HH6 HZ4 HZ5 HZ6 KT1 KT2 KT3 HTX HOR e1 e2 e3 r1 KH1 KH2 KH3 KP
        go_wp2_with fail
        go_ret
        exact ⟨rfl, HB6.out⟩
  · rcases HH6.out with ⟨e3, rfl, r3⟩ | ⟨e3, k3, rfl⟩
    · cases b6 <;>
      · clear HH4 HH5 HH6 HZ4 HZ5 HZ6 KT1 KT2 KT3 HTX HOR e1 e3 r3 KH1 KH2 KH3 KP
        go_wp2_with fail
        go_ret
        exact ⟨rfl, HB6.out⟩
    · have hz := HZ6.out e3
      subst hz
      clear HH4 HH5 HH6 HZ4 HZ5 HZ6 KT1 KT2 KT3 HTX HOR e1 e3 KH1 KH2 KH3 KP
      go_wp2_with fail
      go_ret
      exact ⟨rfl, HB6.out⟩
end Go.Proofs.YtkklemhhimcahaaDoor
