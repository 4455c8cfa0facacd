/- slices.ContainsFunc over rels and rows of rels; rule.Holds. -/
import Derived.Test.YtkklemhhimcahaaGreatDoorRuleHolds
namespace Go.Proofs.YtkklemhhimcahaaGreatDoor
open Go.RowKit

/-- A function value that tells something of an element. -/
def RelFn (f : Nat) (lb : Array Value) (P : RelD → Bool) (rs : List RelD) (w0 : World) : Prop := ∀ r ∈ rs, ∀ W, Below w0.heap.size w0 W → Calls Tryz.prog f (#[relV r.c.op r.c.md r.c.neg r.A r.c.rs.length r.n] ++ lb) W fun e w' => e = .returned (.bool (P r)) ∧ Below W.heap.size W w'

set_option maxHeartbeats 1000000 in
theorem idx_rel (f : Nat) (lb : Array Value) (P : RelD → Bool) (eg : ∀ args w, (callFunc f args).run Tryz.prog w = .ok (.enter f args) w) (A : Option Addr) (rs : List RelD) (c : Nat) (w : World) (hf : RelFn f lb P rs w) (hr : (rs = [] ∨ ∃ g o, A = some ⟨g, o, none⟩ ∧ RelsIn w g o rs)) (hc : rs.length ≤ c) (hc2 : c ≤ 9223372036854775807) :
    Calls Tryz.prog 55 #[.slice A rs.length c, .func (.func f) #[] lb] w fun e w' => IdxRes (rs.any P) e ∧ Below w.heap.size w w' := by
  have HF := Lib.hid hf
  have HR := Lib.hid hr
  generalize hR : rs.any P = R
  have HRR := Lib.hid hR
  clear hf hr hR
  have HP : Hid (∀ v : Int, decide (0 ≤ v) = R → IdxRes R (.returned (.int .i64 v))) := Lib.hid (fun v h => ⟨v, rfl, h⟩)
  go_enter Tryz.func55, Tryz.ntmps55
  go_wp2_with fail
  go_loopw [5, 8] (fun _ i wr => ∃ k : Nat, k ≤ rs.length ∧ i = .int .i64 k ∧ Hid ((rs.take k).any P = false) ∧ Hid (Below w.heap.size w wr)) (fun _ i _ => rs.length - (intOf i).toNat)
  case atStart => exact ⟨0, Nat.zero_le _, rfl, Lib.hid rfl, Lib.hid (Below.refl _ _)⟩
  case round =>
    obtain ⟨k, hk, rfl, HN, HB⟩ := hrel
    by_cases hlt : k < rs.length
    · obtain ⟨p, hp⟩ : ∃ p, rs[k]? = some p := ⟨rs[k], List.getElem?_eq_getElem hlt⟩
      obtain ⟨b, o, rfl, hcell⟩ : ∃ g o, A = some ⟨g, o, none⟩ ∧ RelsIn wr g o rs := by
        rcases HR.out with h | ⟨g, o, h1, h2⟩
        · rw [h] at hlt; simp at hlt
        · exact ⟨g, o, h1, h2.below HB.out⟩
      have c0 := hcell k _ 0 _ hp rfl
      have c1 := hcell k _ 1 _ hp rfl
      have c2 := hcell k _ 2 _ hp rfl
      have c3 := hcell k _ 3 _ hp rfl
      simp only [Nat.add_zero] at c0 c1 c2 c3
      have i0 : (0 : Int) ≤ (k : Int) := by omega
      have i1 : (k : Int) < (rs.length : Int) := by omega
      have i2 : (k : Int) ≤ (c : Int) := by omega
      have e1 : IntKind.i64.wrap ((k : Int) + 1) = (k : Int) + 1 := IntWalk.i64_in _ (by omega)
      have KF := Lib.hid (HF.out p (List.mem_of_getElem? hp) wr HB.out)
      have hst : (rs.take (k + 1)).any P = P p := by
        rw [List.take_add_one, hp, List.any_append, HN.out]
        simp
      have hin : P p = true → R = true := fun h => by
        rw [← HRR.out, List.any_eq_true]
        exact ⟨p, List.mem_of_getElem? hp, h⟩
      obtain ⟨⟨op, md, neg, rr⟩, C, nn⟩ := p
      simp only at c0 c1 c2 c3 KF
      have sB := HB.out.size
      generalize hq : P ⟨⟨op, md, neg, rr⟩, C, nn⟩ = q at *
      cases q
      · have HS := Lib.hid hst
        clear hcell hst hin hp hq
        go_wp2_with fail
        refine KF.out.mono ?_
        rintro e w1 ⟨rfl, hb⟩
        go_wp2_with fail
        go_roundw
        case rel => exact ⟨k + 1, by omega, by go_num, HS, Lib.hid (HB.out.trans (hb.mono sB))⟩
        case measure => simp [intOf]; omega
      · have hR1 := hin rfl
        have HD : Hid (decide ((0 : Int) ≤ (k : Int)) = R) := Lib.hid (by rw [hR1]; exact decide_eq_true i0)
        clear hcell hst hin hp hq hR1
        go_wp2_with fail
        refine KF.out.mono ?_
        rintro e w1 ⟨rfl, hb⟩
        go_wp2_with fail
        go_ret
        exact ⟨HP.out _ HD.out, HB.out.trans (hb.mono sB)⟩
    · obtain rfl : k = rs.length := by omega
      have HD : Hid (decide ((0 : Int) ≤ -1) = R) := Lib.hid (by
        have := HN.out
        rw [List.take_length, HRR.out] at this
        rw [this]
        decide)
      go_wp2_with fail
      go_ret
      exact ⟨HP.out _ HD.out, HB.out⟩

theorem any_rel (f : Nat) (lb : Array Value) (P : RelD → Bool) (eg : ∀ args w, (callFunc f args).run Tryz.prog w = .ok (.enter f args) w) (A : Option Addr) (rs : List RelD) (c : Nat) (w : World) (hf : RelFn f lb P rs w) (hr : (rs = [] ∨ ∃ g o, A = some ⟨g, o, none⟩ ∧ RelsIn w g o rs)) (hc : rs.length ≤ c) (hc2 : c ≤ 9223372036854775807) :
    Calls Tryz.prog 26 #[.slice A rs.length c, .func (.func f) #[] lb] w fun e w' => e = .returned (.bool (rs.any P)) ∧ Below w.heap.size w w' := by
  have K := Lib.hid (idx_rel f lb P eg A rs c w hf hr hc hc2)
  clear hf hr
  generalize rs.any P = R at *
  go_enter Tryz.func26, Tryz.ntmps26
  go_wp2_with fail
  refine K.out.mono ?_
  rintro e w1 ⟨⟨v, rfl, hv⟩, hb⟩
  have HV := Lib.hid hv
  clear hv
  go_wp2_with fail
  go_ret
  exact ⟨ret_bool HV.out, hb⟩

/-- A function value that tells something of an element. -/
def PartFn (f : Nat) (lb : Array Value) (P : PartD → Bool) (rs : List PartD) (w0 : World) : Prop := ∀ r ∈ rs, ∀ W, Below w0.heap.size w0 W → Calls Tryz.prog f (#[.slice r.A r.rs.length r.n] ++ lb) W fun e w' => e = .returned (.bool (P r)) ∧ Below W.heap.size W w'

set_option maxHeartbeats 1000000 in
theorem idx_part (f : Nat) (lb : Array Value) (P : PartD → Bool) (eg : ∀ args w, (callFunc f args).run Tryz.prog w = .ok (.enter f args) w) (A : Option Addr) (rs : List PartD) (c : Nat) (w : World) (hf : PartFn f lb P rs w) (hr : (rs = [] ∨ ∃ g o, A = some ⟨g, o, none⟩ ∧ ∀ (j : Nat) p, rs[j]? = some p → w.cell? ⟨g, o + j, none⟩ = some (.slice p.A p.rs.length p.n))) (hc : rs.length ≤ c) (hc2 : c ≤ 9223372036854775807) :
    Calls Tryz.prog 54 #[.slice A rs.length c, .func (.func f) #[] lb] w fun e w' => IdxRes (rs.any P) e ∧ Below w.heap.size w w' := by
  have HF := Lib.hid hf
  have HR := Lib.hid hr
  generalize hR : rs.any P = R
  have HRR := Lib.hid hR
  clear hf hr hR
  have HP : Hid (∀ v : Int, decide (0 ≤ v) = R → IdxRes R (.returned (.int .i64 v))) := Lib.hid (fun v h => ⟨v, rfl, h⟩)
  go_enter Tryz.func54, Tryz.ntmps54
  go_wp2_with fail
  go_loopw [5, 8] (fun _ i wr => ∃ k : Nat, k ≤ rs.length ∧ i = .int .i64 k ∧ Hid ((rs.take k).any P = false) ∧ Hid (Below w.heap.size w wr)) (fun _ i _ => rs.length - (intOf i).toNat)
  case atStart => exact ⟨0, Nat.zero_le _, rfl, Lib.hid rfl, Lib.hid (Below.refl _ _)⟩
  case round =>
    obtain ⟨k, hk, rfl, HN, HB⟩ := hrel
    by_cases hlt : k < rs.length
    · obtain ⟨p, hp⟩ : ∃ p, rs[k]? = some p := ⟨rs[k], List.getElem?_eq_getElem hlt⟩
      obtain ⟨b, o, rfl, hcell⟩ : ∃ g o, A = some ⟨g, o, none⟩ ∧ ∀ (j : Nat) p, rs[j]? = some p → wr.cell? ⟨g, o + j, none⟩ = some (.slice p.A p.rs.length p.n) := by
        rcases HR.out with h | ⟨g, o, h1, h2⟩
        · rw [h] at hlt; simp at hlt
        · exact ⟨g, o, h1, fun j p hp => carry HB.out (h2 j p hp)⟩
      have c0 := hcell k _ hp
      have i0 : (0 : Int) ≤ (k : Int) := by omega
      have i1 : (k : Int) < (rs.length : Int) := by omega
      have i2 : (k : Int) ≤ (c : Int) := by omega
      have e1 : IntKind.i64.wrap ((k : Int) + 1) = (k : Int) + 1 := IntWalk.i64_in _ (by omega)
      have KF := Lib.hid (HF.out p (List.mem_of_getElem? hp) wr HB.out)
      have hst : (rs.take (k + 1)).any P = P p := by
        rw [List.take_add_one, hp, List.any_append, HN.out]
        simp
      have hin : P p = true → R = true := fun h => by
        rw [← HRR.out, List.any_eq_true]
        exact ⟨p, List.mem_of_getElem? hp, h⟩
      obtain ⟨ss, C, nn⟩ := p
      simp only at c0 KF
      have sB := HB.out.size
      generalize hq : P ⟨ss, C, nn⟩ = q at *
      cases q
      · have HS := Lib.hid hst
        clear hcell hst hin hp hq
        go_wp2_with fail
        refine KF.out.mono ?_
        rintro e w1 ⟨rfl, hb⟩
        go_wp2_with fail
        go_roundw
        case rel => exact ⟨k + 1, by omega, by go_num, HS, Lib.hid (HB.out.trans (hb.mono sB))⟩
        case measure => simp [intOf]; omega
      · have hR1 := hin rfl
        have HD : Hid (decide ((0 : Int) ≤ (k : Int)) = R) := Lib.hid (by rw [hR1]; exact decide_eq_true i0)
        clear hcell hst hin hp hq hR1
        go_wp2_with fail
        refine KF.out.mono ?_
        rintro e w1 ⟨rfl, hb⟩
        go_wp2_with fail
        go_ret
        exact ⟨HP.out _ HD.out, HB.out.trans (hb.mono sB)⟩
    · obtain rfl : k = rs.length := by omega
      have HD : Hid (decide ((0 : Int) ≤ -1) = R) := Lib.hid (by
        have := HN.out
        rw [List.take_length, HRR.out] at this
        rw [this]
        decide)
      go_wp2_with fail
      go_ret
      exact ⟨HP.out _ HD.out, HB.out⟩

theorem any_part (f : Nat) (lb : Array Value) (P : PartD → Bool) (eg : ∀ args w, (callFunc f args).run Tryz.prog w = .ok (.enter f args) w) (A : Option Addr) (rs : List PartD) (c : Nat) (w : World) (hf : PartFn f lb P rs w) (hr : (rs = [] ∨ ∃ g o, A = some ⟨g, o, none⟩ ∧ ∀ (j : Nat) p, rs[j]? = some p → w.cell? ⟨g, o + j, none⟩ = some (.slice p.A p.rs.length p.n))) (hc : rs.length ≤ c) (hc2 : c ≤ 9223372036854775807) :
    Calls Tryz.prog 24 #[.slice A rs.length c, .func (.func f) #[] lb] w fun e w' => e = .returned (.bool (rs.any P)) ∧ Below w.heap.size w w' := by
  have K := Lib.hid (idx_part f lb P eg A rs c w hf hr hc hc2)
  clear hf hr
  generalize rs.any P = R at *
  go_enter Tryz.func24, Tryz.ntmps24
  go_wp2_with fail
  refine K.out.mono ?_
  rintro e w1 ⟨⟨v, rfl, hv⟩, hb⟩
  have HV := Lib.hid hv
  clear hv
  go_wp2_with fail
  go_ret
  exact ⟨ret_bool HV.out, hb⟩


/-- the operands' box -/
def OpsAt (w : World) (b : Nat) (o : OpsC) : Prop := w.cell? ⟨b, 0, none⟩ = some (.int .i64 o.i) ∧ w.cell? ⟨b, 1, none⟩ = some (.int .i64 o.v) ∧ w.cell? ⟨b, 2, none⟩ = some (.int .i64 o.w) ∧ w.cell? ⟨b, 3, none⟩ = some (.int .i64 o.f) ∧ w.cell? ⟨b, 4, none⟩ = some (.int .i64 o.t)
theorem OpsAt.below {w w' : World} {b : Nat} {o : OpsC} (h : OpsAt w b o) (hb : Below w.heap.size w w') : OpsAt w' b o := ⟨carry hb h.1, carry hb h.2.1, carry hb h.2.2.1, carry hb h.2.2.2.1, carry hb h.2.2.2.2⟩

set_option maxHeartbeats 1000000 in
theorem not_holds (r : RelD) (o : OpsC) (b : Nat) (w : World) (h : r.fits w) (hf : r.c.fine = true) (ho : o.fits) (hx : OpsAt w b o) :
    Calls Tryz.prog 27 #[relV r.c.op r.c.md r.c.neg r.A r.c.rs.length r.n, .pointer (some ⟨b, 0, none⟩)] w fun e w' => e = .returned (.bool (!r.c.holds o)) ∧ Below w.heap.size w w' := by
  have K := Lib.hid (fun W (hb : Below w.heap.size w W) => rule_holds r o W (h.below hb) hf ho)
  generalize r.c.holds o = R at *
  obtain ⟨x0, x1, x2, x3, x4⟩ := hx
  have hlt := lt_of_cell x0
  obtain ⟨oi, ov, ow, of', ot⟩ := o
  obtain ⟨⟨op, md, neg, rr⟩, C, nn⟩ := r
  simp only at x0 x1 x2 x3 x4 K ⊢
  clear h hf ho
  go_enter Tryz.func27, Tryz.ntmps27
  go_wp2_with fail
  refine (K.out _ (by (repeat (first | with_reducible exact Below.refl _ _ | with_reducible refine bel_set ?_ ?_ | with_reducible refine bel_alloc ?_ ?_ | with_reducible refine Below.drew ?_ | with_reducible refine bel_drewN _ ?_ | with_reducible refine bel_call ?_ (by assumption) ?_)); all_goals (first | (simp; done) | omega | (simp; omega)))).mono ?_
  rintro e w1 ⟨rfl, hb⟩
  go_wp2_with fail
  go_ret
  exact ⟨rfl, (by (repeat (first | with_reducible exact Below.refl _ _ | with_reducible refine bel_set ?_ ?_ | with_reducible refine bel_alloc ?_ ?_ | with_reducible refine Below.drew ?_ | with_reducible refine bel_drewN _ ?_ | with_reducible refine bel_call ?_ (by assumption) ?_)); all_goals (first | (simp; done) | omega | (simp; omega)))⟩

theorem any_not {α : Type} (l : List α) (P : α → Bool) : (!l.any fun x => !P x) = l.all P := by
  induction l with
  | nil => rfl
  | cons x r ih => rw [List.any_cons, List.all_cons, Bool.not_or, Bool.not_not, ih]
theorem all_part_c (p : PartD) (o : OpsC) : (p.rs.all fun r => r.c.holds o) = p.c.all fun x => x.holds o := by
  unfold PartD.c
  rw [List.all_map]
  rfl

set_option maxHeartbeats 1000000 in
theorem part_holds (p : PartD) (o : OpsC) (b : Nat) (w : World) (h : p.fits w) (hf : ∀ r ∈ p.rs, r.c.fine = true) (ho : o.fits) (hx : OpsAt w b o) :
    Calls Tryz.prog 25 #[.slice p.A p.rs.length p.n, .pointer (some ⟨b, 0, none⟩)] w fun e w' => e = .returned (.bool (p.c.all fun x => x.holds o)) ∧ Below w.heap.size w w' := by
  have K := any_rel 27 #[.pointer (some ⟨b, 0, none⟩)] (fun r => !r.c.holds o) (enters_of Tryz.func27 (by kernel_rfl) rfl) p.A p.rs p.n w
    (fun r hr W hb => not_holds r o b W ((h.2.2.2 r hr).below hb) (hf r hr) ho (hx.below hb)) h.1 h.2.1 h.2.2.1
  have hR := any_not p.rs (fun r => r.c.holds o)
  rw [all_part_c] at hR
  have HK := Lib.hid K
  have HR := Lib.hid hR
  clear K hR h hf hx ho
  generalize (p.c.all fun x => x.holds o) = R at *
  generalize (p.rs.any fun r => !r.c.holds o) = Q at *
  go_enter Tryz.func25, Tryz.ntmps25
  go_wp2_with fail
  refine HK.out.mono ?_
  rintro e w1 ⟨rfl, hb⟩
  go_wp2_with fail
  go_ret
  exact ⟨ret_bool HR.out, hb⟩

theorem any_rule_c (ps : List PartD) (o : OpsC) : (ps.any fun p => p.c.all fun x => x.holds o) = ruleHolds (ruleC ps) o := by
  unfold ruleHolds ruleC
  rw [List.any_map]
  rfl

set_option maxHeartbeats 2000000 in
theorem rule_Holds (A : Option Addr) (c : Nat) (ps : List PartD) (o : OpsC) (w : World) (h : RuleIn w A ps) (hc : ps.length ≤ c) (hc2 : c ≤ 9223372036854775807) (hn : ruleCount (ruleC ps) ≤ 9000000000000000000) (ho : o.fits) :
    Calls Tryz.prog 7 #[.slice A ps.length c, opsV o.i o.v o.w o.f o.t] w fun e w' => e = .returned (.tuple #[.bool (if ruleErr (ruleC ps) = 0 then ruleHolds (ruleC ps) o else false), errOf (ruleErr (ruleC ps))]) ∧ Below w.heap.size w w' := by
  have KC := Lib.hid (fun W (hb : Below w.heap.size w W) => rule_check A c ps W (h.below hb) hc hc2 hn)
  by_cases h0 : ruleErr (ruleC ps) = 0
  · have hok := ruleErr_ok h0
    have hfine : ∀ p ∈ ps, ∀ r ∈ p.rs, r.c.fine = true := fun p hp r hr => (hok.2.1 p.c (List.mem_map_of_mem hp)).2 r.c (List.mem_map_of_mem hr)
    have KH := Lib.hid (fun b W (hb : Below w.heap.size w W) (hx : OpsAt W b o) => by
      have := any_part 25 #[.pointer (some ⟨b, 0, none⟩)] (fun p => p.c.all fun x => x.holds o) (enters_of Tryz.func25 (by kernel_rfl) rfl) A ps c W
        (fun p hp W' hb' => part_holds p o b W' (((h.below hb).below hb').2 p hp) (hfine p hp) ho (hx.below hb')) (h.below hb).1 hc hc2
      rw [any_rule_c] at this
      exact this)
    rw [if_pos h0, h0]
    rw [h0] at KC
    clear h0 hok hfine h
    generalize ruleHolds (ruleC ps) o = R at *
    obtain ⟨oi, ov, ow, of', ot⟩ := o
    simp only
    go_enter Tryz.func7, Tryz.ntmps7
    go_wp2_with fail
    refine (KC.out _ (by (repeat (first | with_reducible exact Below.refl _ _ | with_reducible refine bel_set ?_ ?_ | with_reducible refine bel_alloc ?_ ?_ | with_reducible refine Below.drew ?_ | with_reducible refine bel_drewN _ ?_ | with_reducible refine bel_call ?_ (by assumption) ?_)); all_goals (first | (simp; done) | omega | (simp; omega)))).mono ?_
    rintro e w1 ⟨rfl, hb⟩
    have x0 : w1.cell? ⟨w.heap.size, 0, none⟩ = some (.int .i64 oi) := carry hb (by go_simp)
    have x1 : w1.cell? ⟨w.heap.size, 1, none⟩ = some (.int .i64 ov) := carry hb (by go_simp)
    have x2 : w1.cell? ⟨w.heap.size, 2, none⟩ = some (.int .i64 ow) := carry hb (by go_simp)
    have x3 : w1.cell? ⟨w.heap.size, 3, none⟩ = some (.int .i64 of') := carry hb (by go_simp)
    have x4 : w1.cell? ⟨w.heap.size, 4, none⟩ = some (.int .i64 ot) := carry hb (by go_simp)
    have HX : Hid (OpsAt w1 w.heap.size ⟨oi, ov, ow, of', ot⟩) := Lib.hid ⟨x0, x1, x2, x3, x4⟩
    have HB1 : Hid (Below w.heap.size w w1) := Lib.hid (by (repeat (first | with_reducible exact Below.refl _ _ | with_reducible refine bel_set ?_ ?_ | with_reducible refine bel_alloc ?_ ?_ | with_reducible refine Below.drew ?_ | with_reducible refine bel_drewN _ ?_ | with_reducible refine bel_call ?_ (by assumption) ?_)); all_goals (first | (simp; done) | omega | (simp; omega)))
    clear hb x0 x1 x2 x3 x4
    rw [show errOf 0 = .nilIface from rfl]
    go_wp2_with fail
    refine (KH.out _ _ HB1.out HX.out).mono ?_
    rintro e w2 ⟨rfl, hb2⟩
    go_wp2_with fail
    go_ret2
    exact ⟨rfl, HB1.out.trans (hb2.mono HB1.out.size)⟩
  · rw [if_neg h0]
    have he : errOf (ruleErr (ruleC ps)) = errT (ruleErr (ruleC ps)) := by unfold errOf; rw [if_neg h0]
    rw [he] at KC ⊢
    clear h0 he h
    generalize ruleErr (ruleC ps) = E at *
    obtain ⟨oi, ov, ow, of', ot⟩ := o
    simp only
    go_enter Tryz.func7, Tryz.ntmps7
    go_wp2_with fail
    refine (KC.out _ (by (repeat (first | with_reducible exact Below.refl _ _ | with_reducible refine bel_set ?_ ?_ | with_reducible refine bel_alloc ?_ ?_ | with_reducible refine Below.drew ?_ | with_reducible refine bel_drewN _ ?_ | with_reducible refine bel_call ?_ (by assumption) ?_)); all_goals (first | (simp; done) | omega | (simp; omega)))).mono ?_
    rintro e w1 ⟨rfl, hb⟩
    go_wp2_with fail
    go_ret2
    exact ⟨rfl, (by (repeat (first | with_reducible exact Below.refl _ _ | with_reducible refine bel_set ?_ ?_ | with_reducible refine bel_alloc ?_ ?_ | with_reducible refine Below.drew ?_ | with_reducible refine bel_drewN _ ?_ | with_reducible refine bel_call ?_ (by assumption) ?_)); all_goals (first | (simp; done) | omega | (simp; omega)))⟩
end Go.Proofs.YtkklemhhimcahaaGreatDoor
