/- rule.fine. -/
import Derived.Test.YtkklemhhimcahaaGreatDoorRuleMem
import Derived.Test.YtkklemhhimcahaaGreatDoorContRune
namespace Go.Proofs.YtkklemhhimcahaaGreatDoor
open Go.RowKit

set_option maxHeartbeats 1000000 in
theorem rng_bad (p : Int × Int) (w : World) :
    Calls Tryz.prog 87 #[.agg #[.int .i64 p.1, .int .i64 p.2]] w fun e w' => e = .returned (.bool (rngBad p)) ∧ Below w.heap.size w w' := by
  obtain ⟨a, b⟩ := p
  unfold rngBad
  simp only
  by_cases h1 : a < 0
  · rw [decide_eq_true h1]
    go_enter Tryz.func87, Tryz.ntmps87
    go_wp2_with fail
    go_ret
    exact ⟨rfl, (by (repeat (first | with_reducible exact Below.refl _ _ | with_reducible refine bel_set ?_ ?_ | with_reducible refine bel_alloc ?_ ?_ | with_reducible refine Below.drew ?_ | with_reducible refine bel_drewN _ ?_ | with_reducible refine bel_call ?_ (by assumption) ?_)); all_goals (first | (simp; done) | omega | (simp; omega)))⟩
  · by_cases h2 : b < a
    · rw [decide_eq_false h1, decide_eq_true h2]
      go_enter Tryz.func87, Tryz.ntmps87
      go_wp2_with fail
      go_ret
      exact ⟨rfl, (by (repeat (first | with_reducible exact Below.refl _ _ | with_reducible refine bel_set ?_ ?_ | with_reducible refine bel_alloc ?_ ?_ | with_reducible refine Below.drew ?_ | with_reducible refine bel_drewN _ ?_ | with_reducible refine bel_call ?_ (by assumption) ?_)); all_goals (first | (simp; done) | omega | (simp; omega)))⟩
    · rw [decide_eq_false h1, decide_eq_false h2]
      by_cases h3 : 1000000 < b
      · rw [decide_eq_true h3]
        go_enter Tryz.func87, Tryz.ntmps87
        go_wp2_with fail
        go_ret
        exact ⟨rfl, (by (repeat (first | with_reducible exact Below.refl _ _ | with_reducible refine bel_set ?_ ?_ | with_reducible refine bel_alloc ?_ ?_ | with_reducible refine Below.drew ?_ | with_reducible refine bel_drewN _ ?_ | with_reducible refine bel_call ?_ (by assumption) ?_)); all_goals (first | (simp; done) | omega | (simp; omega)))⟩
      · rw [decide_eq_false h3]
        go_enter Tryz.func87, Tryz.ntmps87
        go_wp2_with fail
        go_ret
        exact ⟨rfl, (by (repeat (first | with_reducible exact Below.refl _ _ | with_reducible refine bel_set ?_ ?_ | with_reducible refine bel_alloc ?_ ?_ | with_reducible refine Below.drew ?_ | with_reducible refine bel_drewN _ ?_ | with_reducible refine bel_call ?_ (by assumption) ?_)); all_goals (first | (simp; done) | omega | (simp; omega)))⟩

/-- A function value that tells something of a range. -/
def RngFn (f : Nat) (lb : Array Value) (P : Int × Int → Bool) (w0 : World) : Prop := ∀ (p : Int × Int) W, Below w0.heap.size w0 W → Calls Tryz.prog f (#[.agg #[.int .i64 p.1, .int .i64 p.2]] ++ lb) W fun e w' => e = .returned (.bool (P p)) ∧ Below W.heap.size W w'

def IdxRes (R : Bool) (e : Ending) : Prop := ∃ v : Int, e = .returned (.int .i64 v) ∧ decide (0 ≤ v) = R

set_option maxHeartbeats 1000000 in
theorem idx_rng (f : Nat) (lb : Array Value) (P : Int × Int → Bool) (eg : ∀ args w, (callFunc f args).run Tryz.prog w = .ok (.enter f args) w) (A : Option Addr) (rs : List (Int × Int)) (c : Nat) (w : World) (hf : RngFn f lb P w) (hr : RngIn w A rs) (hc : rs.length ≤ c) (hc2 : c ≤ 9223372036854775807) :
    Calls Tryz.prog 88 #[.slice A rs.length c, .func (.func f) #[] lb] w fun e w' => IdxRes (rs.any P) e ∧ Below w.heap.size w w' := by
  have HF := Lib.hid hf
  have HR := Lib.hid hr
  generalize hR : rs.any P = R
  have HRR := Lib.hid hR
  clear hf hr hR
  have HP : Hid (∀ v : Int, decide (0 ≤ v) = R → IdxRes R (.returned (.int .i64 v))) := Lib.hid (fun v h => ⟨v, rfl, h⟩)
  go_enter Tryz.func88, Tryz.ntmps88
  go_wp2_with fail
  go_loopw [5, 8] (fun _ i wr => ∃ k : Nat, k ≤ rs.length ∧ i = .int .i64 k ∧ Hid ((rs.take k).any P = false) ∧ Hid (Below w.heap.size w wr)) (fun _ i _ => rs.length - (intOf i).toNat)
  case atStart => exact ⟨0, Nat.zero_le _, rfl, Lib.hid rfl, Lib.hid (Below.refl _ _)⟩
  case round =>
    obtain ⟨k, hk, rfl, HN, HB⟩ := hrel
    by_cases hlt : k < rs.length
    · obtain ⟨b, o, rfl, hcell⟩ := (HR.out.below HB.out).at (by omega)
      obtain ⟨p, hp⟩ : ∃ p, rs[k]? = some p := ⟨rs[k], List.getElem?_eq_getElem hlt⟩
      obtain ⟨c0, c1⟩ := hcell k p hp
      have i0 : (0 : Int) ≤ (k : Int) := by omega
      have i1 : (k : Int) < (rs.length : Int) := by omega
      have i2 : (k : Int) ≤ (c : Int) := by omega
      have e1 : IntKind.i64.wrap ((k : Int) + 1) = (k : Int) + 1 := IntWalk.i64_in _ (by omega)
      have KF := Lib.hid (HF.out p wr HB.out)
      have hst : (rs.take (k + 1)).any P = P p := by
        rw [List.take_add_one, hp, List.any_append, HN.out]
        simp
      have hin : P p = true → R = true := fun h => by
        rw [← HRR.out, List.any_eq_true]
        exact ⟨p, List.mem_of_getElem? hp, h⟩
      obtain ⟨a, b2⟩ := p
      simp only at c0 c1 KF
      have sB := HB.out.size
      cases hq : P (a, b2)
      · have HS := Lib.hid (hst.trans hq)
        rw [hq] at KF
        clear hcell hst hin hp hq
        go_wp2_with fail
        refine KF.out.mono ?_
        rintro e w1 ⟨rfl, hb⟩
        go_wp2_with fail
        go_roundw
        case rel => exact ⟨k + 1, by omega, by go_num, HS, Lib.hid (HB.out.trans (hb.mono sB))⟩
        case measure => simp [intOf]; omega
      · have hR1 := hin hq
        have HD : Hid (decide ((0 : Int) ≤ (k : Int)) = R) := Lib.hid (by rw [hR1]; exact decide_eq_true i0)
        rw [hq] at KF
        clear hcell hst hin hp hq hR1
        go_wp2_with fail
        refine KF.out.mono ?_
        rintro e w1 ⟨rfl, hb⟩
        go_wp2_with fail
        go_ret
        exact ⟨HP.out _ HD.out, HB.out.trans (hb.mono sB)⟩
    · obtain rfl : k = rs.length := by omega
      have HD : Hid (decide ((0 : Int) ≤ -1) = R) := Lib.hid (by
        have := HN.out
        rw [List.take_length, HRR.out] at this
        rw [this]
        decide)
      go_wp2_with fail
      go_ret
      exact ⟨HP.out _ HD.out, HB.out⟩

theorem any_rng (f : Nat) (lb : Array Value) (P : Int × Int → Bool) (eg : ∀ args w, (callFunc f args).run Tryz.prog w = .ok (.enter f args) w) (A : Option Addr) (rs : List (Int × Int)) (c : Nat) (w : World) (hf : RngFn f lb P w) (hr : RngIn w A rs) (hc : rs.length ≤ c) (hc2 : c ≤ 9223372036854775807) :
    Calls Tryz.prog 56 #[.slice A rs.length c, .func (.func f) #[] lb] w fun e w' => e = .returned (.bool (rs.any P)) ∧ Below w.heap.size w w' := by
  have K := Lib.hid (idx_rng f lb P eg A rs c w hf hr hc hc2)
  clear hf hr
  generalize rs.any P = R at *
  go_enter Tryz.func56, Tryz.ntmps56
  go_wp2_with fail
  refine K.out.mono ?_
  rintro e w1 ⟨⟨v, rfl, hv⟩, hb⟩
  have HV := Lib.hid hv
  clear hv
  go_wp2_with fail
  go_ret
  exact ⟨ret_bool HV.out, hb⟩
end Go.Proofs.YtkklemhhimcahaaGreatDoor
