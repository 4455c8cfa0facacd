/- rule.fine and rule.check. -/
import Derived.Test.YtkklemhhimcahaaGreatDoorRuleFine
namespace Go.Proofs.YtkklemhhimcahaaGreatDoor
open Go.RowKit

set_option maxHeartbeats 2000000 in
theorem rule_fine (r : RelD) (w : World) (h : r.fits w) :
    Calls Tryz.prog 53 #[relV r.c.op r.c.md r.c.neg r.A r.c.rs.length r.n] w fun e w' => e = .returned (.bool r.c.fine) ∧ Below w.heap.size w w' := by
  obtain ⟨⟨op, md, neg, rs⟩, A, n⟩ := r
  obtain ⟨h1, h2, h3, h4, _⟩ := h
  simp only at h1 h2 h3 h4
  have KC := Lib.hid (cont_op op)
  have KA := Lib.hid (fun W (hb : Below w.heap.size w W) => any_rng 87 #[] rngBad (enters_of Tryz.func87 (by kernel_rfl) rfl) A rs n W (fun p W' _ => rng_bad p W') (h1.below hb) h2 h3)
  have ho : op.toNat < 256 := op.toNat_lt
  have hf : (RelC.mk op md neg rs).fine = (opsL.contains op && !decide (md < 0) && !decide (1000000 < md) && !decide (rs.length = 0) && !rs.any rngBad) := rfl
  simp only
  rw [hf]
  clear h1 hf
  generalize opsL.contains op = q at *
  generalize rs.any rngBad = R at *
  cases q
  · simp only [Bool.false_and]
    go_enter Tryz.func53, Tryz.ntmps53
    go_wp2_with fail
    refine (KC.out _).mono ?_
    rintro e w1 ⟨rfl, m, rfl⟩
    go_wp2_with fail
    go_ret
    exact ⟨rfl, (by (repeat (first | with_reducible exact Below.refl _ _ | with_reducible refine bel_set ?_ ?_ | with_reducible refine bel_alloc ?_ ?_ | with_reducible refine Below.drew ?_ | with_reducible refine bel_drewN _ ?_ | with_reducible refine bel_call ?_ (by assumption) ?_)); all_goals (first | (simp; done) | omega | (simp; omega)))⟩
  · by_cases m0 : md < 0
    · rw [decide_eq_true m0]
      simp only [Bool.true_and, Bool.not_true, Bool.false_and]
      go_enter Tryz.func53, Tryz.ntmps53
      go_wp2_with fail
      refine (KC.out _).mono ?_
      rintro e w1 ⟨rfl, m, rfl⟩
      go_wp2_with fail
      go_ret
      exact ⟨rfl, (by (repeat (first | with_reducible exact Below.refl _ _ | with_reducible refine bel_set ?_ ?_ | with_reducible refine bel_alloc ?_ ?_ | with_reducible refine Below.drew ?_ | with_reducible refine bel_drewN _ ?_ | with_reducible refine bel_call ?_ (by assumption) ?_)); all_goals (first | (simp; done) | omega | (simp; omega)))⟩
    · by_cases m1 : 1000000 < md
      · rw [decide_eq_false m0, decide_eq_true m1]
        simp only [Bool.true_and, Bool.not_true, Bool.not_false, Bool.false_and]
        go_enter Tryz.func53, Tryz.ntmps53
        go_wp2_with fail
        refine (KC.out _).mono ?_
        rintro e w1 ⟨rfl, m, rfl⟩
        go_wp2_with fail
        go_ret
        exact ⟨rfl, (by (repeat (first | with_reducible exact Below.refl _ _ | with_reducible refine bel_set ?_ ?_ | with_reducible refine bel_alloc ?_ ?_ | with_reducible refine Below.drew ?_ | with_reducible refine bel_drewN _ ?_ | with_reducible refine bel_call ?_ (by assumption) ?_)); all_goals (first | (simp; done) | omega | (simp; omega)))⟩
      · by_cases l0 : rs.length = 0
        · rw [decide_eq_false m0, decide_eq_false m1, decide_eq_true l0]
          simp only [Bool.true_and, Bool.not_true, Bool.not_false, Bool.false_and]
          rw [l0]
          go_enter Tryz.func53, Tryz.ntmps53
          go_wp2_with fail
          refine (KC.out _).mono ?_
          rintro e w1 ⟨rfl, m, rfl⟩
          go_wp2_with fail
          go_ret
          exact ⟨rfl, (by (repeat (first | with_reducible exact Below.refl _ _ | with_reducible refine bel_set ?_ ?_ | with_reducible refine bel_alloc ?_ ?_ | with_reducible refine Below.drew ?_ | with_reducible refine bel_drewN _ ?_ | with_reducible refine bel_call ?_ (by assumption) ?_)); all_goals (first | (simp; done) | omega | (simp; omega)))⟩
        · rw [decide_eq_false m0, decide_eq_false m1, decide_eq_false l0]
          simp only [Bool.true_and, Bool.not_true, Bool.not_false, Bool.false_and]
          have l1 : ((rs.length : Int) == 0) = false := by rw [beq_eq_false_iff_ne]; omega
          go_enter Tryz.func53, Tryz.ntmps53
          go_wp2_with fail
          refine (KC.out _).mono ?_
          rintro e w1 ⟨rfl, m, rfl⟩
          go_wp2_with fail
          refine (KA.out _ (by (repeat (first | with_reducible exact Below.refl _ _ | with_reducible refine bel_set ?_ ?_ | with_reducible refine bel_alloc ?_ ?_ | with_reducible refine Below.drew ?_ | with_reducible refine bel_drewN _ ?_ | with_reducible refine bel_call ?_ (by assumption) ?_)); all_goals (first | (simp; done) | omega | (simp; omega)))).mono ?_
          rintro e w2 ⟨rfl, hb⟩
          go_wp2_with fail
          go_ret
          exact ⟨rfl, (by (repeat (first | with_reducible exact Below.refl _ _ | with_reducible refine bel_set ?_ ?_ | with_reducible refine bel_alloc ?_ ?_ | with_reducible refine Below.drew ?_ | with_reducible refine bel_drewN _ ?_ | with_reducible refine bel_call ?_ (by assumption) ?_)); all_goals (first | (simp; done) | omega | (simp; omega)))⟩
end Go.Proofs.YtkklemhhimcahaaGreatDoor
