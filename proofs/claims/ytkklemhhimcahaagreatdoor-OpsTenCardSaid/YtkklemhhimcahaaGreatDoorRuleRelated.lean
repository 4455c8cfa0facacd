/- rule.related of a fine rel. -/
import Derived.Test.YtkklemhhimcahaaGreatDoorRuleRanged
import Derived.Test.YtkklemhhimcahaaGreatDoorContRune
namespace Go.Proofs.YtkklemhhimcahaaGreatDoor
open Go.RowKit

theorem enc_low : ∀ c : UInt8, c.toNat < 128 → Utf8.encode (c.toNat : Int) = ⟨#[c]⟩ := all_u8 (by decide +kernel)

set_option maxRecDepth 100000 in
set_option maxHeartbeats 4000000 in
theorem rule_related (r : RelD) (w : World) (hP : Pow w) (h : r.fits w) (hf : r.c.fine = true) (hl : r.c.rs.length ≤ 7000000000000) (hJ : (Lib.join (r.c.rs.map rangedL) [44]).length ≤ 140737488355328) :
    Calls Tryz.prog 52 #[relV r.c.op r.c.md r.c.neg r.A r.c.rs.length r.n] w fun e w' => e = .returned (.string ⟨(relatedL r.c).toArray⟩) ∧ Below w.heap.size w w' := by
  obtain ⟨⟨op, md, neg, rs⟩, A, n⟩ := r
  obtain ⟨h1, h2, h3, h4, h5⟩ := h
  have hmd := fine_md hf
  have hop := fine_op hf
  simp only at h1 h2 h3 h4 h5 hmd hop hl hJ
  have KJ0 : ∀ W, Below w.heap.size w W → Calls Tryz.prog 84 #[.slice A rs.length n, .string ⟨#[44]⟩, .func (.func 85) #[] #[]] W fun e w' => e = .returned (.string ⟨(Lib.join (rs.map rangedL) [44]).toArray⟩) ∧ Below W.heap.size W w' := fun W hb =>
    joined_rng 85 #[] rangedL (enters_of Tryz.func85 (by kernel_rfl) rfl) A rs n ⟨#[44]⟩ W (fun p hp W' hb' => rule_ranged p W' ((hP.below hb).below hb') (h5 p hp).1 (h5 p hp).2) (h1.below hb) h2 hl hJ
  have KI := Lib.hid (fun W (hb : Below w.heap.size w W) => itoa_any md W (by omega) (by omega) (hP.below hb))
  have lI : (Lib.itoa md).length ≤ 100 := by have := Lib.itoa_length_le md (by omega) (by omega); omega
  have KJ := Lib.hid KJ0
  have he := enc_low op hop
  unfold relatedL
  simp only
  clear KJ0 hP h1 h5 hf
  generalize Lib.join (rs.map rangedL) [44] = J at *
  generalize Lib.itoa md = I at *
  have lJ := hJ
  clear hJ
  by_cases m0 : md = 0
  · rw [if_pos m0]
    subst m0
    cases neg
    · rw [if_neg (by decide)]
      have r0 : ∀ W : World, (Op.stringOp .add ⟨#[op]⟩ ⟨#[32, 61, 32]⟩).run Tryz.prog W = .ok (.string (⟨#[op]⟩ ++ ⟨#[32, 61, 32]⟩)) W := fun W => run_string_add_sum W _ _ (by show 1 + 3 ≤ _; omega)
      have r1 : ∀ W : World, (Op.stringOp .add (⟨#[op]⟩ ++ ⟨#[32, 61, 32]⟩) ⟨J.toArray⟩).run Tryz.prog W = .ok (.string ((⟨#[op]⟩ ++ ⟨#[32, 61, 32]⟩) ++ ⟨J.toArray⟩)) W := fun W => run_string_add_sum W _ _ (by rw [ByteArray.size_append]; show 1 + 3 + J.length ≤ _; omega)
      have HT : Hid (((⟨#[op]⟩ ++ ⟨#[32, 61, 32]⟩ ++ ⟨J.toArray⟩ : ByteArray)) = ⟨([op] ++ [] ++ [32, 61, 32] ++ J).toArray⟩) := Lib.hid (by apply ByteArray.ext; apply Array.ext'; simp)
      clear lI lJ
      go_enter Tryz.func52, Tryz.ntmps52
      go_wp2_with fail
      refine (KJ.out _ (by (repeat (first | with_reducible exact Below.refl _ _ | with_reducible refine bel_set ?_ ?_ | with_reducible refine bel_alloc ?_ ?_ | with_reducible refine Below.drew ?_ | with_reducible refine bel_drewN _ ?_ | with_reducible refine bel_call ?_ (by assumption) ?_)); all_goals (first | (simp; done) | omega | (simp; omega)))).mono ?_
      rintro e w2 ⟨rfl, hb2⟩
      go_wp2_with fail
      go_ret
      rw [HT.out]
      exact ⟨rfl, (by (repeat (first | with_reducible exact Below.refl _ _ | with_reducible refine bel_set ?_ ?_ | with_reducible refine bel_alloc ?_ ?_ | with_reducible refine Below.drew ?_ | with_reducible refine bel_drewN _ ?_ | with_reducible refine bel_call ?_ (by assumption) ?_)); all_goals (first | (simp; done) | omega | (simp; omega)))⟩
    · rw [if_pos rfl]
      have r0 : ∀ W : World, (Op.stringOp .add ⟨#[op]⟩ ⟨#[32, 33, 61, 32]⟩).run Tryz.prog W = .ok (.string (⟨#[op]⟩ ++ ⟨#[32, 33, 61, 32]⟩)) W := fun W => run_string_add_sum W _ _ (by show 1 + 4 ≤ _; omega)
      have r1 : ∀ W : World, (Op.stringOp .add (⟨#[op]⟩ ++ ⟨#[32, 33, 61, 32]⟩) ⟨J.toArray⟩).run Tryz.prog W = .ok (.string ((⟨#[op]⟩ ++ ⟨#[32, 33, 61, 32]⟩) ++ ⟨J.toArray⟩)) W := fun W => run_string_add_sum W _ _ (by rw [ByteArray.size_append]; show 1 + 4 + J.length ≤ _; omega)
      have HT : Hid (((⟨#[op]⟩ ++ ⟨#[32, 33, 61, 32]⟩ ++ ⟨J.toArray⟩ : ByteArray)) = ⟨([op] ++ [] ++ [32, 33, 61, 32] ++ J).toArray⟩) := Lib.hid (by apply ByteArray.ext; apply Array.ext'; simp)
      clear lI lJ
      go_enter Tryz.func52, Tryz.ntmps52
      go_wp2_with fail
      refine (KJ.out _ (by (repeat (first | with_reducible exact Below.refl _ _ | with_reducible refine bel_set ?_ ?_ | with_reducible refine bel_alloc ?_ ?_ | with_reducible refine Below.drew ?_ | with_reducible refine bel_drewN _ ?_ | with_reducible refine bel_call ?_ (by assumption) ?_)); all_goals (first | (simp; done) | omega | (simp; omega)))).mono ?_
      rintro e w2 ⟨rfl, hb2⟩
      go_wp2_with fail
      go_ret
      rw [HT.out]
      exact ⟨rfl, (by (repeat (first | with_reducible exact Below.refl _ _ | with_reducible refine bel_set ?_ ?_ | with_reducible refine bel_alloc ?_ ?_ | with_reducible refine Below.drew ?_ | with_reducible refine bel_drewN _ ?_ | with_reducible refine bel_call ?_ (by assumption) ?_)); all_goals (first | (simp; done) | omega | (simp; omega)))⟩
  · rw [if_neg m0]
    have m1 : ((md : Int) == 0) = false := by rw [beq_eq_false_iff_ne]; exact m0
    have m2 : ((md : Int) != 0) = true := by rw [bne_iff_ne]; exact m0
    cases neg
    · rw [if_neg (by decide)]
      have r0 : ∀ W : World, (Op.stringOp .add ⟨#[32, 37, 32]⟩ ⟨I.toArray⟩).run Tryz.prog W = .ok (.string (⟨#[32, 37, 32]⟩ ++ ⟨I.toArray⟩)) W := fun W => run_string_add_sum W _ _ (by show 3 + I.length ≤ _; omega)
      have r1 : ∀ W : World, (Op.stringOp .add ⟨#[op]⟩ (⟨#[32, 37, 32]⟩ ++ ⟨I.toArray⟩)).run Tryz.prog W = .ok (.string (⟨#[op]⟩ ++ (⟨#[32, 37, 32]⟩ ++ ⟨I.toArray⟩))) W := fun W => run_string_add_sum W _ _ (by rw [ByteArray.size_append]; show 1 + (3 + I.length) ≤ _; omega)
      have r2 : ∀ W : World, (Op.stringOp .add (⟨#[op]⟩ ++ (⟨#[32, 37, 32]⟩ ++ ⟨I.toArray⟩)) ⟨#[32, 61, 32]⟩).run Tryz.prog W = .ok (.string ((⟨#[op]⟩ ++ (⟨#[32, 37, 32]⟩ ++ ⟨I.toArray⟩)) ++ ⟨#[32, 61, 32]⟩)) W := fun W => run_string_add_sum W _ _ (by rw [ByteArray.size_append, ByteArray.size_append]; show 1 + (3 + I.length) + 3 ≤ _; omega)
      have r3 : ∀ W : World, (Op.stringOp .add (⟨#[op]⟩ ++ (⟨#[32, 37, 32]⟩ ++ ⟨I.toArray⟩) ++ ⟨#[32, 61, 32]⟩) ⟨J.toArray⟩).run Tryz.prog W = .ok (.string ((⟨#[op]⟩ ++ (⟨#[32, 37, 32]⟩ ++ ⟨I.toArray⟩) ++ ⟨#[32, 61, 32]⟩) ++ ⟨J.toArray⟩)) W := fun W => run_string_add_sum W _ _ (by rw [ByteArray.size_append, ByteArray.size_append, ByteArray.size_append]; show 1 + (3 + I.length) + 3 + J.length ≤ _; omega)
      have HT : Hid (((⟨#[op]⟩ ++ (⟨#[32, 37, 32]⟩ ++ ⟨I.toArray⟩) ++ ⟨#[32, 61, 32]⟩ ++ ⟨J.toArray⟩ : ByteArray)) = ⟨([op] ++ ([32, 37, 32] ++ I) ++ [32, 61, 32] ++ J).toArray⟩) := Lib.hid (by apply ByteArray.ext; apply Array.ext'; simp)
      clear lI lJ
      go_enter Tryz.func52, Tryz.ntmps52
      go_wp2_with fail
      refine (KI.out _ (by (repeat (first | with_reducible exact Below.refl _ _ | with_reducible refine bel_set ?_ ?_ | with_reducible refine bel_alloc ?_ ?_ | with_reducible refine Below.drew ?_ | with_reducible refine bel_drewN _ ?_ | with_reducible refine bel_call ?_ (by assumption) ?_)); all_goals (first | (simp; done) | omega | (simp; omega)))).mono ?_
      rintro e w1 ⟨rfl, hb1⟩
      have d2 : w1.cell? ⟨w.heap.size, 2, none⟩ = some (.bool false) := carry hb1 (by go_simp)
      have d3 : w1.cell? ⟨w.heap.size, 3, none⟩ = some (.slice A rs.length n) := carry hb1 (by go_simp)
      have hbw : Below w.heap.size w w1 := (by (repeat (first | with_reducible exact Below.refl _ _ | with_reducible refine bel_set ?_ ?_ | with_reducible refine bel_alloc ?_ ?_ | with_reducible refine Below.drew ?_ | with_reducible refine bel_drewN _ ?_ | with_reducible refine bel_call ?_ (by assumption) ?_)); all_goals (first | (simp; done) | omega | (simp; omega)))
      clear hb1
      go_wp2_with fail
      refine (KJ.out _ hbw).mono ?_
      rintro e w2 ⟨rfl, hb2⟩
      go_wp2_with fail
      go_ret
      rw [HT.out]
      exact ⟨rfl, hbw.trans (hb2.mono hbw.size)⟩
    · rw [if_pos rfl]
      have r0 : ∀ W : World, (Op.stringOp .add ⟨#[32, 37, 32]⟩ ⟨I.toArray⟩).run Tryz.prog W = .ok (.string (⟨#[32, 37, 32]⟩ ++ ⟨I.toArray⟩)) W := fun W => run_string_add_sum W _ _ (by show 3 + I.length ≤ _; omega)
      have r1 : ∀ W : World, (Op.stringOp .add ⟨#[op]⟩ (⟨#[32, 37, 32]⟩ ++ ⟨I.toArray⟩)).run Tryz.prog W = .ok (.string (⟨#[op]⟩ ++ (⟨#[32, 37, 32]⟩ ++ ⟨I.toArray⟩))) W := fun W => run_string_add_sum W _ _ (by rw [ByteArray.size_append]; show 1 + (3 + I.length) ≤ _; omega)
      have r2 : ∀ W : World, (Op.stringOp .add (⟨#[op]⟩ ++ (⟨#[32, 37, 32]⟩ ++ ⟨I.toArray⟩)) ⟨#[32, 33, 61, 32]⟩).run Tryz.prog W = .ok (.string ((⟨#[op]⟩ ++ (⟨#[32, 37, 32]⟩ ++ ⟨I.toArray⟩)) ++ ⟨#[32, 33, 61, 32]⟩)) W := fun W => run_string_add_sum W _ _ (by rw [ByteArray.size_append, ByteArray.size_append]; show 1 + (3 + I.length) + 4 ≤ _; omega)
      have r3 : ∀ W : World, (Op.stringOp .add (⟨#[op]⟩ ++ (⟨#[32, 37, 32]⟩ ++ ⟨I.toArray⟩) ++ ⟨#[32, 33, 61, 32]⟩) ⟨J.toArray⟩).run Tryz.prog W = .ok (.string ((⟨#[op]⟩ ++ (⟨#[32, 37, 32]⟩ ++ ⟨I.toArray⟩) ++ ⟨#[32, 33, 61, 32]⟩) ++ ⟨J.toArray⟩)) W := fun W => run_string_add_sum W _ _ (by rw [ByteArray.size_append, ByteArray.size_append, ByteArray.size_append]; show 1 + (3 + I.length) + 4 + J.length ≤ _; omega)
      have HT : Hid (((⟨#[op]⟩ ++ (⟨#[32, 37, 32]⟩ ++ ⟨I.toArray⟩) ++ ⟨#[32, 33, 61, 32]⟩ ++ ⟨J.toArray⟩ : ByteArray)) = ⟨([op] ++ ([32, 37, 32] ++ I) ++ [32, 33, 61, 32] ++ J).toArray⟩) := Lib.hid (by apply ByteArray.ext; apply Array.ext'; simp)
      clear lI lJ
      go_enter Tryz.func52, Tryz.ntmps52
      go_wp2_with fail
      refine (KI.out _ (by (repeat (first | with_reducible exact Below.refl _ _ | with_reducible refine bel_set ?_ ?_ | with_reducible refine bel_alloc ?_ ?_ | with_reducible refine Below.drew ?_ | with_reducible refine bel_drewN _ ?_ | with_reducible refine bel_call ?_ (by assumption) ?_)); all_goals (first | (simp; done) | omega | (simp; omega)))).mono ?_
      rintro e w1 ⟨rfl, hb1⟩
      have d2 : w1.cell? ⟨w.heap.size, 2, none⟩ = some (.bool true) := carry hb1 (by go_simp)
      have d3 : w1.cell? ⟨w.heap.size, 3, none⟩ = some (.slice A rs.length n) := carry hb1 (by go_simp)
      have hbw : Below w.heap.size w w1 := (by (repeat (first | with_reducible exact Below.refl _ _ | with_reducible refine bel_set ?_ ?_ | with_reducible refine bel_alloc ?_ ?_ | with_reducible refine Below.drew ?_ | with_reducible refine bel_drewN _ ?_ | with_reducible refine bel_call ?_ (by assumption) ?_)); all_goals (first | (simp; done) | omega | (simp; omega)))
      clear hb1
      go_wp2_with fail
      refine (KJ.out _ hbw).mono ?_
      rintro e w2 ⟨rfl, hb2⟩
      go_wp2_with fail
      go_ret
      rw [HT.out]
      exact ⟨rfl, hbw.trans (hb2.mono hbw.size)⟩
end Go.Proofs.YtkklemhhimcahaaGreatDoor
