/- rule.ranged. -/
import Derived.Test.YtkklemhhimcahaaGreatDoorRuleJoined
import Derived.Test.YtkklemhhimcahaaGreatDoorItoa
import Derived.Lib.ItoaLen
import Derived.Laws.Concat
import Derived.Deep.RegionHeld3
namespace Go.Proofs.YtkklemhhimcahaaGreatDoor
open Go.RowKit

set_option maxHeartbeats 2000000 in
theorem rule_ranged (p : Int × Int) (w : World) (hP : Pow w) (h1 : -9223372036854775808 ≤ p.1 ∧ p.1 ≤ 9223372036854775807) (h2 : -9223372036854775808 ≤ p.2 ∧ p.2 ≤ 9223372036854775807) :
    Calls Tryz.prog 85 #[.agg #[.int .i64 p.1, .int .i64 p.2]] w fun e w' => e = .returned (.string ⟨(rangedL p).toArray⟩) ∧ Below w.heap.size w w' := by
  obtain ⟨a, b⟩ := p
  unfold rangedL
  simp only at h1 h2 ⊢
  have HP := Lib.hid hP
  have la : (Lib.itoa a).length ≤ 100 := by have := Lib.itoa_length_le a h1.1 h1.2; omega
  have lb : (Lib.itoa b).length ≤ 100 := by have := Lib.itoa_length_le b h2.1 h2.2; omega
  have KA := Lib.hid (fun W (hb : Below w.heap.size w W) => itoa_any a W h1.1 h1.2 (HP.out.below hb))
  have KB := Lib.hid (fun W (hb : Below w.heap.size w W) => itoa_any b W h2.1 h2.2 (HP.out.below hb))
  clear hP HP
  by_cases he : a = b
  · subst he
    rw [if_pos rfl]
    generalize Lib.itoa a = A at *
    go_enter Tryz.func85, Tryz.ntmps85
    go_wp2_with fail
    refine (KA.out _ (by (repeat (first | with_reducible exact Below.refl _ _ | with_reducible refine bel_set ?_ ?_ | with_reducible refine bel_alloc ?_ ?_ | with_reducible refine Below.drew ?_ | with_reducible refine bel_drewN _ ?_ | with_reducible refine bel_call ?_ (by assumption) ?_)); all_goals (first | (simp; done) | omega | (simp; omega)))).mono ?_
    rintro e w1 ⟨rfl, hb⟩
    go_wp2_with fail
    go_ret
    exact ⟨rfl, (by (repeat (first | with_reducible exact Below.refl _ _ | with_reducible refine bel_set ?_ ?_ | with_reducible refine bel_alloc ?_ ?_ | with_reducible refine Below.drew ?_ | with_reducible refine bel_drewN _ ?_ | with_reducible refine bel_call ?_ (by assumption) ?_)); all_goals (first | (simp; done) | omega | (simp; omega)))⟩
  · rw [if_neg he]
    generalize Lib.itoa a = A at *
    generalize Lib.itoa b = B at *
    have n1 : ((a : Int) == b) = false := by rw [beq_eq_false_iff_ne]; exact he
    have r1 : ∀ W : World, (Op.stringOp .add ⟨A.toArray⟩ ⟨#[46, 46]⟩).run Tryz.prog W = .ok (.string (⟨A.toArray⟩ ++ ⟨#[46, 46]⟩)) W := fun W => run_string_add_sum W _ _ (by show A.length + 2 ≤ _; omega)
    have r2 : ∀ W : World, (Op.stringOp .add (⟨A.toArray⟩ ++ ⟨#[46, 46]⟩) ⟨B.toArray⟩).run Tryz.prog W = .ok (.string (⟨A.toArray⟩ ++ ⟨#[46, 46]⟩ ++ ⟨B.toArray⟩)) W := fun W => run_string_add_sum W _ _ (by rw [ByteArray.size_append]; show A.length + 2 + B.length ≤ _; omega)
    have HT : Hid ((⟨A.toArray⟩ : ByteArray) ++ ⟨#[46, 46]⟩ ++ ⟨B.toArray⟩ = ⟨(A ++ [46, 46] ++ B).toArray⟩) := Lib.hid (by
      apply ByteArray.ext
      apply Array.ext'
      simp)
    clear la lb he
    go_enter Tryz.func85, Tryz.ntmps85
    go_wp2_with fail
    have HS : Hid (Below w.heap.size w (w.alloc (.cells #[.int .i64 a, .int .i64 b] 103))) := Lib.hid (by (repeat (first | with_reducible exact Below.refl _ _ | with_reducible refine bel_set ?_ ?_ | with_reducible refine bel_alloc ?_ ?_ | with_reducible refine Below.drew ?_ | with_reducible refine bel_drewN _ ?_ | with_reducible refine bel_call ?_ (by assumption) ?_)); all_goals (first | (simp; done) | omega | (simp; omega)))
    go_region_held3 (fun w' => w'.cell? ⟨w.heap.size, 0, none⟩ = some (.int .i64 a) ∧ w'.cell? ⟨w.heap.size, 1, none⟩ = some (.int .i64 b))
      (first | go_keep | (go_split_ands; refine ⟨?_, ?_⟩ <;> first | assumption | exact carry (by assumption) (by go_simp) | exact carry (by assumption) (by assumption) | exact carry (by assumption) (carry (by assumption) (by go_simp))))
      (first | (go_at_call 35; ((with_reducible refine (KA.out _ ?_).mono ?_); (first | exact HS.out | exact HS.out.drew | exact Hid.out (by assumption) | exact Below.drew (Hid.out (by assumption)) | exact bel_drewN _ (Hid.out (by assumption)))); rintro e wx ⟨rfl, hbx⟩; have HBX : Hid (Below w.heap.size w wx) := Lib.hid (by first | exact bel_call HS.out hbx (by simp) | exact bel_call HS.out.drew hbx (by simp) | exact bel_call (Hid.out (by assumption)) hbx (Below.size (Hid.out (by assumption)))); have hbz := hbx; clear hbx) | (go_at_call 35; ((with_reducible refine (KB.out _ ?_).mono ?_); (first | exact HS.out | exact HS.out.drew | exact Hid.out (by assumption) | exact Below.drew (Hid.out (by assumption)) | exact bel_drewN _ (Hid.out (by assumption)))); rintro e wx ⟨rfl, hbx⟩; have HBX : Hid (Below w.heap.size w wx) := Lib.hid (by first | exact bel_call HS.out hbx (by simp) | exact bel_call HS.out.drew hbx (by simp) | exact bel_call (Hid.out (by assumption)) hbx (Below.size (Hid.out (by assumption)))); have hbz := hbx; clear hbx))
    all_goals go_wp2_with fail
    all_goals go_ret
    all_goals rw [HT.out]
    all_goals exact ⟨rfl, Hid.out (by assumption)⟩
end Go.Proofs.YtkklemhhimcahaaGreatDoor
