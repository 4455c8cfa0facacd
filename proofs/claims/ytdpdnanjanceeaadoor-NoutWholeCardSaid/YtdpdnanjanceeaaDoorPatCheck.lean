/- npat.Check. -/
import Derived.Test.YtdpdnanjanceeaaDoorTrimSet
import Derived.Test.YtdpdnanjanceeaaDoorTagCheck
namespace Go.Proofs.YtdpdnanjanceeaaDoor
open Go.RowKit

abbrev patV (p q : ByteArray) (mi mf xf g g2 : Int) : Value := .agg #[.string p, .string q, .int .i64 mi, .int .i64 mf, .int .i64 xf, .int .i64 g, .int .i64 g2]
def PatIn (mi mf xf g g2 : Int) : Prop := 1 ≤ mi ∧ mi ≤ 9 ∧ 0 ≤ xf ∧ xf ≤ 6 ∧ 0 ≤ mf ∧ mf ≤ xf ∧ 0 ≤ g ∧ g ≤ 4 ∧ 0 ≤ g2 ∧ g2 ≤ 4
instance (mi mf xf g g2 : Int) : Decidable (PatIn mi mf xf g g2) := by unfold PatIn; exact inferInstance
def patErr (p q : ByteArray) (mi mf xf g g2 : Int) : Int :=
  if affB p = false ∨ affB q = false then 3 else if ¬ PatIn mi mf xf g g2 then 1 else if g2 ≠ 0 ∧ g = 0 then 3 else 0

set_option maxHeartbeats 2000000 in
theorem pat_check_a (p q : ByteArray) (mi mf xf g g2 : Int) (w : World) (hp : p.size ≤ 9223372036854775807) (hq : q.size ≤ 9223372036854775807) (h : affB p = false ∨ affB q = false) :
    Calls Tryd.prog 67 #[patV p q mi mf xf g g2] w fun e w' => e = .returned (errT 3) ∧ Below w.heap.size w w' := by
  have KP := Lib.hid (fun W => npat_affix p W hp)
  have KQ := Lib.hid (fun W => npat_affix q W hq)
  cases h1 : affB p
  · rw [h1] at KP
    clear h KQ
    go_enter Tryd.func67, Tryd.ntmps67
    go_wp2_with fail
    refine (KP.out _).mono ?_
    rintro e w1 ⟨rfl, hb1⟩
    have s1 := hb1.size
    simp at s1
    go_wp2_with fail
    go_ret
    exact ⟨rfl, (by (repeat (first | with_reducible exact Below.refl _ _ | with_reducible refine bel_set ?_ ?_ | with_reducible refine bel_alloc ?_ ?_ | with_reducible refine Below.drew ?_ | with_reducible refine bel_drewN _ ?_ | with_reducible refine bel_call ?_ (by assumption) ?_)); all_goals (first | (simp; done) | omega | (simp; omega)))⟩
  · have h2 : affB q = false := by rcases h with h | h; (rw [h1] at h; cases h); exact h
    rw [h1] at KP
    rw [h2] at KQ
    clear h h1 h2
    go_enter Tryd.func67, Tryd.ntmps67
    go_wp2_with fail
    refine (KP.out _).mono ?_
    rintro e w1 ⟨rfl, hb1⟩
    have s1 := hb1.size
    simp at s1
    have c1 : w1.cell? ⟨w.heap.size, 1, none⟩ = some (.string q) := carry hb1 (by rw [World.cell?_alloc_at _ _ _ _ rfl]; rfl)
    go_wp2_with fail
    refine (KQ.out _).mono ?_
    rintro e w2 ⟨rfl, hb2⟩
    have s2 := hb2.size
    go_wp2_with fail
    go_ret
    exact ⟨rfl, (by (repeat (first | with_reducible exact Below.refl _ _ | with_reducible refine bel_set ?_ ?_ | with_reducible refine bel_alloc ?_ ?_ | with_reducible refine Below.drew ?_ | with_reducible refine bel_drewN _ ?_ | with_reducible refine bel_call ?_ (by assumption) ?_)); all_goals (first | (simp; done) | omega | (simp; omega)))⟩

set_option maxHeartbeats 4000000 in
theorem pat_check_b (p q : ByteArray) (mi mf xf g g2 : Int) (w : World) (hp : p.size ≤ 9223372036854775807) (hq : q.size ≤ 9223372036854775807) (h1 : affB p = true) (h2 : affB q = true) (E : Int)
    (hE : ¬ PatIn mi mf xf g g2 ∧ E = 1 ∨ PatIn mi mf xf g g2 ∧ g2 ≠ 0 ∧ g = 0 ∧ E = 3 ∨ PatIn mi mf xf g g2 ∧ ¬ (g2 ≠ 0 ∧ g = 0) ∧ E = 0) :
    Calls Tryd.prog 67 #[patV p q mi mf xf g g2] w fun e w' => e = .returned (errOf E) ∧ Below w.heap.size w w' := by
  have KP := Lib.hid (fun W => npat_affix p W hp)
  have KQ := Lib.hid (fun W => npat_affix q W hq)
  rw [h1] at KP
  rw [h2] at KQ
  clear h1 h2
  have HE := Lib.hid hE
  clear hE
  go_enter Tryd.func67, Tryd.ntmps67
  go_wp2_with fail
  refine (KP.out _).mono ?_
  rintro e w1 ⟨rfl, hb1⟩
  have s1 := hb1.size
  simp at s1
  have c1 : w1.cell? ⟨w.heap.size, 1, none⟩ = some (.string q) := carry hb1 (by rw [World.cell?_alloc_at _ _ _ _ rfl]; rfl)
  have d2 : w1.cell? ⟨w.heap.size, 2, none⟩ = some (.int .i64 mi) := carry hb1 (by rw [World.cell?_alloc_at _ _ _ _ rfl]; rfl)
  have d3 : w1.cell? ⟨w.heap.size, 3, none⟩ = some (.int .i64 mf) := carry hb1 (by rw [World.cell?_alloc_at _ _ _ _ rfl]; rfl)
  have d4 : w1.cell? ⟨w.heap.size, 4, none⟩ = some (.int .i64 xf) := carry hb1 (by rw [World.cell?_alloc_at _ _ _ _ rfl]; rfl)
  have d5 : w1.cell? ⟨w.heap.size, 5, none⟩ = some (.int .i64 g) := carry hb1 (by rw [World.cell?_alloc_at _ _ _ _ rfl]; rfl)
  have d6 : w1.cell? ⟨w.heap.size, 6, none⟩ = some (.int .i64 g2) := carry hb1 (by rw [World.cell?_alloc_at _ _ _ _ rfl]; rfl)
  go_wp2_with fail
  refine (KQ.out _).mono ?_
  rintro e w2 ⟨rfl, hb2⟩
  have s2 := hb2.size
  have e2 : w2.cell? ⟨w.heap.size, 2, none⟩ = some (.int .i64 mi) := carry hb2 d2
  have e3 : w2.cell? ⟨w.heap.size, 3, none⟩ = some (.int .i64 mf) := carry hb2 d3
  have e4 : w2.cell? ⟨w.heap.size, 4, none⟩ = some (.int .i64 xf) := carry hb2 d4
  have e5 : w2.cell? ⟨w.heap.size, 5, none⟩ = some (.int .i64 g) := carry hb2 d5
  have e6 : w2.cell? ⟨w.heap.size, 6, none⟩ = some (.int .i64 g2) := carry hb2 d6
  rcases HE.out with ⟨h, rfl⟩ | ⟨⟨a1, a2, a3, a4, a5, a6, a7, a8, a9, a10⟩, b1, b2, rfl⟩ | ⟨⟨a1, a2, a3, a4, a5, a6, a7, a8, a9, a10⟩, b1, rfl⟩
  · have HN := Lib.hid h
    clear h HE
    go_wp2_with fail
    all_goals (try (exfalso; exact HN.out ⟨by omega, by omega, by omega, by omega, by omega, by omega, by omega, by omega, by omega, by omega⟩))
    all_goals go_ret
    all_goals exact ⟨rfl, (by (repeat (first | with_reducible exact Below.refl _ _ | with_reducible refine bel_set ?_ ?_ | with_reducible refine bel_alloc ?_ ?_ | with_reducible refine Below.drew ?_ | with_reducible refine bel_drewN _ ?_ | with_reducible refine bel_call ?_ (by assumption) ?_)); all_goals (first | (simp; done) | omega | (simp; omega)))⟩
  · clear HE
    have m1 : ¬ mi < 1 := by omega
    have m2 : ¬ 9 < mi := by omega
    have m3 : ¬ xf < 0 := by omega
    have m4 : ¬ 6 < xf := by omega
    have m5 : ¬ mf < 0 := by omega
    have m6 : ¬ xf < mf := by omega
    have m7 : ¬ g < 0 := by omega
    have m8 : ¬ 4 < g := by omega
    have m9 : ¬ g2 < 0 := by omega
    have m10 : ¬ 4 < g2 := by omega
    go_wp2_with fail
    go_ret
    exact ⟨rfl, (by (repeat (first | with_reducible exact Below.refl _ _ | with_reducible refine bel_set ?_ ?_ | with_reducible refine bel_alloc ?_ ?_ | with_reducible refine Below.drew ?_ | with_reducible refine bel_drewN _ ?_ | with_reducible refine bel_call ?_ (by assumption) ?_)); all_goals (first | (simp; done) | omega | (simp; omega)))⟩
  · clear HE
    have m1 : ¬ mi < 1 := by omega
    have m2 : ¬ 9 < mi := by omega
    have m3 : ¬ xf < 0 := by omega
    have m4 : ¬ 6 < xf := by omega
    have m5 : ¬ mf < 0 := by omega
    have m6 : ¬ xf < mf := by omega
    have m7 : ¬ g < 0 := by omega
    have m8 : ¬ 4 < g := by omega
    have m9 : ¬ g2 < 0 := by omega
    have m10 : ¬ 4 < g2 := by omega
    clear a1 a2 a3 a4 a5 a6 a7 a8 a9 a10
    by_cases hz : g2 = 0
    · subst hz
      clear b1
      go_wp2_with fail
      go_ret
      exact ⟨rfl, (by (repeat (first | with_reducible exact Below.refl _ _ | with_reducible refine bel_set ?_ ?_ | with_reducible refine bel_alloc ?_ ?_ | with_reducible refine Below.drew ?_ | with_reducible refine bel_drewN _ ?_ | with_reducible refine bel_call ?_ (by assumption) ?_)); all_goals (first | (simp; done) | omega | (simp; omega)))⟩
    · have hg : ¬ g = 0 := fun hg => b1 ⟨hz, hg⟩
      clear b1
      go_wp2_with fail
      all_goals (first | (rename_i hh; exfalso; simp at hh; omega) | skip)
      go_ret
      exact ⟨rfl, (by (repeat (first | with_reducible exact Below.refl _ _ | with_reducible refine bel_set ?_ ?_ | with_reducible refine bel_alloc ?_ ?_ | with_reducible refine Below.drew ?_ | with_reducible refine bel_drewN _ ?_ | with_reducible refine bel_call ?_ (by assumption) ?_)); all_goals (first | (simp; done) | omega | (simp; omega)))⟩

theorem pat_check (p q : ByteArray) (mi mf xf g g2 : Int) (w : World) (hp : p.size ≤ 9223372036854775807) (hq : q.size ≤ 9223372036854775807) :
    Calls Tryd.prog 67 #[patV p q mi mf xf g g2] w fun e w' => e = .returned (errOf (patErr p q mi mf xf g g2)) ∧ Below w.heap.size w w' := by
  unfold patErr
  by_cases h : affB p = false ∨ affB q = false
  · rw [if_pos h]
    exact pat_check_a p q mi mf xf g g2 w hp hq h
  · rw [if_neg h]
    have h1 : affB p = true := by cases hh : affB p; exact absurd (.inl hh) h; rfl
    have h2 : affB q = true := by cases hh : affB q; exact absurd (.inr hh) h; rfl
    apply pat_check_b p q mi mf xf g g2 w hp hq h1 h2
    by_cases hi : PatIn mi mf xf g g2
    · rw [if_neg (by simpa using hi)]
      by_cases hg : g2 ≠ 0 ∧ g = 0
      · rw [if_pos hg]; exact .inr (.inl ⟨hi, hg.1, hg.2, rfl⟩)
      · rw [if_neg hg]; exact .inr (.inr ⟨hi, hg, rfl⟩)
    · rw [if_pos hi]; exact .inl ⟨hi, rfl⟩
end Go.Proofs.YtdpdnanjanceeaaDoor
