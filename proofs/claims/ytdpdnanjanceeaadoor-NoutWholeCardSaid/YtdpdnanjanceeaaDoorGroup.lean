/- group.digits, group.check. -/
import Derived.Test.YtdpdnanjanceeaaDoorTrimDigits
namespace Go.Proofs.YtdpdnanjanceeaaDoor
open Go.RowKit

def digitsB (s : ByteArray) : Bool := !(s.toList == []) && s.data.toList.all (digs.data.toList.contains ·)

theorem trim_empty {s t u : ByteArray} {P : UInt8 → Bool} (h1 : TrimR s t P) (h2 : TrimL t u P) : (u.data.toList = [] ↔ s.data.toList.all P = true) := by
  obtain ⟨r, e1, r1, c1⟩ := h1
  obtain ⟨q, e2, q1, c2⟩ := h2
  rw [e1, e2]
  constructor
  · intro hu
    rw [hu, List.append_nil, List.all_append, q1, r1]; rfl
  · intro hall
    rcases c2 with h | ⟨c, l, h, hc⟩
    · exact h
    · rw [h] at hall
      simp only [List.all_append, List.all_cons, hc, Bool.false_and, Bool.and_false] at hall
      cases hall

theorem group_digits (s : ByteArray) (w : World) (hs : s.size ≤ 9000000000000000000) :
    Calls Tryd.prog 64 #[.string s] w fun e w' => e = .returned (.bool (digitsB s)) ∧ Below w.heap.size w w' := by
  go_enter Tryd.func64, Tryd.ntmps64
  by_cases h0 : s.size = 0
  · have he : s = ⟨#[]⟩ := by
      apply ByteArray.ext
      exact Array.eq_empty_of_size_eq_zero h0
    subst he
    have hd : digitsB ⟨#[]⟩ = false := by unfold digitsB; rw [Lib.toList_data]; rfl
    have HD := Lib.hid hd
    clear hd
    go_wp2_with fail
    go_ret
    exact ⟨ret_bool HD.out.symm, (by (repeat (first | with_reducible exact Below.refl _ _ | with_reducible refine bel_set ?_ ?_ | with_reducible refine bel_alloc ?_ ?_ | with_reducible refine Below.drew ?_ | with_reducible refine bel_drewN _ ?_ | with_reducible refine bel_call ?_ (by assumption) ?_)); all_goals (first | (simp; done) | omega | (simp; omega)))⟩
  · have n1 : ¬ s.toList = [] := by
      rw [Lib.toList_data]
      intro h
      have : s.data.toList.length = s.size := by simp
      rw [h] at this
      simp at this
      omega
    have n2 : s.toList.isEmpty = false := by cases h : s.toList with | nil => exact absurd h n1 | cons x l => rfl
    go_wp2_with fail
    refine (trim_digits s w (by omega) hs).mono ?_
    rintro e w1 ⟨t, u, rfl, hR, hL, hb1⟩
    have hiff := trim_empty hR hL
    have hd : digitsB s = s.data.toList.all (digs.data.toList.contains ·) := by
      unfold digitsB
      have : (s.toList == []) = false := by simp [n1]
      rw [this]; rfl
    cases hA : s.data.toList.all (digs.data.toList.contains ·)
    · have m1 : ¬ u.toList = [] := by
        rw [Lib.toList_data]
        intro h
        rw [hiff.1 h] at hA
        cases hA
      have m2 : u.toList.isEmpty = false := by cases h : u.toList with | nil => exact absurd h m1 | cons x l => rfl
      have HD := Lib.hid (hd.trans hA)
      clear hR hL hiff hA hd
      go_wp2_with fail
      go_ret
      exact ⟨ret_bool HD.out.symm, (by (repeat (first | with_reducible exact Below.refl _ _ | with_reducible refine bel_set ?_ ?_ | with_reducible refine bel_alloc ?_ ?_ | with_reducible refine Below.drew ?_ | with_reducible refine bel_drewN _ ?_ | with_reducible refine bel_call ?_ (by assumption) ?_)); all_goals (first | (simp; done) | omega | (simp; omega)))⟩
    · have m1 : u.toList = [] := by rw [Lib.toList_data]; exact hiff.2 hA
      have HD := Lib.hid (hd.trans hA)
      clear hR hL hiff hA hd
      go_wp2_with fail
      go_ret
      exact ⟨ret_bool HD.out.symm, (by (repeat (first | with_reducible exact Below.refl _ _ | with_reducible refine bel_set ?_ ?_ | with_reducible refine bel_alloc ?_ ?_ | with_reducible refine Below.drew ?_ | with_reducible refine bel_drewN _ ?_ | with_reducible refine bel_call ?_ (by assumption) ?_)); all_goals (first | (simp; done) | omega | (simp; omega)))⟩
end Go.Proofs.YtdpdnanjanceeaaDoor
