/- msg.fine at every node. -/
import Derived.Test.YthlcjlmaaaappaaDoorSizeT
import Derived.Test.YthlcjlmaaaappaaDoorMsgFine
namespace Go.Proofs.YthlcjlmaaaappaaDoor
open Go.RowKit

/-- the kind of the node ahead lies there -/
def PrevAt (w : World) (B : Option Addr) (n c : Nat) (prev : Option Int) : Prop :=
  (n = 0 ∧ prev = none) ∨ ∃ b o j k, n = j + 1 ∧ n ≤ c ∧ c ≤ 9223372036854775807 ∧ B = some ⟨b, o, none⟩ ∧ prev = some k ∧ w.cell? ⟨b, o + j * 4, none⟩ = some (.int .i64 k)
theorem PrevAt.below {w w' : World} {B : Option Addr} {n c : Nat} {prev : Option Int} (h : PrevAt w B n c prev) (hb : Below w.heap.size w w') : PrevAt w' B n c prev := by
  rcases h with h | ⟨b, o, j, k, h1, h2, h3, h4, h5, h6⟩
  · exact .inl h
  · exact .inr ⟨b, o, j, k, h1, h2, h3, h4, h5, carry hb h6⟩

theorem fine_words (t : ByteArray) (off : Int) (A B : Option Addr) (n c n2 c2 : Nat) (prev : Option Int) (m : Bool) (w : World) (hp : PrevAt w B n2 c2 prev) :
    Calls Tryd.prog 20 #[nodeV 1 t off A n c, .slice B n2 c2, .bool m] w fun e w' => e = .returned (.bool (!t.toList.isEmpty && !(prev == some 1))) ∧ Below w.heap.size w w' := by
  unfold nodeV
  cases hT : t.toList.isEmpty
  · have n1 : ¬ t.toList = [] := by intro h; rw [h] at hT; cases hT
    rcases hp with ⟨rfl, rfl⟩ | ⟨b, o, j, k, rfl, hc, hc2, rfl, rfl, hcell⟩
    · go_enter Tryd.func20, Tryd.ntmps20
      go_wp2_with fail
      go_ret
      exact ⟨rfl, (by (repeat (first | with_reducible exact Below.refl _ _ | with_reducible refine bel_set ?_ ?_ | with_reducible refine bel_alloc ?_ ?_ | with_reducible refine Below.drew ?_ | with_reducible refine bel_drewN _ ?_ | with_reducible refine bel_call ?_ (by assumption) ?_)); all_goals (first | (simp; done) | omega | (simp; omega)))⟩
    · have hcl := carry ((Below.refl w.heap.size w).alloc (Nat.le_refl _) (.cells #[.int .i64 1, .string t, .int .i64 off, .slice A n c] 32)) hcell
      have i0 : (0 : Int) ≤ (j : Int) := by omega
      have i1 : (j : Int) < ((j + 1 : Nat) : Int) := by omega
      have i2 : ((j + 1 : Nat) : Int) ≤ (c2 : Int) := by omega
      have i3 : ¬ ((j + 1 : Nat) : Int) = 0 := by omega
      have e1 : IntKind.i64.wrap (((j + 1 : Nat) : Int) - 1) = (j : Int) := by rw [IntWalk.i64_in _ (by omega)]; omega
      by_cases hk : k = 1
      · subst hk
        clear hcell
        go_enter Tryd.func20, Tryd.ntmps20
        go_wp2_with fail
        go_ret
        exact ⟨rfl, (by (repeat (first | with_reducible exact Below.refl _ _ | with_reducible refine bel_set ?_ ?_ | with_reducible refine bel_alloc ?_ ?_ | with_reducible refine Below.drew ?_ | with_reducible refine bel_drewN _ ?_ | with_reducible refine bel_call ?_ (by assumption) ?_)); all_goals (first | (simp; done) | omega | (simp; omega)))⟩
      · have k1 : (k == 1) = false := by rw [beq_eq_false_iff_ne]; exact hk
        have HD : Hid ((!((some k : Option Int) == some 1)) = true) := Lib.hid (by simp [hk])
        clear hcell
        go_enter Tryd.func20, Tryd.ntmps20
        go_wp2_with fail
        go_ret
        exact ⟨ret_bool (by rw [HD.out]; simp [bne, k1]), (by (repeat (first | with_reducible exact Below.refl _ _ | with_reducible refine bel_set ?_ ?_ | with_reducible refine bel_alloc ?_ ?_ | with_reducible refine Below.drew ?_ | with_reducible refine bel_drewN _ ?_ | with_reducible refine bel_call ?_ (by assumption) ?_)); all_goals (first | (simp; done) | omega | (simp; omega)))⟩
  · have n1 : t.toList = [] := by simpa using hT
    go_enter Tryd.func20, Tryd.ntmps20
    go_wp2_with fail
    go_ret
    exact ⟨rfl, (by (repeat (first | with_reducible exact Below.refl _ _ | with_reducible refine bel_set ?_ ?_ | with_reducible refine bel_alloc ?_ ?_ | with_reducible refine Below.drew ?_ | with_reducible refine bel_drewN _ ?_ | with_reducible refine bel_call ?_ (by assumption) ?_)); all_goals (first | (simp; done) | omega | (simp; omega)))⟩

theorem fine_names (kd off : Int) (t : ByteArray) (A B : Option Addr) (n c n2 c2 : Nat) (m : Bool) (w : World) (hk : kd = 2 ∨ kd = 3 ∨ kd = 4 ∨ kd = 5) (ht : t.size ≤ 9223372036854775807) :
    Calls Tryd.prog 20 #[nodeV kd t off A n c, .slice B n2 c2, .bool m] w fun e w' => e = .returned (.bool (nameB t.data.toList)) ∧ Below w.heap.size w w' := by
  unfold nodeV
  rcases hk with rfl | rfl | rfl | rfl
  all_goals
    go_enter Tryd.func20, Tryd.ntmps20
    go_wp2_with fail
    refine (name_code t _ ht).mono ?_
    rintro e w1 ⟨rfl, hb1⟩
    go_wp2_with fail
    go_ret
    exact ⟨rfl, (by (repeat (first | with_reducible exact Below.refl _ _ | with_reducible refine bel_set ?_ ?_ | with_reducible refine bel_alloc ?_ ?_ | with_reducible refine Below.drew ?_ | with_reducible refine bel_drewN _ ?_ | with_reducible refine bel_call ?_ (by assumption) ?_)); all_goals (first | (simp; done) | omega | (simp; omega)))⟩

theorem fine_mark (kd off : Int) (t : ByteArray) (A B : Option Addr) (n c n2 c2 : Nat) (m : Bool) (w : World) (h1 : kd ≠ 1) (h2 : kd ≠ 2) (h3 : kd ≠ 3) (h4 : kd ≠ 4) (h5 : kd ≠ 5) :
    Calls Tryd.prog 20 #[nodeV kd t off A n c, .slice B n2 c2, .bool m] w fun e w' => e = .returned (.bool (decide (kd = 6) && m)) ∧ Below w.heap.size w w' := by
  unfold nodeV
  have k1 : (kd == 1) = false := by rw [beq_eq_false_iff_ne]; exact h1
  have k2 : (kd == 2) = false := by rw [beq_eq_false_iff_ne]; exact h2
  have k3 : (kd == 3) = false := by rw [beq_eq_false_iff_ne]; exact h3
  have k4 : (kd == 4) = false := by rw [beq_eq_false_iff_ne]; exact h4
  have k5 : (kd == 5) = false := by rw [beq_eq_false_iff_ne]; exact h5
  clear h1 h2 h3 h4 h5
  by_cases h6 : kd = 6
  · subst h6
    clear k1 k2 k3 k4 k5
    cases m
    all_goals
      go_enter Tryd.func20, Tryd.ntmps20
      go_wp2_with fail
      go_ret
      exact ⟨rfl, (by (repeat (first | with_reducible exact Below.refl _ _ | with_reducible refine bel_set ?_ ?_ | with_reducible refine bel_alloc ?_ ?_ | with_reducible refine Below.drew ?_ | with_reducible refine bel_drewN _ ?_ | with_reducible refine bel_call ?_ (by assumption) ?_)); all_goals (first | (simp; done) | omega | (simp; omega)))⟩
  · have k6 : (kd == 6) = false := by rw [beq_eq_false_iff_ne]; exact h6
    have HD : Hid ((decide (kd = 6) && m) = false) := Lib.hid (by rw [decide_eq_false h6]; rfl)
    clear h6
    go_enter Tryd.func20, Tryd.ntmps20
    go_wp2_with fail
    go_ret
    exact ⟨ret_bool HD.out.symm, (by (repeat (first | with_reducible exact Below.refl _ _ | with_reducible refine bel_set ?_ ?_ | with_reducible refine bel_alloc ?_ ?_ | with_reducible refine Below.drew ?_ | with_reducible refine bel_drewN _ ?_ | with_reducible refine bel_call ?_ (by assumption) ?_)); all_goals (first | (simp; done) | omega | (simp; omega)))⟩

theorem fine_any (kd off : Int) (t : ByteArray) (A B : Option Addr) (n c n2 c2 : Nat) (prev : Option Int) (m : Bool) (w : World) (ht : t.size ≤ 9223372036854775807) (hp : PrevAt w B n2 c2 prev) :
    Calls Tryd.prog 20 #[nodeV kd t off A n c, .slice B n2 c2, .bool m] w fun e w' => e = .returned (.bool (fineB kd t prev m)) ∧ Below w.heap.size w w' := by
  by_cases h1 : kd = 1
  · subst h1
    exact fine_words t off A B n c n2 c2 prev m w hp
  · by_cases hk : kd = 2 ∨ kd = 3 ∨ kd = 4 ∨ kd = 5
    · have e : fineB kd t prev m = nameB t.data.toList := by unfold fineB; rw [if_neg h1, if_pos hk]
      rw [e]
      exact fine_names kd off t A B n c n2 c2 m w hk ht
    · have e : fineB kd t prev m = (decide (kd = 6) && m) := by unfold fineB; rw [if_neg h1, if_neg hk]
      rw [e]
      exact fine_mark kd off t A B n c n2 c2 m w h1 (fun h => hk (.inl h)) (fun h => hk (.inr (.inl h))) (fun h => hk (.inr (.inr (.inl h)))) (fun h => hk (.inr (.inr (.inr h))))
end Go.Proofs.YthlcjlmaaaappaaDoor
