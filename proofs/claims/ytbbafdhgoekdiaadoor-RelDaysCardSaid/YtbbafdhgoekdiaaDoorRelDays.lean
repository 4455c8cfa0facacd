/- RelDays: the law's walk. -/
import Derived.Test.YtbbafdhgoekdiaaDoorRel
namespace Go.Proofs.YtbbafdhgoekdiaaDoor
open Go.RowKit

theorem relR_hours : relR (7200 - 0) = (⟨#[104, 111, 117, 114]⟩, 2) := by decide
theorem relR_day (d : Int) (h : d ≠ 0) : relR (86400 * d) = (⟨#[100, 97, 121]⟩, d) := by
  have : (86400 * d).tdiv 86400 = d := Int.mul_tdiv_cancel_left d (by omega)
  unfold relR
  rw [this, if_pos h]
theorem relR_zero : relR 0 = (⟨#[115, 101, 99, 111, 110, 100]⟩, 0) := by decide

theorem of_any (a b : Int) (w : World) (hU : Units w) :
    Calls Tryd.prog 19 #[.int .i64 a, .int .i64 b] w fun e w' => (∃ (A : ByteArray) (n : Int) (E : Value), e = .returned (.tuple #[.string A, .int .i64 n, E])) ∧ Below w.heap.size w w' := by
  by_cases h : ((-1099511627776 ≤ a ∧ a ≤ 1099511627776) ∧ (-1099511627776 ≤ b ∧ b ≤ 1099511627776))
  · exact (of_ok a b w hU h.1.1 h.1.2 h.2.1 h.2.2).mono fun e w' ⟨h1, h2⟩ => ⟨⟨_, _, _, h1⟩, h2⟩
  · exact (of_no a b w h).mono fun e w' ⟨h1, h2⟩ => ⟨⟨_, _, _, h1⟩, h2 ▸ Below.refl _ _⟩

theorem text_hours (w : World) (hU : Units w) (hP : Pow w) :
    Calls Tryd.prog 20 #[.int .i64 0, .int .i64 7200] w fun e w' => e = .returned (.tuple #[.string ⟨#[105, 110, 32, 50, 32, 104, 111, 117, 114, 115]⟩, .nilIface]) ∧ Below w.heap.size w w' := by
  have HU := Lib.hid hU
  have HP := Lib.hid hP
  clear hU hP
  go_enter Tryd.func20, Tryd.ntmps20
  go_wp2_with fail
  refine (of_ok 0 7200 _ HU.out (by omega) (by omega) (by omega) (by omega)).mono ?_
  rw [relR_hours]
  rintro e w1 ⟨rfl, hb1⟩
  have HP1 := Lib.hid (HP.out.below hb1)
  have s1 := hb1.size
  go_wp2_with fail
  refine (itoa_any 2 _ (by omega) (by omega) HP1.out).mono ?_
  have i2 : Lib.itoa 2 = [50] := by unfold Lib.itoa; rw [if_neg (by omega), Lib.decDigits, dif_pos (by decide)]; rfl
  rw [i2]
  rintro e w2 ⟨rfl, hb2⟩
  have s2 := hb2.size
  go_wp2_with fail
  go_ret2
  exact ⟨rfl, (by (repeat (first | with_reducible exact Below.refl _ _ | with_reducible refine bel_set ?_ ?_ | with_reducible refine bel_alloc ?_ ?_ | with_reducible refine Below.drew ?_ | with_reducible refine bel_drewN _ ?_ | with_reducible refine bel_call ?_ (by assumption) ?_)); all_goals (first | (simp; done) | omega | (simp; omega)))⟩

theorem size_ok (n : Int) (w : World) (h0 : -9223372036854775807 ≤ n) (h1 : n ≤ 9223372036854775807) :
    Calls Tryd.prog 21 #[.int .i64 n] w fun e w' => e = .returned (.int .i64 (if n < 0 then 0 - n else n)) ∧ w = w' := by
  go_enter Tryd.func21, Tryd.ntmps21
  by_cases h : n < 0
  · rw [if_pos h]
    go_wp2_with fail
    go_ret
    exact ⟨ret_int (by first | rfl | simp), rfl⟩
  · rw [if_neg h]
    go_wp2_with fail
    go_ret
    exact ⟨rfl, rfl⟩
theorem days_out (a d : Int) (w : World) (hU : Units w) (hP : Pow w) (h : ¬ (-100000 ≤ d ∧ d ≤ 100000 ∧ -1099511627776 ≤ a ∧ a ≤ 1099511627776)) :
    Calls Tryd.prog 7 #[.int .i64 a, .int .i64 d] w fun e w' => e = .returned (.bool true) ∧ Below w.heap.size w w' := by
  have HU := Lib.hid hU
  have HP := Lib.hid hP
  clear hU hP
  go_enter Tryd.func7, Tryd.ntmps7
  go_wp2_with fail
  refine (of_any _ _ _ HU.out).mono ?_
  rintro e w1 ⟨⟨A, n, E, rfl⟩, hb1⟩
  have HU1 := Lib.hid (HU.out.below hb1)
  have HP1 := Lib.hid (HP.out.below hb1)
  have s1 := hb1.size
  go_wp2_with fail
  refine (text_hours _ HU1.out HP1.out).mono ?_
  rintro e w2 ⟨rfl, hb2⟩
  have s2 := hb2.size
  go_wp2_with fail
  all_goals go_ret
  all_goals exact ⟨rfl, (by (repeat (first | with_reducible exact Below.refl _ _ | with_reducible refine bel_set ?_ ?_ | with_reducible refine bel_alloc ?_ ?_ | with_reducible refine Below.drew ?_ | with_reducible refine bel_drewN _ ?_ | with_reducible refine bel_call ?_ (by assumption) ?_)); all_goals (first | (simp; done) | omega | (simp; omega)))⟩

theorem days_far (a d : Int) (w : World) (hU : Units w) (hP : Pow w) (h0 : -100000 ≤ d) (h1 : d ≤ 100000) (h2 : -1099511627776 ≤ a) (h3 : a ≤ 1099511627776) (h : ¬ (-1099511627776 ≤ a + 86400 * d ∧ a + 86400 * d ≤ 1099511627776)) :
    Calls Tryd.prog 7 #[.int .i64 a, .int .i64 d] w fun e w' => e = .returned (.bool true) ∧ Below w.heap.size w w' := by
  have HU := Lib.hid hU
  have HP := Lib.hid hP
  clear hU hP
  go_enter Tryd.func7, Tryd.ntmps7
  go_wp2_with fail
  refine (of_no a (a + 86400 * d) _ (by omega)).mono ?_
  rintro e w1 ⟨rfl, rfl⟩
  have hb1 : Below w.heap.size w w := Below.refl _ _
  have HU1 := Lib.hid (HU.out.below hb1)
  have HP1 := Lib.hid (HP.out.below hb1)
  have s1 := hb1.size
  go_wp2_with fail
  refine (text_hours _ HU1.out HP1.out).mono ?_
  rintro e w2 ⟨rfl, hb2⟩
  have s2 := hb2.size
  go_wp2_with fail
  refine (size_ok (a + 86400 * d) _ (by omega) (by omega)).mono ?_
  rintro e w3 ⟨rfl, rfl⟩
  have hz : (if a + 86400 * d < 0 then 0 - (a + 86400 * d) else a + 86400 * d) > 1099511627776 := by split <;> omega
  generalize (if a + 86400 * d < 0 then 0 - (a + 86400 * d) else a + 86400 * d) = z at *
  go_wp2_with fail
  all_goals go_ret
  all_goals exact ⟨rfl, (by (repeat (first | with_reducible exact Below.refl _ _ | with_reducible refine bel_set ?_ ?_ | with_reducible refine bel_alloc ?_ ?_ | with_reducible refine Below.drew ?_ | with_reducible refine bel_drewN _ ?_ | with_reducible refine bel_call ?_ (by assumption) ?_)); all_goals (first | (simp; done) | omega | (simp; omega)))⟩

theorem days_in (a d : Int) (w : World) (hU : Units w) (hP : Pow w) (h0 : -100000 ≤ d) (h1 : d ≤ 100000) (h2 : -1099511627776 ≤ a) (h3 : a ≤ 1099511627776) (h4 : -1099511627776 ≤ a + 86400 * d) (h5 : a + 86400 * d ≤ 1099511627776) :
    Calls Tryd.prog 7 #[.int .i64 a, .int .i64 d] w fun e w' => e = .returned (.bool true) ∧ Below w.heap.size w w' := by
  have HU := Lib.hid hU
  have HP := Lib.hid hP
  clear hU hP
  by_cases hd : d = 0
  · subst hd
    have hO := of_ok a a w HU.out h2 h3 h2 h3
    rw [Int.sub_self, relR_zero] at hO
    have HO := Lib.hid hO
    clear hO
    go_enter Tryd.func7, Tryd.ntmps7
    go_wp2_with fail
    refine HO.out.mono ?_
    rintro e w1 ⟨rfl, hb1⟩
    have HU1 := Lib.hid (HU.out.below hb1)
    have HP1 := Lib.hid (HP.out.below hb1)
    have s1 := hb1.size
    go_wp2_with fail
    refine (text_hours _ HU1.out HP1.out).mono ?_
    rintro e w2 ⟨rfl, hb2⟩
    have s2 := hb2.size
    go_wp2_with fail
    all_goals go_ret
    all_goals exact ⟨rfl, (by (repeat (first | with_reducible exact Below.refl _ _ | with_reducible refine bel_set ?_ ?_ | with_reducible refine bel_alloc ?_ ?_ | with_reducible refine Below.drew ?_ | with_reducible refine bel_drewN _ ?_ | with_reducible refine bel_call ?_ (by assumption) ?_)); all_goals (first | (simp; done) | omega | (simp; omega)))⟩
  · have e : a + 86400 * d - a = 86400 * d := by omega
    have hO := of_ok a (a + 86400 * d) w HU.out h2 h3 h4 h5
    rw [e, relR_day d hd] at hO
    have HO := Lib.hid hO
    clear hO
    go_enter Tryd.func7, Tryd.ntmps7
    go_wp2_with fail
    refine HO.out.mono ?_
    rintro e w1 ⟨rfl, hb1⟩
    have HU1 := Lib.hid (HU.out.below hb1)
    have HP1 := Lib.hid (HP.out.below hb1)
    have s1 := hb1.size
    go_wp2_with fail
    refine (text_hours _ HU1.out HP1.out).mono ?_
    rintro e w2 ⟨rfl, hb2⟩
    have s2 := hb2.size
    go_wp2_with fail
    all_goals go_ret
    all_goals exact ⟨rfl, (by (repeat (first | with_reducible exact Below.refl _ _ | with_reducible refine bel_set ?_ ?_ | with_reducible refine bel_alloc ?_ ?_ | with_reducible refine Below.drew ?_ | with_reducible refine bel_drewN _ ?_ | with_reducible refine bel_call ?_ (by assumption) ?_)); all_goals (first | (simp; done) | omega | (simp; omega)))⟩

end Go.Proofs.YtbbafdhgoekdiaaDoor
