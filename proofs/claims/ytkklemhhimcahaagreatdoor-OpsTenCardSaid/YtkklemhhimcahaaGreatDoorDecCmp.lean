/- dec.right, dec.compared, dec.Same. -/
import Derived.Test.YtkklemhhimcahaaGreatDoorDecWide
namespace Go.Proofs.YtkklemhhimcahaaGreatDoor
open Go.RowKit

def cmpI (p q : Int) : Int := if p < q then -1 else if p = q then 0 else 1
theorem cmp_lt {p q : Int} (h : p < q) : cmpI p q = -1 := if_pos h
theorem cmp_eq {p q : Int} (h : p = q) : cmpI p q = 0 := by unfold cmpI; rw [if_neg (by omega), if_pos h]
theorem cmp_gt {p q : Int} (h : q < p) : cmpI p q = 1 := by unfold cmpI; rw [if_neg (by omega), if_neg (by omega)]
theorem cmp_zero (p q : Int) : (cmpI p q == 0) = decide (p = q) := by
  unfold cmpI
  split
  · rw [decide_eq_false (by omega)]; rfl
  · split
    · rw [decide_eq_true (by assumption)]; rfl
    · rw [decide_eq_false (by assumption)]; rfl

/-- two words say which is less -/
theorem words_cmp (p q : Int) (hp : 0 ≤ p) (hq : 0 ≤ q) : ∃ h l k m : Int, h = p / 18446744073709551616 ∧ l = p % 18446744073709551616 ∧ k = q / 18446744073709551616 ∧ m = q % 18446744073709551616 ∧
    0 ≤ h ∧ 0 ≤ k ∧ 0 ≤ l ∧ 0 ≤ m ∧ ((h < k ∧ cmpI p q = -1) ∨ (h = k ∧ l < m ∧ cmpI p q = -1) ∨ (h = k ∧ l = m ∧ cmpI p q = 0) ∨ (h = k ∧ m < l ∧ cmpI p q = 1) ∨ (k < h ∧ cmpI p q = 1)) := by
  refine ⟨_, _, _, _, rfl, rfl, rfl, rfl, by omega, by omega, by omega, by omega, ?_⟩
  rcases Int.lt_trichotomy p q with h | h | h
  · rw [cmp_lt h]
    by_cases h2 : p / 18446744073709551616 < q / 18446744073709551616
    · exact .inl ⟨h2, rfl⟩
    · exact .inr (.inl ⟨by omega, by omega, rfl⟩)
  · subst h
    rw [cmp_eq rfl]
    exact .inr (.inr (.inl ⟨rfl, rfl, rfl⟩))
  · rw [cmp_gt h]
    by_cases h2 : q / 18446744073709551616 < p / 18446744073709551616
    · exact .inr (.inr (.inr (.inr ⟨h2, rfl⟩)))
    · exact .inr (.inr (.inr (.inl ⟨by omega, by omega, rfl⟩)))

set_option maxHeartbeats 2000000 in
theorem cmp_pos (a s b t : Int) (w : World) (ha : decOk a s) (hb : decOk b t) (h0 : 0 ≤ a) (h1 : 0 ≤ b) :
    Calls Tryz.prog 38 #[decV a s, decV b t] w fun e w' => e = .returned (.int .i64 (cmpI (a * ten t.toNat) (b * ten s.toNat))) ∧ Below w.heap.size w w' := by
  obtain ⟨a1, a2, a3, a4⟩ := ha
  obtain ⟨b1, b2, b3, b4⟩ := hb
  have K1 := fun W => dec_wide a t W h0 a4 b1 b2
  have K2 := fun W => dec_wide b s W h1 b4 a1 a2
  have t1 := (ten_bd9 t.toNat (by omega)).1
  have t2 := (ten_bd9 s.toNat (by omega)).1
  obtain ⟨h, l, k, m, e1, e2, e3, e4, p1, p2, p3, p4, hc⟩ := words_cmp (a * ten t.toNat) (b * ten s.toNat) (Int.mul_nonneg h0 (by omega)) (Int.mul_nonneg h1 (by omega))
  rw [← e1, ← e2] at K1
  rw [← e3, ← e4] at K2
  generalize cmpI (a * ten t.toNat) (b * ten s.toNat) = C at *
  replace K1 := Lib.hid K1
  replace K2 := Lib.hid K2
  have HC := Lib.hid hc
  clear e1 e2 e3 e4 t1 t2 hc
  go_enter Tryz.func38, Tryz.ntmps38
  go_wp2_with fail
  refine (K1.out _).mono ?_
  rintro e w1 ⟨rfl, rfl⟩
  go_wp2_with fail
  refine (K2.out _).mono ?_
  rintro e w2 ⟨rfl, rfl⟩
  rcases HC.out with ⟨x1, x2⟩ | ⟨x1, x2, x3⟩ | ⟨x1, x2, x3⟩ | ⟨x1, x2, x3⟩ | ⟨x1, x2⟩
  · have HX := Lib.hid x2
    clear x2 HC
    go_wp2_with fail
    go_ret
    exact ⟨by rw [HX.out]; rfl, (by (repeat (first | with_reducible exact Below.refl _ _ | with_reducible refine bel_set ?_ ?_ | with_reducible refine bel_alloc ?_ ?_ | with_reducible refine Below.drew ?_ | with_reducible refine bel_drewN _ ?_ | with_reducible refine bel_call ?_ (by assumption) ?_)); all_goals (first | (simp; done) | omega | (simp; omega)))⟩
  · have HX := Lib.hid x3
    clear x3 HC
    subst x1
    go_wp2_with fail
    go_ret
    exact ⟨by rw [HX.out]; rfl, (by (repeat (first | with_reducible exact Below.refl _ _ | with_reducible refine bel_set ?_ ?_ | with_reducible refine bel_alloc ?_ ?_ | with_reducible refine Below.drew ?_ | with_reducible refine bel_drewN _ ?_ | with_reducible refine bel_call ?_ (by assumption) ?_)); all_goals (first | (simp; done) | omega | (simp; omega)))⟩
  · have HX := Lib.hid x3
    clear x3 HC
    subst x1 x2
    go_wp2_with fail
    go_ret
    exact ⟨by rw [HX.out]; rfl, (by (repeat (first | with_reducible exact Below.refl _ _ | with_reducible refine bel_set ?_ ?_ | with_reducible refine bel_alloc ?_ ?_ | with_reducible refine Below.drew ?_ | with_reducible refine bel_drewN _ ?_ | with_reducible refine bel_call ?_ (by assumption) ?_)); all_goals (first | (simp; done) | omega | (simp; omega)))⟩
  · have HX := Lib.hid x3
    have x4 : (l == m) = false := by rw [beq_eq_false_iff_ne]; omega
    have x5 : ¬ l < m := by omega
    clear x3 HC
    subst x1
    go_wp2_with fail
    go_ret
    exact ⟨by rw [HX.out]; rfl, (by (repeat (first | with_reducible exact Below.refl _ _ | with_reducible refine bel_set ?_ ?_ | with_reducible refine bel_alloc ?_ ?_ | with_reducible refine Below.drew ?_ | with_reducible refine bel_drewN _ ?_ | with_reducible refine bel_call ?_ (by assumption) ?_)); all_goals (first | (simp; done) | omega | (simp; omega)))⟩
  · have HX := Lib.hid x2
    have x4 : (h == k) = false := by rw [beq_eq_false_iff_ne]; omega
    have x5 : ¬ h < k := by omega
    clear x2 HC
    go_wp2_with fail
    go_ret
    exact ⟨by rw [HX.out]; rfl, (by (repeat (first | with_reducible exact Below.refl _ _ | with_reducible refine bel_set ?_ ?_ | with_reducible refine bel_alloc ?_ ?_ | with_reducible refine Below.drew ?_ | with_reducible refine bel_drewN _ ?_ | with_reducible refine bel_call ?_ (by assumption) ?_)); all_goals (first | (simp; done) | omega | (simp; omega)))⟩

theorem decOk_neg {a s : Int} (h : decOk a s) : decOk (-a) s := by
  obtain ⟨h1, h2, h3, h4⟩ := h
  exact ⟨h1, h2, by omega, by omega⟩

set_option maxHeartbeats 2000000 in
theorem dec_cmp (a s b t : Int) (w : World) (ha : decOk a s) (hb : decOk b t) :
    Calls Tryz.prog 38 #[decV a s, decV b t] w fun e w' => e = .returned (.int .i64 (cmpI (a * ten t.toNat) (b * ten s.toNat))) ∧ Below w.heap.size w w' := by
  have t1 := (ten_bd9 t.toNat (by have := hb.1; have := hb.2.1; omega)).1
  have t2 := (ten_bd9 s.toNat (by have := ha.1; have := ha.2.1; omega)).1
  by_cases h0 : 0 ≤ a
  · by_cases h1 : 0 ≤ b
    · exact cmp_pos a s b t w ha hb h0 h1
    · have hc := cmp_gt (p := a * ten t.toNat) (q := b * ten s.toNat) (by
        have x1 := Int.mul_nonneg h0 (by omega : 0 ≤ ten t.toNat)
        have x2 := Int.mul_pos (by omega : 0 < -b) (by omega : 0 < ten s.toNat)
        rw [Int.neg_mul] at x2
        omega)
      rw [hc]
      clear hc t1 t2
      go_enter Tryz.func38, Tryz.ntmps38
      go_wp2_with fail
      go_ret
      exact ⟨rfl, (by (repeat (first | with_reducible exact Below.refl _ _ | with_reducible refine bel_set ?_ ?_ | with_reducible refine bel_alloc ?_ ?_ | with_reducible refine Below.drew ?_ | with_reducible refine bel_drewN _ ?_ | with_reducible refine bel_call ?_ (by assumption) ?_)); all_goals (first | (simp; done) | omega | (simp; omega)))⟩
  · by_cases h1 : 0 ≤ b
    · have hc := cmp_lt (p := a * ten t.toNat) (q := b * ten s.toNat) (by
        have x1 := Int.mul_nonneg h1 (by omega : 0 ≤ ten s.toNat)
        have x2 := Int.mul_pos (by omega : 0 < -a) (by omega : 0 < ten t.toNat)
        rw [Int.neg_mul] at x2
        omega)
      rw [hc]
      clear hc t1 t2
      go_enter Tryz.func38, Tryz.ntmps38
      go_wp2_with fail
      go_ret
      exact ⟨rfl, (by (repeat (first | with_reducible exact Below.refl _ _ | with_reducible refine bel_set ?_ ?_ | with_reducible refine bel_alloc ?_ ?_ | with_reducible refine Below.drew ?_ | with_reducible refine bel_drewN _ ?_ | with_reducible refine bel_call ?_ (by assumption) ?_)); all_goals (first | (simp; done) | omega | (simp; omega)))⟩
    · have KN := fun W => cmp_pos (-b) t (-a) s W (decOk_neg hb) (decOk_neg ha) (by omega) (by omega)
      have hc : cmpI (-b * ten s.toNat) (-a * ten t.toNat) = cmpI (a * ten t.toNat) (b * ten s.toNat) := by
        rw [Int.neg_mul, Int.neg_mul]
        unfold cmpI
        congr 1
        · apply propext; omega
        · congr 1
          apply propext; omega
      rw [hc] at KN
      replace KN := Lib.hid KN
      obtain ⟨_, _, a3, a4⟩ := ha
      obtain ⟨_, _, b3, b4⟩ := hb
      clear hc t1 t2
      generalize cmpI (a * ten t.toNat) (b * ten s.toNat) = C at *
      go_enter Tryz.func38, Tryz.ntmps38
      go_wp2_with fail
      refine (KN.out _).mono ?_
      rintro e w1 ⟨rfl, hb⟩
      go_wp2_with fail
      go_ret
      exact ⟨rfl, (by (repeat (first | with_reducible exact Below.refl _ _ | with_reducible refine bel_set ?_ ?_ | with_reducible refine bel_alloc ?_ ?_ | with_reducible refine Below.drew ?_ | with_reducible refine bel_drewN _ ?_ | with_reducible refine bel_call ?_ (by assumption) ?_)); all_goals (first | (simp; done) | omega | (simp; omega)))⟩

set_option maxHeartbeats 1000000 in
theorem right_ok (a s b t : Int) (w : World) (ha : decOk a s) (hb : decOk b t) :
    Calls Tryz.prog 37 #[decV a s, decV b t] w fun e w' => e = .returned (.bool true) ∧ Below w.heap.size w w' := by
  have K1 := Lib.hid (fun W => dec_check_ok a s W ha)
  have K2 := Lib.hid (fun W => dec_check_ok b t W hb)
  clear ha hb
  go_enter Tryz.func37, Tryz.ntmps37
  go_wp2_with fail
  refine (K1.out _).mono ?_
  rintro e w1 ⟨rfl, hb⟩
  have c0 : w1.cell? ⟨w.heap.size + 1, 0, none⟩ = some (.int .i64 b) := carry hb (by go_simp)
  have c1 : w1.cell? ⟨w.heap.size + 1, 1, none⟩ = some (.int .i64 t) := carry hb (by go_simp)
  have HB : Hid (Below w.heap.size w w1) := Lib.hid (by (repeat (first | with_reducible exact Below.refl _ _ | with_reducible refine bel_set ?_ ?_ | with_reducible refine bel_alloc ?_ ?_ | with_reducible refine Below.drew ?_ | with_reducible refine bel_drewN _ ?_ | with_reducible refine bel_call ?_ (by assumption) ?_)); all_goals (first | (simp; done) | omega | (simp; omega)))
  clear hb
  go_wp2_with fail
  refine (K2.out _).mono ?_
  rintro e w2 ⟨rfl, hb⟩
  have HB2 : Hid (Below w.heap.size w w2) := Lib.hid (HB.out.trans (hb.mono HB.out.size))
  clear hb
  go_wp2_with fail
  go_ret
  exact ⟨rfl, HB2.out⟩

set_option maxHeartbeats 1000000 in
theorem dec_same (a s b t : Int) (w : World) (ha : decOk a s) (hb : decOk b t) :
    Calls Tryz.prog 14 #[decV a s, decV b t] w fun e w' => e = .returned (.bool (decide (a * ten t.toNat = b * ten s.toNat))) ∧ Below w.heap.size w w' := by
  have K1 := Lib.hid (fun W => right_ok a s b t W ha hb)
  have K2 := Lib.hid (fun W => dec_cmp a s b t W ha hb)
  rw [← cmp_zero]
  clear ha hb
  generalize cmpI (a * ten t.toNat) (b * ten s.toNat) = C at *
  go_enter Tryz.func14, Tryz.ntmps14
  go_wp2_with fail
  refine (K1.out _).mono ?_
  rintro e w1 ⟨rfl, hb⟩
  have x0 : w1.cell? ⟨w.heap.size, 0, none⟩ = some (.int .i64 a) := carry hb (by go_simp)
  have x1 : w1.cell? ⟨w.heap.size, 1, none⟩ = some (.int .i64 s) := carry hb (by go_simp)
  have c0 : w1.cell? ⟨w.heap.size + 1, 0, none⟩ = some (.int .i64 b) := carry hb (by go_simp)
  have c1 : w1.cell? ⟨w.heap.size + 1, 1, none⟩ = some (.int .i64 t) := carry hb (by go_simp)
  have HB : Hid (Below w.heap.size w w1) := Lib.hid (by (repeat (first | with_reducible exact Below.refl _ _ | with_reducible refine bel_set ?_ ?_ | with_reducible refine bel_alloc ?_ ?_ | with_reducible refine Below.drew ?_ | with_reducible refine bel_drewN _ ?_ | with_reducible refine bel_call ?_ (by assumption) ?_)); all_goals (first | (simp; done) | omega | (simp; omega)))
  clear hb
  go_wp2_with fail
  refine (K2.out _).mono ?_
  rintro e w2 ⟨rfl, hb⟩
  have HB2 : Hid (Below w.heap.size w w2) := Lib.hid (HB.out.trans (hb.mono HB.out.size))
  clear hb
  go_wp2_with fail
  go_ret
  exact ⟨rfl, HB2.out⟩
end Go.Proofs.YtkklemhhimcahaaGreatDoor
