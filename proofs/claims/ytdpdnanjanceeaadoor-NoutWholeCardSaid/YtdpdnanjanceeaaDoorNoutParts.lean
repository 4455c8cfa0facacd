/- nout.Check, nout.trimmed, dec.Text where nothing stands behind the point. -/
import Derived.Test.YtdpdnanjanceeaaDoorPatCheck
import Derived.Test.YtdpdnanjanceeaaDoorDecPlain
import Derived.Test.YtdpdnanjanceeaaDoorDecBase
import Derived.Test.YtdpdnanjanceeaaDoorGroup
namespace Go.Proofs.YtdpdnanjanceeaaDoor
open Go.RowKit

abbrev symV : Value := .agg #[.int .u8 46, .int .u8 44]

theorem nout_Check (w : World) :
    Calls Tryd.prog 85 #[symV] w fun e w' => e = .returned .nilIface ∧ Below w.heap.size w w' := by
  have K1 : Hid (∀ W : World, Calls Tryd.prog 103 #[.string ⟨#[46, 44, 39, 95]⟩, .int .u8 46] W fun e w' => e = .returned (.int .i64 0) ∧ W = w') := Lib.hid (fun W => (Tryd.strings_IndexByte ⟨#[46, 44, 39, 95]⟩ 46 W).mono (fun _ _ h => ⟨h.1, h.2.symm⟩))
  have K2 : Hid (∀ W : World, Calls Tryd.prog 103 #[.string ⟨#[46, 44, 39, 95]⟩, .int .u8 44] W fun e w' => e = .returned (.int .i64 1) ∧ W = w') := Lib.hid (fun W => (Tryd.strings_IndexByte ⟨#[46, 44, 39, 95]⟩ 44 W).mono (fun _ _ h => ⟨h.1, h.2.symm⟩))
  go_enter Tryd.func85, Tryd.ntmps85
  go_wp2_with fail
  refine (K1.out _).mono ?_
  rintro e w1 ⟨rfl, rfl⟩
  go_wp2_with fail
  refine (K2.out _).mono ?_
  rintro e w1 ⟨rfl, rfl⟩
  go_wp2_with fail
  go_ret
  exact ⟨rfl, (Below.refl _ _).alloc (Nat.le_refl _) _⟩

theorem nout_check (p q : ByteArray) (mi mf xf g g2 : Int) (w : World) (hp : p.size ≤ 9223372036854775807) (hq : q.size ≤ 9223372036854775807) :
    Calls Tryd.prog 56 #[patV p q mi mf xf g g2, symV] w fun e w' => e = .returned (errOf (patErr p q mi mf xf g g2)) ∧ Below w.heap.size w w' := by
  have KP := Lib.hid (fun W => pat_check p q mi mf xf g g2 W hp hq)
  have KN := Lib.hid (fun W => nout_Check W)
  by_cases h : patErr p q mi mf xf g g2 = 0
  · rw [h] at KP ⊢
    have e0 : errOf 0 = .nilIface := rfl
    rw [e0] at KP ⊢
    clear h e0
    go_enter Tryd.func56, Tryd.ntmps56
    go_wp2_with fail
    refine (KP.out _).mono ?_
    rintro e w1 ⟨rfl, hb1⟩
    have s1 := hb1.size
    simp at s1
    have c0 : w1.cell? ⟨w.heap.size + 1, 0, none⟩ = some (.int .u8 46) := carry hb1 (by go_simp)
    have c1 : w1.cell? ⟨w.heap.size + 1, 1, none⟩ = some (.int .u8 44) := carry hb1 (by go_simp)
    go_wp2_with fail
    refine (KN.out _).mono ?_
    rintro e w2 ⟨rfl, hb2⟩
    have s2 := hb2.size
    go_wp2_with fail
    go_ret
    exact ⟨rfl, (by (repeat (first | with_reducible exact Below.refl _ _ | with_reducible refine bel_set ?_ ?_ | with_reducible refine bel_alloc ?_ ?_ | with_reducible refine Below.drew ?_ | with_reducible refine bel_drewN _ ?_ | with_reducible refine bel_call ?_ (by assumption) ?_)); all_goals (first | (simp; done) | omega | (simp; omega)))⟩
  · have e0 : errOf (patErr p q mi mf xf g g2) = errT (patErr p q mi mf xf g g2) := by unfold errOf; rw [if_neg h]
    rw [e0] at KP ⊢
    generalize patErr p q mi mf xf g g2 = E at *
    clear e0 h
    go_enter Tryd.func56, Tryd.ntmps56
    go_wp2_with fail
    refine (KP.out _).mono ?_
    rintro e w1 ⟨rfl, hb1⟩
    have s1 := hb1.size
    simp at s1
    go_wp2_with fail
    go_ret
    exact ⟨rfl, (by (repeat (first | with_reducible exact Below.refl _ _ | with_reducible refine bel_set ?_ ?_ | with_reducible refine bel_alloc ?_ ?_ | with_reducible refine Below.drew ?_ | with_reducible refine bel_drewN _ ?_ | with_reducible refine bel_call ?_ (by assumption) ?_)); all_goals (first | (simp; done) | omega | (simp; omega)))⟩

theorem nout_trimmed (n : Int) (w : World) :
    Calls Tryd.prog 58 #[decV n 0, .int .i64 0] w fun e w' => e = .returned (decV n 0) ∧ Below w.heap.size w w' := by
  go_enter Tryd.func58, Tryd.ntmps58
  go_wp2_with fail
  go_loopw [] (fun wr => wr = ((w.alloc (.cells #[.int .i64 n, .int .i64 0] 67)).alloc (.cells #[.int .i64 0, .int .i64 0] 67))) (fun _ => 0)
  case atStart => rfl
  case round =>
    subst hrel
    go_wp2_with fail
    exact bodyPost_ret (v := decV n 0) (by simp [results, Tryd.results58, go_sem]) rfl ⟨rfl, (by (repeat (first | with_reducible exact Below.refl _ _ | with_reducible refine bel_set ?_ ?_ | with_reducible refine bel_alloc ?_ ?_ | with_reducible refine Below.drew ?_ | with_reducible refine bel_drewN _ ?_ | with_reducible refine bel_call ?_ (by assumption) ?_)); all_goals (first | (simp; done) | omega | (simp; omega)))⟩

theorem group_check0 (c : Int) (w : World) (h : ¬ (48 ≤ c ∧ c ≤ 57)) :
    Calls Tryd.prog 65 #[.int .i64 0, .int .i64 0, .int .u8 c] w fun e w' => e = .returned .nilIface ∧ w = w' := by
  go_enter Tryd.func65, Tryd.ntmps65
  go_wp2_with fail
  all_goals go_ret
  all_goals exact ⟨rfl, rfl⟩

theorem group_put0 (s : ByteArray) (w : World) (hs : s.size ≤ 1000000000000) (hd : digitsB s = true) :
    Calls Tryd.prog 25 #[.string s, .int .i64 0, .int .i64 0, .int .u8 44] w fun e w' => e = .returned (.tuple #[.string s, .nilIface]) ∧ Below w.heap.size w w' := by
  have HD := Lib.hid hd
  clear hd
  go_enter Tryd.func25, Tryd.ntmps25
  go_wp2_with fail
  refine (group_digits s w (by omega)).mono ?_
  rw [HD.out]
  rintro e w1 ⟨rfl, hb1⟩
  go_wp2_with fail
  refine (group_check0 44 _ (by omega)).mono ?_
  rintro e w2 ⟨rfl, rfl⟩
  go_wp2_with fail
  go_ret2
  exact ⟨rfl, (by (repeat (first | with_reducible exact Below.refl _ _ | with_reducible refine bel_set ?_ ?_ | with_reducible refine bel_alloc ?_ ?_ | with_reducible refine Below.drew ?_ | with_reducible refine bel_drewN _ ?_ | with_reducible refine bel_call ?_ (by assumption) ?_)); all_goals (first | (simp; done) | omega | (simp; omega)))⟩

theorem dec_text0 (w : World) :
    Calls Tryd.prog 61 #[decV 0 0] w fun e w' => e = .returned (.string ⟨#[48]⟩) ∧ Below w.heap.size w w' := by
  have d0 : Lib.decDigits 0 = [48] := by first | decide | rfl | (simp [Lib.decDigits]; done) | (rw [Lib.decDigits]; rfl)
  have K1 : Hid (∀ W : World, Calls Tryd.prog 91 #[.int .i64 0] W fun e w' => e = .returned (.string ⟨#[48]⟩) ∧ W = w') := Lib.hid (fun W => (Tryd.strconv_Itoa_small 0 (by omega) W).mono (fun _ _ h => ⟨h.1.trans (by rw [d0]), h.2.symm⟩))
  have K2 : Hid (∀ W : World, Calls Tryd.prog 90 #[.string ⟨#[48]⟩, .string ⟨#[45]⟩] W fun e w' => e = .returned (.string ⟨#[48]⟩) ∧ W = w') := Lib.hid (fun W => (Tryd.strings_TrimPrefix ⟨#[48]⟩ ⟨#[45]⟩ W).mono (fun _ _ h => ⟨h.1, h.2.symm⟩))
  go_enter Tryd.func61, Tryd.ntmps61
  go_wp2_with fail
  refine (K1.out _).mono ?_
  rintro e w1 ⟨rfl, rfl⟩
  go_wp2_with fail
  refine (K2.out _).mono ?_
  rintro e w1 ⟨rfl, rfl⟩
  go_wp2_with fail
  go_ret
  exact ⟨rfl, (by (repeat (first | with_reducible exact Below.refl _ _ | with_reducible refine bel_set ?_ ?_ | with_reducible refine bel_alloc ?_ ?_ | with_reducible refine Below.drew ?_ | with_reducible refine bel_drewN _ ?_ | with_reducible refine bel_call ?_ (by assumption) ?_)); all_goals (first | (simp; done) | omega | (simp; omega)))⟩
end Go.Proofs.YtdpdnanjanceeaaDoor
