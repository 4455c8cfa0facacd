/- NoutWhole: the walk. -/
import Derived.Test.YtdpdnanjanceeaaDoorNout
import Derived.Test.YtdpdnanjanceeaaDoorGroupAny
import Derived.Test.YtdpdnanjanceeaaDoorDigitsPlain
import Derived.Test.YtdpdnanjanceeaaDoorRDigits
import Derived.Test.YtdpdnanjanceeaaDoorItoa
namespace Go.Proofs.YtdpdnanjanceeaaDoor
open Go.RowKit

/-- The digits of a number's size. -/
def ddB (n : Int) : ByteArray := ⟨(Lib.decDigits n.natAbs).toArray⟩
def itB (n : Int) : ByteArray := ⟨(Lib.itoa n).toArray⟩
theorem ddB_size (n : Int) (h : decOk n 0) : 1 ≤ (ddB n).size ∧ (ddB n).size ≤ 16 := by
  obtain ⟨_, _, h1, h2⟩ := h
  exact ⟨dd_one _, decDigits_size 16 _ (by omega) (by omega)⟩
theorem itB_neg (n : Int) (h : n < 0) : itB n = ⟨#[45]⟩ ++ ddB n := by
  unfold itB ddB
  rw [itoa_neg' n h]
  apply ByteArray.ext
  apply Array.ext'
  simp
theorem itB_pos (n : Int) (h : ¬ n < 0) : itB n = ⟨#[]⟩ ++ ddB n := by
  unfold itB ddB
  rw [itoa_pos' n h]
  apply ByteArray.ext
  apply Array.ext'
  simp
theorem ddB_digits (n : Int) : digitsB (ddB n) = true := by
  unfold digitsB
  rw [Lib.toList_data]
  have h1 : (Lib.decDigits n.natAbs).all (digs.data.toList.contains ·) = true := by
    rw [List.all_eq_true]
    intro x hx
    obtain ⟨a1, a2⟩ := dd_signs _ _ (Nat.le_refl _) x hx
    have hk : x.toNat = 48 ∨ x.toNat = 49 ∨ x.toNat = 50 ∨ x.toNat = 51 ∨ x.toNat = 52 ∨ x.toNat = 53 ∨ x.toNat = 54 ∨ x.toNat = 55 ∨ x.toNat = 56 ∨ x.toNat = 57 := by omega
    have he : ∀ c : UInt8, x.toNat = c.toNat → x = c := fun c h => UInt8.toNat_inj.1 h
    rcases hk with h | h | h | h | h | h | h | h | h | h
    · rw [he 48 h]; rfl
    · rw [he 49 h]; rfl
    · rw [he 50 h]; rfl
    · rw [he 51 h]; rfl
    · rw [he 52 h]; rfl
    · rw [he 53 h]; rfl
    · rw [he 54 h]; rfl
    · rw [he 55 h]; rfl
    · rw [he 56 h]; rfl
    · rw [he 57 h]; rfl
  have h2 : ((ddB n).data.toList == []) = false := by
    rw [beq_eq_false_iff_ne]
    intro h
    have := dd_one n.natAbs
    have hl : (ddB n).data.toList = Lib.decDigits n.natAbs := by simp [ddB]
    rw [hl] at h
    rw [h] at this
    simp at this
  rw [h2]
  have hl : (ddB n).data.toList = Lib.decDigits n.natAbs := by simp [ddB]
  rw [hl, h1]
  rfl

theorem dec_textN (n : Int) (w : World) (hP : Pow w) (hn : decOk n 0) :
    Calls Tryd.prog 61 #[decV n 0] w fun e w' => e = .returned (.string (itB n)) ∧ Below w.heap.size w w' := by
  have hds := ddB_size n hn
  obtain ⟨_, _, h1, h2⟩ := hn
  have K1 : Hid (∀ W : World, Below w.heap.size w W → Calls Tryd.prog 91 #[.int .i64 n] W fun e w' => e = .returned (.string (itB n)) ∧ Below W.heap.size W w') := Lib.hid (fun W hb => itoa_any n W (by omega) (by omega) (hP.below hb))
  have K2 : Hid (∀ W : World, Calls Tryd.prog 90 #[.string (itB n), .string ⟨#[45]⟩] W fun e w' => e = .returned (.string (ddB n)) ∧ W = w') := Lib.hid (fun W => by
    refine (Tryd.strings_TrimPrefix (itB n) ⟨#[45]⟩ W).mono ?_
    rintro e w' ⟨rfl, rfl⟩
    refine ⟨?_, rfl⟩
    rw [show (⟨#[45]⟩ : ByteArray).data.toList = [45] from rfl, show (itB n).data.toList = Lib.itoa n by simp [itB], (itoa_prefix n).2]
    rfl)
  clear h1 h2 hP
  by_cases h : n < 0
  · have r1 : ∀ W : World, (Op.stringOp .add ⟨#[45]⟩ (ddB n)).run Tryd.prog W = .ok (.string (itB n)) W := fun W => by rw [itB_neg n h]; exact run_string_add_sum W _ _ (by show 1 + _ ≤ _; omega)
    clear hds
    generalize itB n = I at *
    generalize ddB n = D at *
    go_enter Tryd.func61, Tryd.ntmps61
    go_wp2_with fail
    refine (K1.out _ ((Below.refl _ _).alloc (Nat.le_refl _) _)).mono ?_
    rintro e w1 ⟨rfl, hb1⟩
    have s1 := hb1.size
    simp at s1
    have c1 : w1.cell? ⟨w.heap.size, 1, none⟩ = some (.int .i64 0) := carry hb1 (by go_simp)
    go_wp2_with fail
    refine (K2.out _).mono ?_
    rintro e w2 ⟨rfl, rfl⟩
    go_wp2_with fail
    go_ret
    exact ⟨rfl, (by (repeat (first | with_reducible exact Below.refl _ _ | with_reducible refine bel_set ?_ ?_ | with_reducible refine bel_alloc ?_ ?_ | with_reducible refine Below.drew ?_ | with_reducible refine bel_drewN _ ?_ | with_reducible refine bel_call ?_ (by assumption) ?_)); all_goals (first | (simp; done) | omega | (simp; omega)))⟩
  · have r1 : ∀ W : World, (Op.stringOp .add ⟨#[]⟩ (ddB n)).run Tryd.prog W = .ok (.string (itB n)) W := fun W => by rw [itB_pos n h]; exact run_string_add_sum W _ _ (by show 0 + _ ≤ _; omega)
    clear hds
    generalize itB n = I at *
    generalize ddB n = D at *
    go_enter Tryd.func61, Tryd.ntmps61
    go_wp2_with fail
    refine (K1.out _ ((Below.refl _ _).alloc (Nat.le_refl _) _)).mono ?_
    rintro e w1 ⟨rfl, hb1⟩
    have s1 := hb1.size
    simp at s1
    have c1 : w1.cell? ⟨w.heap.size, 1, none⟩ = some (.int .i64 0) := carry hb1 (by go_simp)
    go_wp2_with fail
    refine (K2.out _).mono ?_
    rintro e w2 ⟨rfl, rfl⟩
    go_wp2_with fail
    go_ret
    exact ⟨rfl, (by (repeat (first | with_reducible exact Below.refl _ _ | with_reducible refine bel_set ?_ ?_ | with_reducible refine bel_alloc ?_ ?_ | with_reducible refine Below.drew ?_ | with_reducible refine bel_drewN _ ?_ | with_reducible refine bel_call ?_ (by assumption) ?_)); all_goals (first | (simp; done) | omega | (simp; omega)))⟩

/-- What group.Put tells of digits. -/
def putT (g g2 : Nat) (s : ByteArray) : ByteArray := if g = 0 then s else grpT g (if g2 = 0 then g else g2) s
theorem putT_size (g g2 : Nat) (s : ByteArray) : (putT g g2 s).size ≤ 2 * s.size := by
  unfold putT
  split
  · omega
  · exact grpT_size _ _ _
theorem group_put (g g2 : Nat) (s : ByteArray) (w : World) (h1 : 1 ≤ s.size) (hs : s.size ≤ 100) (hd : digitsB s = true) (hg : g ≤ 4) (hg2 : g2 ≤ 4) (hz : ¬ (g2 ≠ 0 ∧ g = 0)) :
    Calls Tryd.prog 25 #[.string s, .int .i64 g, .int .i64 g2, .int .u8 44] w fun e w' => e = .returned (.tuple #[.string (putT g g2 s), .nilIface]) ∧ Below w.heap.size w w' := by
  unfold putT
  by_cases h : g = 0
  · have h2 : g2 = 0 := by
      rcases Nat.eq_zero_or_pos g2 with h2 | h2
      · exact h2
      · exact absurd ⟨by omega, h⟩ hz
    subst h
    subst h2
    exact group_put0 s w (by omega) hd
  · rw [if_neg h]
    by_cases h2 : g2 = 0
    · subst h2
      rw [if_pos rfl]
      exact group_put_one g s w h1 hs hd (by omega) hg
    · rw [if_neg h2]
      exact group_put_two g g2 s w h1 hs hd (by omega) hg (by omega) hg2

def wholeT (n : Int) (T : ByteArray) : ByteArray := if n < 0 then ⟨#[45]⟩ ++ T else T

theorem format_whole (n : Int) (g g2 : Nat) (w : World) (hM : MaxL w) (hP : Pow w) (hE : patErr ⟨#[]⟩ ⟨#[]⟩ 1 0 3 g g2 = 0) (hn : decOk n 0) (hg : g ≤ 4) (hg2 : g2 ≤ 4) (hz : ¬ (g2 ≠ 0 ∧ g = 0)) :
    Calls Tryd.prog 24 #[patV ⟨#[]⟩ ⟨#[]⟩ 1 0 3 g g2, symV, decV n 0] w fun e w' => e = .returned (.tuple #[.string (wholeT n (putT g g2 (ddB n))), .nilIface]) ∧ Below w.heap.size w w' := by
  have hds := ddB_size n hn
  have hps := putT_size g g2 (ddB n)
  have ht : wholeT n (putT g g2 (ddB n)) = noutText (decide (n < 0)) ⟨#[]⟩ (putT g g2 (ddB n)) 0 ⟨#[]⟩ := by
    unfold wholeT noutText
    by_cases h : n < 0
    · rw [if_pos h, decide_eq_true h]
      apply ByteArray.ext
      apply Array.ext'
      simp
    · rw [if_neg h, decide_eq_false h]
      apply ByteArray.ext
      apply Array.ext'
      simp
  rw [ht]
  have hl : (itB n).data.toList = Lib.itoa n := by simp [itB]
  have hl2 : (ddB n).data.toList = Lib.decDigits n.natAbs := by simp [ddB]
  have hit : (itB n).size ≤ 20 := by
    by_cases h : n < 0
    · rw [itB_neg n h, ByteArray.size_append]; show 1 + _ ≤ _; omega
    · rw [itB_pos n h, ByteArray.size_append]; show 0 + _ ≤ _; omega
  exact nout_format ⟨#[]⟩ ⟨#[]⟩ 1 0 3 g g2 n (itB n) (ddB n) (putT g g2 (ddB n)) (decide (n < 0)) 0 (by omega) w hM (by decide) (by decide) hE (by omega) (by omega) (by omega) hn
    (fun W hb => dec_textN n W (hP.below hb) hn) hit (by rw [hl]; exact itoa_cut n) (by rw [hl, hl2]; exact (itoa_prefix n).2) (by rw [hl]; exact (itoa_prefix n).1) (by omega)
    (fun W => by
      have hz0 : zeros 0 ++ ddB n = ddB n := by
        unfold zeros
        apply ByteArray.ext
        apply Array.ext'
        simp [Lib.repeatL]
      rw [hz0]
      exact group_put g g2 (ddB n) W hds.1 (by omega) (ddB_digits n) hg hg2 hz)
    (by omega)

theorem nout_format_big (p q : ByteArray) (mi mf xf g g2 n : Int) (w : World) (hp : p.size ≤ 9223372036854775807) (hq : q.size ≤ 9223372036854775807) (hE : patErr p q mi mf xf g g2 = 0) (hn : ¬ decOk n 0) :
    Calls Tryd.prog 24 #[patV p q mi mf xf g g2, symV, decV n 0] w fun e w' => e = .returned (.tuple #[.string ⟨#[]⟩, errV 1]) ∧ Below w.heap.size w w' := by
  have KP : Hid (∀ W : World, Calls Tryd.prog 56 #[patV p q mi mf xf g g2, symV] W fun e w' => e = .returned .nilIface ∧ Below W.heap.size W w') := Lib.hid (fun W => by have := nout_check p q mi mf xf g g2 W hp hq; rw [hE] at this; exact this)
  have KD := Lib.hid (fun W => dec_check_no n 0 W hn)
  clear hE hn hp hq
  go_enter Tryd.func24, Tryd.ntmps24
  go_wp2_with fail
  refine (KP.out _).mono ?_
  rintro e w1 ⟨rfl, hb1⟩
  have s1 := hb1.size
  simp at s1
  have c0 : w1.cell? ⟨w.heap.size + 1 + 1, 0, none⟩ = some (.int .i64 n) := carry hb1 (by go_simp)
  have c1 : w1.cell? ⟨w.heap.size + 1 + 1, 1, none⟩ = some (.int .i64 0) := carry hb1 (by go_simp)
  go_wp2_with fail
  refine (KD.out _).mono ?_
  rintro e w2 ⟨rfl, hb2⟩
  have s2 := hb2.size
  go_wp2_with fail
  go_ret2
  exact ⟨rfl, (by (repeat (first | with_reducible exact Below.refl _ _ | with_reducible refine bel_set ?_ ?_ | with_reducible refine bel_alloc ?_ ?_ | with_reducible refine Below.drew ?_ | with_reducible refine bel_drewN _ ?_ | with_reducible refine bel_call ?_ (by assumption) ?_)); all_goals (first | (simp; done) | omega | (simp; omega)))⟩

theorem put_const (w : World) : Calls Tryd.prog 25 #[.string ⟨#[49, 50, 51, 52, 53]⟩, .int .i64 3, .int .i64 0, .int .u8 44] w fun e w' => e = .returned (.tuple #[.string ⟨#[49, 50, 44, 51, 52, 53]⟩, .nilIface]) ∧ Below w.heap.size w w' :=
  group_put_one 3 ⟨#[49, 50, 51, 52, 53]⟩ w (by decide) (by decide) (by unfold digitsB; rw [Lib.toList_data]; decide) (by omega) (by omega)

set_option maxHeartbeats 1000000 in
theorem whole_err (n g g2 : Int) (w : World) (E : Value) (hE0 : (∃ k : Int, E = errT k))
    (hF : ∀ W : World, Calls Tryd.prog 24 #[patV ⟨#[]⟩ ⟨#[]⟩ 1 0 3 g g2, symV, decV n 0] W fun e w' => e = .returned (.tuple #[.string ⟨#[]⟩, E]) ∧ Below W.heap.size W w') :
    Calls Tryd.prog 7 #[.int .i64 n, .int .i64 g, .int .i64 g2] w fun e w' => e = .returned (.bool true) ∧ Below w.heap.size w w' := by
  obtain ⟨k, rfl⟩ := hE0
  have KF := Lib.hid hF
  have KC := Lib.hid (fun W => put_const W)
  clear hF
  go_enter Tryd.func7, Tryd.ntmps7
  go_wp2_with fail
  refine (KF.out _).mono ?_
  rintro e w1 ⟨rfl, hb1⟩
  have s1 := hb1.size
  simp at s1
  go_wp2_with fail
  refine (KC.out _).mono ?_
  rintro e w2 ⟨rfl, hb2⟩
  go_wp2_with fail
  go_ret
  exact ⟨rfl, (by (repeat (first | with_reducible exact Below.refl _ _ | with_reducible refine bel_set ?_ ?_ | with_reducible refine bel_alloc ?_ ?_ | with_reducible refine Below.drew ?_ | with_reducible refine bel_drewN _ ?_ | with_reducible refine bel_call ?_ (by assumption) ?_)); all_goals (first | (simp; done) | omega | (simp; omega)))⟩

set_option maxHeartbeats 1000000 in
theorem whole_ok (n : Int) (g g2 : Nat) (w : World) (hM : MaxL w) (hP : Pow w) (hE : patErr ⟨#[]⟩ ⟨#[]⟩ 1 0 3 g g2 = 0) (hn : decOk n 0) (hg : g ≤ 4) (hg2 : g2 ≤ 4) (hz : ¬ (g2 ≠ 0 ∧ g = 0)) :
    Calls Tryd.prog 7 #[.int .i64 n, .int .i64 g, .int .i64 g2] w fun e w' => e = .returned (.bool true) ∧ Below w.heap.size w w' := by
  have hds := ddB_size n hn
  have hps := putT_size g g2 (ddB n)
  have hb := hn
  obtain ⟨_, _, b1, b2⟩ := hb
  have KF : Hid (∀ W : World, Below w.heap.size w W → _) := Lib.hid (fun W (h : Below w.heap.size w W) => format_whole n g g2 W (hM.below h) (hP.below h) hE hn hg hg2 hz)
  have KC := Lib.hid (fun W => put_const W)
  have KS := Lib.hid (fun W => ref_size n W (by omega) (by omega))
  have KD : Hid (∀ W : World, Calls Tryd.prog 26 #[.int .i64 n.natAbs, .int .i64 0] W fun e w' => e = .returned (.string (ddB n)) ∧ Below W.heap.size W w') := Lib.hid (fun W => ref_digits n.natAbs n.natAbs (Nat.le_refl _) (by omega) W)
  have KG := Lib.hid (fun W => group_put g g2 (ddB n) W hds.1 (by omega) (ddB_digits n) hg hg2 hz)
  generalize ddB n = D at *
  generalize putT g g2 D = T at *
  generalize n.natAbs = a at *
  unfold wholeT at KF
  by_cases h : n < 0
  · rw [if_pos h] at KF
    have r1 : ∀ W : World, (Op.stringOp .add ⟨#[45]⟩ T).run Tryd.prog W = .ok (.string (⟨#[45]⟩ ++ T)) W := fun W => run_string_add_sum W _ _ (by show 1 + _ ≤ _; omega)
    generalize (⟨#[45]⟩ : ByteArray) ++ T = V at *
    clear hM hP hE hn hg hg2 hz hds hps b1 b2
    go_enter Tryd.func7, Tryd.ntmps7
    go_wp2_with fail
    refine (KF.out _ (by (repeat (first | with_reducible exact Below.refl _ _ | with_reducible refine bel_set ?_ ?_ | with_reducible refine bel_alloc ?_ ?_ | with_reducible refine Below.drew ?_ | with_reducible refine bel_drewN _ ?_ | with_reducible refine bel_call ?_ (by assumption) ?_)); all_goals (first | (simp; done) | omega | (simp; omega)))).mono ?_
    rintro e w1 ⟨rfl, hb1⟩
    have s1 := hb1.size
    simp at s1
    go_wp2_with fail
    refine (KC.out _).mono ?_
    rintro e w2 ⟨rfl, hb2⟩
    have s2 := hb2.size
    go_wp2_with fail
    refine (KS.out _).mono ?_
    rintro e w3 ⟨rfl, rfl⟩
    go_wp2_with fail
    refine (KD.out _).mono ?_
    rintro e w4 ⟨rfl, hb4⟩
    have s4 := hb4.size
    go_wp2_with fail
    refine (KG.out _).mono ?_
    rintro e w5 ⟨rfl, hb5⟩
    have s5 := hb5.size
    go_wp2_with fail
    go_ret
    exact ⟨rfl, (by (repeat (first | with_reducible exact Below.refl _ _ | with_reducible refine bel_set ?_ ?_ | with_reducible refine bel_alloc ?_ ?_ | with_reducible refine Below.drew ?_ | with_reducible refine bel_drewN _ ?_ | with_reducible refine bel_call ?_ (by assumption) ?_)); all_goals (first | (simp; done) | omega | (simp; omega)))⟩
  · rw [if_neg h] at KF
    clear hM hP hE hn hg hg2 hz hds hps b1 b2
    go_enter Tryd.func7, Tryd.ntmps7
    go_wp2_with fail
    refine (KF.out _ (by (repeat (first | with_reducible exact Below.refl _ _ | with_reducible refine bel_set ?_ ?_ | with_reducible refine bel_alloc ?_ ?_ | with_reducible refine Below.drew ?_ | with_reducible refine bel_drewN _ ?_ | with_reducible refine bel_call ?_ (by assumption) ?_)); all_goals (first | (simp; done) | omega | (simp; omega)))).mono ?_
    rintro e w1 ⟨rfl, hb1⟩
    have s1 := hb1.size
    simp at s1
    go_wp2_with fail
    refine (KC.out _).mono ?_
    rintro e w2 ⟨rfl, hb2⟩
    have s2 := hb2.size
    go_wp2_with fail
    refine (KS.out _).mono ?_
    rintro e w3 ⟨rfl, rfl⟩
    go_wp2_with fail
    refine (KD.out _).mono ?_
    rintro e w4 ⟨rfl, hb4⟩
    have s4 := hb4.size
    go_wp2_with fail
    refine (KG.out _).mono ?_
    rintro e w5 ⟨rfl, hb5⟩
    have s5 := hb5.size
    go_wp2_with fail
    go_ret
    exact ⟨rfl, (by (repeat (first | with_reducible exact Below.refl _ _ | with_reducible refine bel_set ?_ ?_ | with_reducible refine bel_alloc ?_ ?_ | with_reducible refine Below.drew ?_ | with_reducible refine bel_drewN _ ?_ | with_reducible refine bel_call ?_ (by assumption) ?_)); all_goals (first | (simp; done) | omega | (simp; omega)))⟩

theorem walkW (n g g2 : Int) (w : World) (hM : MaxL w) (hP : Pow w) :
    Calls Tryd.prog 7 #[.int .i64 n, .int .i64 g, .int .i64 g2] w fun e w' => e = .returned (.bool true) ∧ Below w.heap.size w w' := by
  by_cases hE : patErr ⟨#[]⟩ ⟨#[]⟩ 1 0 3 g g2 = 0
  · by_cases hn : decOk n 0
    · have hE' := hE
      unfold patErr at hE
      have h1 : ¬ (affB ⟨#[]⟩ = false ∨ affB ⟨#[]⟩ = false) := by decide
      rw [if_neg h1] at hE
      by_cases h2 : ¬ PatIn 1 0 3 g g2
      · rw [if_pos h2] at hE; exact absurd hE (by decide)
      · have h3 : PatIn 1 0 3 g g2 := Decidable.of_not_not h2
        rw [if_neg h2] at hE
        obtain ⟨_, _, _, _, _, _, c1, c2, c3, c4⟩ := h3
        obtain ⟨a, rfl⟩ := Int.eq_ofNat_of_zero_le c1
        obtain ⟨b, rfl⟩ := Int.eq_ofNat_of_zero_le c3
        refine whole_ok n a b w hM hP hE' hn (by omega) (by omega) ?_
        rintro ⟨k1, k2⟩
        rw [if_pos ⟨by omega, by omega⟩] at hE
        exact absurd hE (by decide)
    · exact whole_err n g g2 w _ ⟨1, rfl⟩ (fun W => nout_format_big ⟨#[]⟩ ⟨#[]⟩ 1 0 3 g g2 n W (by decide) (by decide) hE hn)
  · exact whole_err n g g2 w _ ⟨_, rfl⟩ (fun W => nout_format_no ⟨#[]⟩ ⟨#[]⟩ 1 0 3 g g2 n W (by decide) (by decide) hE)
end Go.Proofs.YtdpdnanjanceeaaDoor
