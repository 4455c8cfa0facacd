/- NpatPlain: the walk. -/
import Derived.Test.YtdpdnanjanceeaaDoorPatText
import Derived.Test.YtdpdnanjanceeaaDoorNout
namespace Go.Proofs.YtdpdnanjanceeaaDoor
open Go.RowKit

theorem zeros_last (a : Nat) (ha : 1 ≤ a) : zeros (a - 1) ++ ⟨#[48]⟩ = ⟨(Lib.repeatL [48] a).toArray⟩ := by
  unfold zeros
  have h : Lib.repeatL [48] a = Lib.repeatL [48] (a - 1) ++ [48] := by
    have := Lib.repeatL_add [48] (a - 1) 1
    rw [Lib.repeatL_one, show a - 1 + 1 = a by omega] at this
    exact this
  rw [h]
  apply ByteArray.ext
  apply Array.ext'
  simp

theorem zeros_digits (a : Nat) (ha : 1 ≤ a) : digitsB ⟨(Lib.repeatL [48] a).toArray⟩ = true := by
  obtain ⟨b, rfl⟩ : ∃ b, a = b + 1 := ⟨a - 1, by omega⟩
  have h : Lib.repeatL [48] (b + 1) = List.replicate (b + 1) 48 := by
    have := Lib.repeatL_replicate 48 1 (b + 1)
    rw [Nat.mul_one] at this
    exact this
  unfold digitsB
  rw [Lib.toList_data]
  show (!((Lib.repeatL [48] (b + 1)) == []) && (Lib.repeatL [48] (b + 1)).all _) = true
  rw [h]
  have h1 : (List.replicate (b + 1) (48 : UInt8)).all (digs.data.toList.contains ·) = true := by
    rw [List.all_eq_true]
    intro x hx
    rw [List.eq_of_mem_replicate hx]
    rfl
  rw [h1, List.replicate_succ]
  rfl

theorem same_text (p q : ByteArray) (a b : Nat) : patText p q a b = noutText false p ⟨(Lib.repeatL [48] a).toArray⟩ b q := by
  unfold patText noutText patBody
  apply ByteArray.ext
  apply Array.ext'
  simp

theorem affB_size {p : ByteArray} (h : affB p = true) : p.size ≤ 5 := by
  unfold affB at h
  rw [Bool.and_eq_true] at h
  exact of_decide_eq_true h.1

theorem format_zero (p q : ByteArray) (a b : Nat) (w : World) (hM : MaxL w) (hp : p.size ≤ 5) (hq : q.size ≤ 5) (hE : patErr p q a b b 0 0 = 0) (ha : 1 ≤ a) (ha2 : a ≤ 9) (hb : b ≤ 6) :
    Calls Tryd.prog 24 #[patV p q a b b 0 0, symV, decV 0 0] w fun e w' => e = .returned (.tuple #[.string (patText p q a b), .nilIface]) ∧ Below w.heap.size w w' := by
  rw [same_text]
  exact nout_format p q a b b 0 0 0 ⟨#[48]⟩ ⟨#[48]⟩ ⟨(Lib.repeatL [48] a).toArray⟩ false (a - 1) rfl w hM hp hq hE ha2 hb (by omega) (by unfold decOk; omega)
    (fun W _ => dec_text0 W) (by decide) (by decide) (by decide) (by decide) (by decide)
    (fun W => by
      rw [zeros_last a ha]
      exact group_put0 _ W (by show (Lib.repeatL [48] a).length ≤ _; rw [Lib.repeatL_length]; simp; omega) (zeros_digits a ha))
    (by show (Lib.repeatL [48] a).length ≤ _; rw [Lib.repeatL_length]; simp; omega)

set_option maxHeartbeats 2000000 in
theorem walk_ok (p q : ByteArray) (a b : Nat) (mf g g2 : Int) (w : World) (hM : MaxL w) (hp : p.size ≤ 5) (hq : q.size ≤ 5) (hE : patErr p q a b b 0 0 = 0) (ha : 1 ≤ a) (ha2 : a ≤ 9) (hb : b ≤ 6) :
    Calls Tryd.prog 8 #[patV p q a mf b g g2] w fun e w' => e = .returned (.bool true) ∧ Below w.heap.size w w' := by
  have K3 := Lib.hid (fun W => npat_text3 W)
  have K0 := Lib.hid (fun W => npat_text0 p q a b W hp hq hE ha ha2 hb)
  have KF : Hid (∀ W : World, Below w.heap.size w W → _) := Lib.hid (fun W (h : Below w.heap.size w W) => format_zero p q a b W (hM.below h) hp hq hE ha ha2 hb)
  generalize patText p q a b = R at *
  clear hp hq hE ha ha2 hb hM
  go_enter Tryd.func8, Tryd.ntmps8
  go_wp2_with fail
  refine (K3.out _).mono ?_
  rintro e w1 ⟨rfl, hb1⟩
  obtain ⟨⟨c0, c1⟩, ⟨c2, c3⟩, ⟨c4, c5, c6⟩, hs, hB⟩ := pat_cells hb1
  have f3 : w1.frozen? ⟨w.heap.size, 3, none⟩ = false := carryF hb1 (by simp) (by go_simp)
  have f5 : w1.frozen? ⟨w.heap.size, 5, none⟩ = false := carryF hb1 (by simp) (by go_simp)
  have f6 : w1.frozen? ⟨w.heap.size, 6, none⟩ = false := carryF hb1 (by simp) (by go_simp)
  clear hb1
  obtain ⟨W, eW⟩ : ∃ W, W = (((w1.setCell ⟨w.heap.size, 5, none⟩ (.int .i64 0)).setCell ⟨w.heap.size, 6, none⟩ (.int .i64 0)).setCell ⟨w.heap.size, 3, none⟩ (.int .i64 b)) := ⟨_, rfl⟩
  have q0 : W.cell? ⟨w.heap.size, 0, none⟩ = some (.string p) := by rw [eW]; go_simp
  have q1 : W.cell? ⟨w.heap.size, 1, none⟩ = some (.string q) := by rw [eW]; go_simp
  have q2 : W.cell? ⟨w.heap.size, 2, none⟩ = some (.int .i64 a) := by rw [eW]; go_simp
  have q3 : W.cell? ⟨w.heap.size, 3, none⟩ = some (.int .i64 b) := by rw [eW]; go_simp
  have q4 : W.cell? ⟨w.heap.size, 4, none⟩ = some (.int .i64 b) := by rw [eW]; go_simp
  have q5 : W.cell? ⟨w.heap.size, 5, none⟩ = some (.int .i64 0) := by rw [eW]; go_simp
  have q6 : W.cell? ⟨w.heap.size, 6, none⟩ = some (.int .i64 0) := by rw [eW]; go_simp
  have hBW : Below w.heap.size w W := by rw [eW]; exact (by (repeat (first | with_reducible exact Below.refl _ _ | with_reducible refine bel_set ?_ ?_ | with_reducible refine bel_alloc ?_ ?_ | with_reducible refine Below.drew ?_ | with_reducible refine bel_drewN _ ?_ | with_reducible refine bel_call ?_ (by assumption) ?_)); all_goals (first | (simp; done) | omega | (simp; omega)))
  have hsW : w.heap.size + 1 ≤ W.heap.size := by rw [eW]; simp; omega
  go_wp2_with fail
  rw [← eW]
  clear eW c0 c1 c2 c3 c4 c5 c6 hs hB f3 f5 f6
  refine (K0.out _).mono ?_
  rintro e w2 ⟨rfl, hb2⟩
  have hB2 : Below w.heap.size w w2 := hBW.trans (hb2.mono (by omega))
  have u0 := carry hb2 q0
  have u1 := carry hb2 q1
  have u2 := carry hb2 q2
  have u3 := carry hb2 q3
  have u4 := carry hb2 q4
  have u5 := carry hb2 q5
  have u6 := carry hb2 q6
  have hs2 := hb2.size
  clear hb2 q0 q1 q2 q3 q4 q5 q6
  go_wp2_with fail
  refine (KF.out _ hB2).mono ?_
  rintro e w3 ⟨rfl, hb3⟩
  go_wp2_with fail
  go_ret
  exact ⟨rfl, hB2.trans (hb3.mono (by omega))⟩

set_option maxHeartbeats 2000000 in
theorem walk_no (p q : ByteArray) (mi xf : Int) (mf g g2 : Int) (w : World) (hp : p.size ≤ 9223372036854775807) (hq : q.size ≤ 9223372036854775807) (hE : patErr p q mi xf xf 0 0 ≠ 0) :
    Calls Tryd.prog 8 #[patV p q mi mf xf g g2] w fun e w' => e = .returned (.bool true) ∧ Below w.heap.size w w' := by
  have K3 := Lib.hid (fun W => npat_text3 W)
  have K0 := Lib.hid (fun W => npat_text_no p q mi xf xf 0 0 W hp hq hE)
  have KF : Hid (∀ W : World, Below w.heap.size w W → _) := Lib.hid (fun W (_ : Below w.heap.size w W) => nout_format_no p q mi xf xf 0 0 0 W hp hq hE)
  generalize patErr p q mi xf xf 0 0 = E at *
  clear hp hq hE
  go_enter Tryd.func8, Tryd.ntmps8
  go_wp2_with fail
  refine (K3.out _).mono ?_
  rintro e w1 ⟨rfl, hb1⟩
  obtain ⟨⟨c0, c1⟩, ⟨c2, c3⟩, ⟨c4, c5, c6⟩, hs, hB⟩ := pat_cells hb1
  have f3 : w1.frozen? ⟨w.heap.size, 3, none⟩ = false := carryF hb1 (by simp) (by go_simp)
  have f5 : w1.frozen? ⟨w.heap.size, 5, none⟩ = false := carryF hb1 (by simp) (by go_simp)
  have f6 : w1.frozen? ⟨w.heap.size, 6, none⟩ = false := carryF hb1 (by simp) (by go_simp)
  clear hb1
  obtain ⟨W, eW⟩ : ∃ W, W = (((w1.setCell ⟨w.heap.size, 5, none⟩ (.int .i64 0)).setCell ⟨w.heap.size, 6, none⟩ (.int .i64 0)).setCell ⟨w.heap.size, 3, none⟩ (.int .i64 xf)) := ⟨_, rfl⟩
  have q0 : W.cell? ⟨w.heap.size, 0, none⟩ = some (.string p) := by rw [eW]; go_simp
  have q1 : W.cell? ⟨w.heap.size, 1, none⟩ = some (.string q) := by rw [eW]; go_simp
  have q2 : W.cell? ⟨w.heap.size, 2, none⟩ = some (.int .i64 mi) := by rw [eW]; go_simp
  have q3 : W.cell? ⟨w.heap.size, 3, none⟩ = some (.int .i64 xf) := by rw [eW]; go_simp
  have q4 : W.cell? ⟨w.heap.size, 4, none⟩ = some (.int .i64 xf) := by rw [eW]; go_simp
  have q5 : W.cell? ⟨w.heap.size, 5, none⟩ = some (.int .i64 0) := by rw [eW]; go_simp
  have q6 : W.cell? ⟨w.heap.size, 6, none⟩ = some (.int .i64 0) := by rw [eW]; go_simp
  have hBW : Below w.heap.size w W := by rw [eW]; exact (by (repeat (first | with_reducible exact Below.refl _ _ | with_reducible refine bel_set ?_ ?_ | with_reducible refine bel_alloc ?_ ?_ | with_reducible refine Below.drew ?_ | with_reducible refine bel_drewN _ ?_ | with_reducible refine bel_call ?_ (by assumption) ?_)); all_goals (first | (simp; done) | omega | (simp; omega)))
  have hsW : w.heap.size + 1 ≤ W.heap.size := by rw [eW]; simp; omega
  go_wp2_with fail
  rw [← eW]
  clear eW c0 c1 c2 c3 c4 c5 c6 hs hB f3 f5 f6
  refine (K0.out _).mono ?_
  rintro e w2 ⟨rfl, hb2⟩
  have hB2 : Below w.heap.size w w2 := hBW.trans (hb2.mono (by omega))
  have u0 := carry hb2 q0
  have u1 := carry hb2 q1
  have u2 := carry hb2 q2
  have u3 := carry hb2 q3
  have u4 := carry hb2 q4
  have u5 := carry hb2 q5
  have u6 := carry hb2 q6
  have hs2 := hb2.size
  clear hb2 q0 q1 q2 q3 q4 q5 q6
  go_wp2_with fail
  refine (KF.out _ hB2).mono ?_
  rintro e w3 ⟨rfl, hb3⟩
  go_wp2_with fail
  go_ret
  exact ⟨rfl, hB2.trans (hb3.mono (by omega))⟩

theorem walk (p q : ByteArray) (mi mf xf g g2 : Int) (w : World) (hM : MaxL w) (hp : p.size ≤ 9223372036854775807) (hq : q.size ≤ 9223372036854775807) :
    Calls Tryd.prog 8 #[patV p q mi mf xf g g2] w fun e w' => e = .returned (.bool true) ∧ Below w.heap.size w w' := by
  by_cases hE : patErr p q mi xf xf 0 0 = 0
  · have hE' := hE
    unfold patErr at hE
    by_cases h1 : affB p = false ∨ affB q = false
    · rw [if_pos h1] at hE; exact absurd hE (by decide)
    · rw [if_neg h1] at hE
      have a1 : affB p = true := by cases hh : affB p; exact absurd (.inl hh) h1; rfl
      have a2 : affB q = true := by cases hh : affB q; exact absurd (.inr hh) h1; rfl
      by_cases h2 : ¬ PatIn mi xf xf 0 0
      · rw [if_pos h2] at hE; exact absurd hE (by decide)
      · have h3 : PatIn mi xf xf 0 0 := Decidable.of_not_not h2
        obtain ⟨b1, b2, b3, b4, _, _, _, _, _, _⟩ := h3
        obtain ⟨a, rfl⟩ := Int.eq_ofNat_of_zero_le (show 0 ≤ mi by omega)
        obtain ⟨b, rfl⟩ := Int.eq_ofNat_of_zero_le b3
        exact walk_ok p q a b mf g g2 w hM (affB_size a1) (affB_size a2) hE' (by omega) (by omega) (by omega)
  · exact walk_no p q mi xf mf g g2 w hp hq hE
end Go.Proofs.YtdpdnanjanceeaaDoor
