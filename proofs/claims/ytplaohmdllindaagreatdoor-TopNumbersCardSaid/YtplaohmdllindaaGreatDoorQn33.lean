/- DecText: texts put together. -/
import Derived.Test.YtplaohmdllindaaGreatDoorQn2
import Derived.Test.YtplaohmdllindaaGreatDoorQn6
import Derived.Test.YtplaohmdllindaaGreatDoorQn9
import Derived.Deep.QuietTactic
import Derived.BigQuiet
import Derived.Test.YtplaohmdllindaaGreatDoorQn1
set_option linter.unusedVariables false
set_option linter.unusedSimpArgs false
/- dec.Text. -/
namespace Go.Proofs.YtplaohmdllindaaGreatDoor
open Go.RowKit

set_option maxHeartbeats 2000000 in
theorem dec_text (c : Int) (s : Nat) (w : World) (hP : Pow w) (h : decOk c s) :
    Calls Tryz.prog 35 #[decV c s] w fun e w' => e = .returned (.string (decT c s)) ∧ Below w.heap.size w w' := by
  obtain ⟨h1, h2, h3, h4⟩ := h
  have hds := ddB_size c ⟨by omega, by omega, h3, h4⟩
  have K1 : Hid (∀ W : World, Below w.heap.size w W → Calls Tryz.prog 78 #[.int .i64 c] W fun e w' => e = .returned (.string (itB c)) ∧ Below W.heap.size W w') := Lib.hid (fun W hb => itoa_any c W (by omega) (by omega) (hP.below hb))
  have K2 : Hid (∀ W : World, Calls Tryz.prog 40 #[.string (itB c), .string ⟨#[45]⟩] W fun e w' => e = .returned (.string (ddB c)) ∧ W = w') := Lib.hid (fun W => by
    refine (Tryz.strings_TrimPrefix (itB c) ⟨#[45]⟩ W).mono ?_
    rintro e w' ⟨rfl, rfl⟩
    refine ⟨?_, rfl⟩
    rw [show (⟨#[45]⟩ : ByteArray).data.toList = [45] from rfl, show (itB c).data.toList = Lib.itoa c by simp [itB], (itoa_prefix c).2]
    rfl)
  have hsg : (signB c).size ≤ 1 := by unfold signB; split <;> decide
  have HS : Hid (∀ S, S = signB c → (c < 0 ∧ S = ⟨#[45]⟩) ∨ (¬ c < 0 ∧ S = ⟨#[]⟩)) := Lib.hid (fun S hS => by
    subst hS
    unfold signB
    by_cases h : c < 0
    · exact .inl ⟨h, if_pos h⟩
    · exact .inr ⟨h, if_neg h⟩)
  by_cases h0 : s = 0
  · subst h0
    have hT : decT c 0 = signB c ++ ddB c := by unfold decT; rw [if_pos rfl]
    have HT := Lib.hid hT
    have r1 : ∀ W : World, (Op.stringOp .add (signB c) (ddB c)).run Tryz.prog W = .ok (.string (decT c 0)) W := fun W => by rw [HT.out]; exact run_string_add_sum W _ _ (by omega)
    have HS2 := Lib.hid (HS.out _ rfl)
    show Calls Tryz.prog 35 #[.agg #[.int .i64 c, .int .i64 0]] w _
    clear hT hP HT hds HS
    generalize decT c 0 = T at *
    generalize signB c = S at *
    generalize itB c = I at *
    generalize ddB c = D at *
    rcases HS2.out with ⟨hn, rfl⟩ | ⟨hn, rfl⟩
    all_goals
      clear HS2
      go_enter Tryz.func35, Tryz.ntmps35
      go_wp2_with fail
      refine (K1.out _ ((Below.refl _ _).alloc (Nat.le_refl _) _)).mono ?_
      rintro e w1 ⟨rfl, hb1⟩
      have s1 := hb1.size
      simp at s1
      have c1 : w1.cell? ⟨w.heap.size, 1, none⟩ = some (.int .i64 0) := carry hb1 (by go_simp)
      go_wp2_with fail
      refine (K2.out _).mono ?_
      rintro e w2 ⟨rfl, rfl⟩
      go_wp2_with fail
      go_ret
      exact ⟨rfl, belx⟩
  · have hps := padB_size c s
    have HT : Hid (decT c s = signB c ++ (padB c s).extract 0 ((padB c s).size - s) ++ ⟨#[46]⟩ ++ (padB c s).extract ((padB c s).size - s) (padB c s).size) := Lib.hid (by unfold decT; rw [if_neg h0])
    have K3 : Hid (∀ W : World, Calls Tryz.prog 37 #[.string ⟨#[48]⟩, .int .i64 ((s + 1 - (ddB c).size : Nat) : Int)] W fun e w' => e = .returned (.string ⟨(Lib.repeatL [48] (s + 1 - (ddB c).size)).toArray⟩) ∧ Below W.heap.size W w') := Lib.hid (fun W => Tryz.strings_Repeat ⟨#[48]⟩ (s + 1 - (ddB c).size) W (by omega) (by show 1 * _ ≤ _; omega))
    have hZ : (⟨(Lib.repeatL [48] (s + 1 - (ddB c).size)).toArray⟩ : ByteArray).size = s + 1 - (ddB c).size := by
      show (Lib.repeatL [48] (s + 1 - (ddB c).size)).length = _
      rw [Lib.repeatL_length]; simp
    have r1 : ∀ W : World, (Op.stringOp .add ⟨(Lib.repeatL [48] (s + 1 - (ddB c).size)).toArray⟩ (ddB c)).run Tryz.prog W = .ok (.string (padB c s)) W := fun W => by
      have e : padB c s = ⟨(Lib.repeatL [48] (s + 1 - (ddB c).size)).toArray⟩ ++ ddB c := by
        unfold padB
        apply ByteArray.ext
        apply Array.ext'
        simp
      rw [e]
      exact run_string_add_sum W _ _ (by rw [hZ]; omega)
    have hm : max (0 : Int) ((s : Int) + 1 - ((ddB c).size : Int)) = ((s + 1 - (ddB c).size : Nat) : Int) := by omega
    have HS2 := Lib.hid (HS.out _ rfl)
    have hp1 : s + 1 ≤ (padB c s).size := by omega
    have hp2 : (padB c s).size ≤ 26 := by omega
    clear hps hP hZ HS
    generalize (⟨(Lib.repeatL [48] (s + 1 - (ddB c).size)).toArray⟩ : ByteArray) = Z at *
    generalize decT c s = T at *
    generalize padB c s = P at *
    generalize signB c = S at *
    generalize itB c = I at *
    generalize ddB c = D at *
    have hs0 : ¬ ((s : Int) ≤ 0) := by omega
    obtain ⟨k, hk⟩ : ∃ k, P.size = k + s := ⟨P.size - s, by omega⟩
    rw [show P.size - s = k by omega] at HT
    have hks : (P.size : Int) - (s : Int) = (k : Int) := by omega
    have i1 : (0 : Int) ≤ (k : Int) := by omega
    have i2 : (k : Int) ≤ (P.size : Int) := by omega
    have e1 : (P.extract 0 k).size ≤ 26 := by rw [ByteArray.size_extract]; omega
    have e2 : (P.extract k P.size).size ≤ 26 := by rw [ByteArray.size_extract]; omega
    clear hk
    rcases HS2.out with ⟨hn, rfl⟩ | ⟨hn, rfl⟩
    all_goals
      clear HS2
      go_enter Tryz.func35, Tryz.ntmps35
      go_wp2_with fail
      refine (K1.out _ ((Below.refl _ _).alloc (Nat.le_refl _) _)).mono ?_
      rintro e w1 ⟨rfl, hb1⟩
      have s1 := hb1.size
      simp at s1
      have c1 : w1.cell? ⟨w.heap.size, 1, none⟩ = some (.int .i64 s) := carry hb1 (by go_simp)
      have HB1 : Hid (Below w.heap.size w w1) := Lib.hid belx
      go_wp2_with fail
      refine (K2.out _).mono ?_
      rintro e w2 ⟨rfl, rfl⟩
      go_wp2_with fail
      refine (K3.out _).mono ?_
      rintro e w3 ⟨rfl, hb3⟩
      have c3 := carry hb3 c1
      have HB3 : Hid (Below w.heap.size w w3) := Lib.hid (HB1.out.trans (hb3.mono HB1.out.size))
      clear hm hb1 hb3 c1
      go_wp2_with fail
      clear hks
      go_quiet (fail)
      go_wp2_with fail
      go_ret
      rw [HT.out]
      exact ⟨rfl, bel_drewN _ HB3.out⟩
end Go.Proofs.YtplaohmdllindaaGreatDoor
