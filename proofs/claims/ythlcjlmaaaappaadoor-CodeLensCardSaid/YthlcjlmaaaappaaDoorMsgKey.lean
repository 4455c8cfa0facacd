/- msg.key. -/
import Derived.Test.YthlcjlmaaaappaaDoorNameCode
import Derived.Test.YthlcjlmaaaappaaDoorMsgExact
namespace Go.Proofs.YthlcjlmaaaappaaDoor
open Go.RowKit

def kinds6 : List ByteArray := [⟨#[122, 101, 114, 111]⟩, ⟨#[111, 110, 101]⟩, ⟨#[116, 119, 111]⟩, ⟨#[102, 101, 119]⟩, ⟨#[109, 97, 110, 121]⟩, ⟨#[111, 116, 104, 101, 114]⟩]
/-- The six kinds lie in the world. -/
def MKinds (w : World) : Prop := ∃ b o c : Nat, w.cell? ⟨0, 0, none⟩ = some (.slice (some ⟨b, o, none⟩) 6 c) ∧ ∀ j, j < 6 → w.cell? ⟨b, o + j, none⟩ = some (.string (kinds6.getD j ⟨#[]⟩))
theorem MKinds.below {w w' : World} (h : MKinds w) (hb : Below w.heap.size w w') : MKinds w' := by
  obtain ⟨b, o, c, h1, h2⟩ := h
  exact ⟨b, o, c, carry hb h1, fun j hj => carry hb (h2 j hj)⟩
/-- Whether a key is right of a node of that kind. -/
def keyB (kd : Int) (k : ByteArray) : Bool := if kd = 5 then nameB k.data.toList else Lib.containsS kinds6 k || decide (0 ≤ exC k.data.toList)

theorem msg_key (kd off : Int) (t k : ByteArray) (A : Option Addr) (n c : Nat) (w : World) (hE : RuleEnv w) (hK : MKinds w) (hk : k.size ≤ 281474976710656) :
    Calls Tryd.prog 25 #[.agg #[.int .i64 kd, .string t, .int .i64 off, .slice A n c], .string k] w fun e w' => e = .returned (.bool (keyB kd k)) ∧ Below w.heap.size w w' := by
  by_cases h5 : kd = 5
  · subst h5
    have HD : Hid (keyB 5 k = nameB k.data.toList) := Lib.hid rfl
    clear hE hK
    go_enter Tryd.func25, Tryd.ntmps25
    go_wp2_with fail
    refine (name_code k _ (by omega)).mono ?_
    rintro e w1 ⟨rfl, hb1⟩
    go_wp2_with fail
    go_ret
    exact ⟨ret_bool HD.out.symm, (by (repeat (first | with_reducible exact Below.refl _ _ | with_reducible refine bel_set ?_ ?_ | with_reducible refine bel_alloc ?_ ?_ | with_reducible refine Below.drew ?_ | with_reducible refine bel_drewN _ ?_ | with_reducible refine bel_call ?_ (by assumption) ?_)); all_goals (first | (simp; done) | omega | (simp; omega)))⟩
  · have HD : Hid (keyB kd k = (Lib.containsS kinds6 k || decide (0 ≤ exC k.data.toList))) := Lib.hid (if_neg h5)
    obtain ⟨b, o, c6, hg, hc⟩ := hK
    have hb0 : Below w.heap.size w (w.alloc (.cells #[.int .i64 kd, .string t, .int .i64 off, .slice A n c] 32)) := (by (repeat (first | with_reducible exact Below.refl _ _ | with_reducible refine bel_set ?_ ?_ | with_reducible refine bel_alloc ?_ ?_ | with_reducible refine Below.drew ?_ | with_reducible refine bel_drewN _ ?_ | with_reducible refine bel_call ?_ (by assumption) ?_)); all_goals (first | (simp; done) | omega | (simp; omega)))
    have hg1 := carry hb0 hg
    have HE := Lib.hid (hE.below hb0)
    have HC := Lib.hid (fun W => Tryd.slices_Contains_string b o 6 c6 kinds6 k W (by decide) (by omega))
    have HX := Lib.hid (fun (W : World) (hW : Below w.heap.size w W) j (hj : j < kinds6.length) => (carry hW (hc j hj) : W.cell? ⟨b, o + j, none⟩ = some (.string (kinds6.getD j ByteArray.empty))))
    clear hE hc hg
    have HB0 := Lib.hid hb0
    clear hb0
    cases hin : Lib.containsS kinds6 k
    · have HI := Lib.hid hin
      rw [hin, Bool.false_or] at HD
      have hdec : Hid ((0 ≤ exC k.data.toList ∧ decide (0 ≤ exC k.data.toList) = true) ∨ (¬ 0 ≤ exC k.data.toList ∧ decide (0 ≤ exC k.data.toList) = false)) := by
        refine Lib.hid ?_
        by_cases h : 0 ≤ exC k.data.toList
        · exact .inl ⟨h, decide_eq_true h⟩
        · exact .inr ⟨h, decide_eq_false h⟩
      clear hin
      go_enter Tryd.func25, Tryd.ntmps25
      go_wp2_with fail
      refine (HC.out _ (HX.out _ HB0.out)).mono ?_
      rintro e w1 ⟨rfl, rfl⟩
      rw [show kinds6.take 6 = kinds6 from rfl, HI.out]
      go_wp2_with fail
      refine (msg_exact k _ HE.out hk).mono ?_
      rintro e w2 ⟨rfl, hb2⟩
      have hb : Below w.heap.size w w2 := HB0.out.trans (hb2.mono HB0.out.size)
      generalize exC k.data.toList = X at *
      rcases hdec.out with ⟨a1, a2⟩ | ⟨a1, a2⟩
      · rw [a2] at HD
        go_wp2_with fail
        go_ret
        exact ⟨ret_bool HD.out.symm, hb⟩
      · rw [a2] at HD
        go_wp2_with fail
        go_ret
        exact ⟨ret_bool HD.out.symm, hb⟩
    · have HI := Lib.hid hin
      rw [hin, Bool.true_or] at HD
      clear hin
      go_enter Tryd.func25, Tryd.ntmps25
      go_wp2_with fail
      refine (HC.out _ (HX.out _ HB0.out)).mono ?_
      rintro e w1 ⟨rfl, rfl⟩
      rw [show kinds6.take 6 = kinds6 from rfl, HI.out]
      go_wp2_with fail
      go_ret
      exact ⟨ret_bool HD.out.symm, HB0.out⟩
end Go.Proofs.YthlcjlmaaaappaaDoor
