/- SameB: texts put together. -/
import Derived.Test.YtnhlnhmjnnopaaaGreatDoorPp2
import Derived.BigQuiet
import Derived.IntWalk
set_option linter.unusedVariables false
set_option linter.unusedSimpArgs false
/- S.Bundle of bundles that are alike. -/
namespace Go.Proofs.YtnhlnhmjnnopaaaGreatDoor
open Go.RowKit

set_option maxHeartbeats 8000000 in
set_option maxRecDepth 100000 in
theorem same_bundle2 (b : BunC) (A B : Option Addr) (c d : Nat) (w : World) (hA : BunFine w b A c) (hB : BunFine w b B d) (hn : b.es.length ≤ 1048576) :
    Calls Tryz.prog 8 #[bunV b A c, bunV b B d] w fun e w' => e = .returned (.bool true) ∧ Below w.heap.size w w' := by
  obtain ⟨tg, es⟩ := b
  obtain ⟨hE, hc, hc2, _⟩ := hA
  obtain ⟨hE2, hd, hd2, _⟩ := hB
  simp only at hE hE2 hc hd hn
  have HE := Lib.hid hE
  have HE2 := Lib.hid hE2
  clear hE hE2
  unfold bunV
  simp only
  have hb0 : Below w.heap.size w ((w.alloc (.cells #[.string tg, .slice A es.length c] 24)).alloc (.cells #[.string tg, .slice B es.length d] 24)) := (by (repeat (first | with_reducible exact Below.refl _ _ | with_reducible refine bel_set ?_ ?_ | with_reducible refine bel_alloc ?_ ?_ | with_reducible refine Below.drew ?_ | with_reducible refine bel_drewN _ ?_ | with_reducible refine bel_call ?_ (by assumption) ?_)); all_goals (first | (simp; done) | omega | (simp; omega)))
  have HB0 := Lib.hid hb0
  clear hb0
  go_enter Tryz.func8, Tryz.ntmps8
  go_wp2_with fail
  obtain ⟨w1, hw1⟩ : ∃ w1, w1 = ((w.alloc (.cells #[.string tg, .slice A es.length c] 24)).alloc (.cells #[.string tg, .slice B es.length d] 24)) := ⟨_, rfl⟩
  have a1 : w1.cell? ⟨w.heap.size, 1, none⟩ = some (.slice A es.length c) := by rw [hw1]; go_simp
  have b1 : w1.cell? ⟨w.heap.size + 1, 1, none⟩ = some (.slice B es.length d) := by rw [hw1]; go_simp
  rw [← hw1]
  rw [← hw1] at HB0
  clear hw1
  go_loopw [5] (fun i wr => ∃ j : Nat, j ≤ es.length ∧ i = .int .i64 j ∧ Hid (Below w1.heap.size w1 wr)) (fun i _ => es.length - (intOf i).toNat)
  case atStart => exact ⟨0, Nat.zero_le _, rfl, Lib.hid (Below.refl _ _)⟩
  case round =>
    obtain ⟨j, hj, rfl, HX⟩ := hrel
    have HBr := Lib.hid (HB0.out.trans (HX.out.mono HB0.out.size))
    have a1 := carry HX.out a1
    have b1 := carry HX.out b1
    have l1 := lt_of_cell a1
    have l2 := lt_of_cell b1
    by_cases hlt : j < es.length
    · obtain ⟨g, o, rfl, hat⟩ := (HE.out.below HBr.out).at (by omega)
      obtain ⟨g2, o2, rfl, hat2⟩ := (HE2.out.below HBr.out).at (by omega)
      obtain ⟨x, hx⟩ : ∃ x, es[j]? = some x := ⟨_, List.getElem?_eq_getElem hlt⟩
      obtain ⟨y0, y1⟩ := hat j x hx
      obtain ⟨z0, z1⟩ := hat2 j x hx
      have i8 : (j : Int) < (es.length : Int) := by omega
      have i7 : (0 : Int) ≤ (j : Int) := by omega
      have i6 : (j : Int) < (c : Int) := by omega
      have i5 : (j : Int) < (d : Int) := by omega
      have e4 : IntKind.i64.wrap ((j : Int) + 1) = ((j + 1 : Nat) : Int) := by rw [IntWalk.i64_in _ (by omega)]; omega
      clear hat hat2 hx
      go_wp2_with fail
      go_quiet (fail)
      go_wp2_with fail
      all_goals exact ⟨⟨j + 1, hlt, by congr 1, Lib.hid ⟨HX.out.os, HX.out.tape, HX.out.output, HX.out.size, HX.out.block⟩⟩, by simp only [intOf]; omega⟩
    · obtain rfl : j = es.length := by omega
      have i8 : ¬ ((es.length : Int) < (es.length : Int)) := by omega
      go_wp2_with fail
      go_ret
      exact ⟨rfl, HBr.out⟩
end Go.Proofs.YtnhlnhmjnnopaaaGreatDoor
