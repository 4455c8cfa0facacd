/- IsSorted: texts put together. -/
import Derived.Test.YtnhlnhmjnnopaaaGreatDoorPp13
import Derived.StillTailTactics
set_option linter.unusedVariables false
set_option linter.unusedSimpArgs false
/- slices.IsSortedFunc of entries in order. -/
namespace Go.Proofs.YtnhlnhmjnnopaaaGreatDoor
open Go.RowKit

theorem pack_order2 (x y : EntC) (W : World) : Calls Tryz.prog 18 #[.agg #[.string x.key, .string x.text], .agg #[.string y.key, .string y.text]] W fun e w' =>
    e = .returned (.int .i64 (Lib.compareBytes x.key.data.toList y.key.data.toList)) ∧ Below W.heap.size W w' := by
  have hcon := fun W' => Tryz.strings_Compare x.key y.key W'
  generalize Lib.compareBytes x.key.data.toList y.key.data.toList = r at hcon ⊢
  go_enter Tryz.func18, Tryz.ntmps18
  go_wp2_with fail
  refine (hcon _).mono ?_
  rintro e w' ⟨rfl, rfl⟩
  go_wp2_with fail
  go_ret
  exact ⟨rfl, (by (repeat (first | with_reducible exact Below.refl _ _ | with_reducible refine bel_set ?_ ?_ | with_reducible refine bel_alloc ?_ ?_ | with_reducible refine Below.drew ?_ | with_reducible refine bel_drewN _ ?_ | with_reducible refine bel_call ?_ (by assumption) ?_)); all_goals (first | (simp; done) | omega | (simp; omega)))⟩
set_option maxHeartbeats 4000000 in
set_option maxRecDepth 100000 in
theorem is_sorted (A : Option Addr) (c : Nat) (es : List EntC) (w : World) (hE : EntsIn w A es) (ho : InOrder es) (hc : es.length ≤ c) (hc2 : c ≤ 9223372036854775807) (hn : es.length ≤ 1000) :
    Calls Tryz.prog 34 #[.slice A es.length c, .func (.func 18) #[] #[]] w fun e w' => e = .returned (.bool true) ∧ Below w.heap.size w w' := by
  have HE := Lib.hid hE
  have HO := Lib.hid ho
  have s1 : IntKind.i64.wrap ((es.length : Int) - 1) = (es.length : Int) - 1 := IntWalk.i64_in _ (by omega)
  clear hE ho
  go_enter Tryz.func34, Tryz.ntmps34
  go_wp2_with fail
  go_loopw [5] (fun i wr => ∃ z : Int, i = .int .i64 z ∧ -1 ≤ z ∧ z + 1 ≤ (es.length : Int) ∧ Hid (Below w.heap.size w wr)) (fun i _ => (intOf i + 1).toNat)
  case atStart => exact ⟨_, rfl, by omega, by omega, Lib.hid (Below.refl _ _)⟩
  case round =>
    obtain ⟨z, rfl, hz1, hz2, HB⟩ := hrel
    by_cases hlt : 0 < z
    · obtain ⟨i, rfl⟩ : ∃ i : Nat, z = (i : Int) + 1 := ⟨(z - 1).toNat, by omega⟩
      obtain ⟨g, o, rfl, hat⟩ := (HE.out.below HB.out).at (by omega)
      obtain ⟨x, hx⟩ : ∃ x, es[i + 1]? = some x := ⟨_, List.getElem?_eq_getElem (by omega)⟩
      obtain ⟨y, hy⟩ : ∃ y, es[i]? = some y := ⟨_, List.getElem?_eq_getElem (by omega)⟩
      obtain ⟨x0, x1⟩ := hat (i + 1) x hx
      obtain ⟨y0, y1⟩ := hat i y hy
      have hcmp : ¬ Lib.compareBytes x.key.data.toList y.key.data.toList < 0 := by
        have h := List.pairwise_iff_getElem.1 HO.out i (i + 1) (by omega) (by omega) (by omega)
        rw [(List.getElem?_eq_some_iff.1 hx).2, (List.getElem?_eq_some_iff.1 hy).2] at h
        exact h
      obtain ⟨r, hr⟩ : ∃ r, r = Lib.compareBytes x.key.data.toList y.key.data.toList := ⟨_, rfl⟩
      have HK : Hid (∀ W, Calls Tryz.prog 18 #[.agg #[.string x.key, .string x.text], .agg #[.string y.key, .string y.text]] W fun e w' => e = .returned (.int .i64 r) ∧ Below W.heap.size W w') := Lib.hid (fun W => by rw [hr]; exact pack_order2 x y W)
      rw [← hr] at hcmp
      have i1 : (i : Int) + 1 < (es.length : Int) := by omega
      have i2 : (i : Int) + 1 < (c : Int) := by omega
      have i3 : (0 : Int) ≤ (i : Int) := by omega
      have i4 : (0 : Int) ≤ (i : Int) + 1 := by omega
      have i5 : (i : Int) < (es.length : Int) := by omega
      have i6 : (i : Int) < (c : Int) := by omega
      have s2 : IntKind.i64.wrap ((i : Int) + 1 - 1) = (i : Int) := by rw [IntWalk.i64_in _ (by omega)]; omega
      have s3 : IntKind.i64.wrap (i : Int) = (i : Int) := IntWalk.i64_in _ (by omega)
      have gl := lt_of_cell x0
      clear hat hx hy hr hz1 hz2
      go_wp2_with fail
      go_still_tail 10, (by kernel_rfl)
      change wpList _ _ _ _ _ wr.drew
      have HBD := Lib.hid (Below.drew HB.out)
      generalize wr.drew = w2 at HBD ⊢
      go_wp2_with fail
      refine (HK.out _).mono ?_
      rintro e w3 ⟨rfl, hb3⟩
      have HB3 := Lib.hid (HBD.out.trans (hb3.mono HBD.out.size))
      have hr0 : ¬ r < 0 := by omega
      clear hb3 x0 x1 y0 y1 s1 s2 s3
      go_wp2_with fail
      exact ⟨⟨_, rfl, by omega, by omega, HB3⟩, by simp only [intOf]; omega⟩
    · go_wp2_with fail
      go_ret
      exact ⟨rfl, HB.out⟩
end Go.Proofs.YtnhlnhmjnnopaaaGreatDoor
