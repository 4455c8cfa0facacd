/- PackLong: texts put together. -/
import Derived.Test.YtnhlnhmjnnopaaaDoorPl18
import Derived.BigQuiet
set_option linter.unusedVariables false
set_option linter.unusedSimpArgs false
/- PackLong: the law's walk. -/
namespace Go.Proofs.YtnhlnhmjnnopaaaDoor
open Go.RowKit

def enB : BunC := ⟨⟨#[101, 110]⟩, []⟩
theorem en_err : enB.err = 0 := by decide +kernel
theorem en_len : packLen enB = 13 := by decide +kernel

set_option maxHeartbeats 8000000 in
set_option maxRecDepth 100000 in
theorem walkL (b : BunC) (A : Option Addr) (c : Nat) (w : World) (hM : MaxL w) (hF : BunFine w b A c) (hs : b.small) :
    Calls Tryd.prog 4 #[bunV b A c] w fun e w' => e = .returned (.bool true) ∧ Below w.heap.size w w' := by
  have KE : Hid (∀ W, Below w.heap.size w W → Calls Tryd.prog 10 #[.agg #[.string ⟨#[101, 110]⟩, .slice none 0 0]] W fun e w' => (∃ A' c', e = .returned (.tuple #[.slice A' 13 c', .nilIface])) ∧ Below W.heap.size W w') := Lib.hid (fun W h => by
    have k := pack_encode enB none 0 W (hM.below h) ⟨.inl rfl, Nat.le_refl _, by decide, fun _ => rfl⟩ ⟨by decide, by decide, fun e he => by cases he⟩
    rw [en_err, en_len] at k
    simp only [if_true] at k
    exact k)
  have KB := Lib.hid (fun W (h : Below w.heap.size w W) => pack_encode b A c W (hM.below h) (hF.below h) hs)
  obtain ⟨tg, es⟩ := b
  obtain ⟨hE, hc, hc2, _⟩ := hF
  obtain ⟨z1, z2, z3⟩ := hs
  simp only at hE hc z1 z2 z3
  have HE := Lib.hid hE
  have HFEW : Hid ((BunC.mk tg es).err = 0 → es.length ≤ 100) := Lib.hid (fun h => err_few h)
  have HSL := Lib.hid (fun l (h : ∀ e ∈ l, e ∈ es) => sum_le l 2097155 (fun e he => by
    have := z3 e (h e he)
    unfold entLen
    omega))
  have HZ := Lib.hid z3
  have HPL : Hid (packLen ⟨tg, es⟩ = 11 + tg.size + (es.map entLen).sum) := Lib.hid rfl
  obtain ⟨R, hR⟩ : ∃ R, R = (BunC.mk tg es).err := ⟨_, rfl⟩
  rw [← hR] at KB HFEW
  obtain ⟨P, hP⟩ : ∃ P, P = packLen ⟨tg, es⟩ := ⟨_, rfl⟩
  rw [← hP] at KB HPL
  clear hR hP hE hM z3
  unfold bunV at KB ⊢
  simp only at KB ⊢
  have hb0 : Below w.heap.size w (w.alloc (.cells #[.string tg, .slice A es.length c] 31)) := (by (repeat (first | with_reducible exact Below.refl _ _ | with_reducible refine bel_set ?_ ?_ | with_reducible refine bel_alloc ?_ ?_ | with_reducible refine Below.drew ?_ | with_reducible refine bel_drewN _ ?_ | with_reducible refine bel_call ?_ (by assumption) ?_)); all_goals (first | (simp; done) | omega | (simp; omega)))
  have HB0 := Lib.hid hb0
  clear hb0
  go_enter Tryd.func4, Tryd.ntmps4
  go_wp2_with fail
  refine (KE.out _ HB0.out).mono ?_
  rintro e w1 ⟨⟨A1, c1, rfl⟩, hb1⟩
  have c0 : w1.cell? ⟨w.heap.size, 0, none⟩ = some (.string tg) := carry hb1 (by go_simp)
  have c1 : w1.cell? ⟨w.heap.size, 1, none⟩ = some (.slice A es.length c) := carry hb1 (by go_simp)
  have HB1 := Lib.hid (HB0.out.trans (hb1.mono HB0.out.size))
  clear hb1
  have l1 := lt_of_cell c0
  go_wp2_with fail
  refine (KB.out _ HB1.out).mono ?_
  rintro e w2 ⟨he, hb2⟩
  have d0 := carry hb2 c0
  have d1 := carry hb2 c1
  have HB2 := Lib.hid (HB1.out.trans (hb2.mono HB1.out.size))
  clear hb2 c0 c1 KE KB HB0 HB1
  have l2 := lt_of_cell d0
  by_cases h0 : R = 0
  · rw [if_pos h0] at he
    obtain ⟨A2, c2, rfl⟩ := he
    have hfew := HFEW.out h0
    clear h0 HFEW
    have hall := HSL.out es (fun e he => he)
    have hle : es.length * 2097155 ≤ 100 * 2097155 := Nat.mul_le_mul_right _ hfew
    have e0 : IntKind.i64.wrap (11 + (tg.size : Int)) = 11 + (tg.size : Int) := IntWalk.i64_in _ (by omega)
    go_wp2_with fail
    go_loopw [7, 8] (fun n i wr => ∃ j : Nat, j ≤ es.length ∧ n = .int .i64 (11 + (tg.size : Int) + (((es.take j).map entLen).sum : Nat)) ∧ i = .int .i64 j ∧ Hid (Below w2.heap.size w2 wr)) (fun _ i _ => es.length - (intOf i).toNat)
    case atStart => exact ⟨0, Nat.zero_le _, by simp, rfl, Lib.hid (Below.refl _ _)⟩
    case round =>
      obtain ⟨j, hj, rfl, rfl, HX⟩ := hrel
      have HBr := Lib.hid (HB2.out.trans (HX.out.mono HB2.out.size))
      have d0 := carry HX.out d0
      have d1 := carry HX.out d1
      have l2 := lt_of_cell d0
      by_cases hlt : j < es.length
      · have i8 : (j : Int) < (es.length : Int) := by omega
        have i7 : (0 : Int) ≤ (j : Int) := by omega
        have i6 : (j : Int) < (c : Int) := by omega
        obtain ⟨g, o, rfl, hat⟩ := (HE.out.below HBr.out).at (by omega)
        obtain ⟨x, hx⟩ : ∃ x, es[j]? = some x := ⟨_, List.getElem?_eq_getElem hlt⟩
        obtain ⟨y0, y1⟩ := hat j x hx
        have hxz := HZ.out x (List.mem_of_getElem? hx)
        have htk : ((es.take (j + 1)).map entLen).sum = ((es.take j).map entLen).sum + (3 + x.key.size + x.text.size) := by
          rw [List.take_add_one, hx, List.map_append, List.sum_append]
          rfl
        have hs0 := HSL.out (es.take j) (fun e he => List.mem_of_mem_take he)
        rw [List.length_take] at hs0
        have hmin : min j es.length * 2097155 ≤ 100 * 2097155 := Nat.mul_le_mul_right _ (by omega)
        obtain ⟨S, hS⟩ : ∃ S, S = ((es.take j).map entLen).sum := ⟨_, rfl⟩
        rw [← hS] at htk hs0 ⊢
        have e1 : IntKind.i64.wrap (3 + (x.key.size : Int)) = 3 + (x.key.size : Int) := IntWalk.i64_in _ (by omega)
        have e2 : IntKind.i64.wrap (3 + (x.key.size : Int) + (x.text.size : Int)) = 3 + (x.key.size : Int) + (x.text.size : Int) := IntWalk.i64_in _ (by omega)
        have e3 : IntKind.i64.wrap (11 + (tg.size : Int) + (S : Int) + (3 + (x.key.size : Int) + (x.text.size : Int))) = 11 + (tg.size : Int) + ((S + (3 + x.key.size + x.text.size) : Nat) : Int) := by rw [IntWalk.i64_in _ (by omega)]; omega
        have e4 : IntKind.i64.wrap ((j : Int) + 1) = ((j + 1 : Nat) : Int) := by rw [IntWalk.i64_in _ (by omega)]; omega
        rw [← htk] at e3
        clear hat hx hS htk hs0 hmin
        go_wp2_with fail
        go_quiet (fail)
        go_wp2_with fail
        exact ⟨⟨j + 1, hlt, by rw [List.map_take], by congr 1, Lib.hid ⟨HX.out.os, HX.out.tape, HX.out.output, HX.out.size, HX.out.block⟩⟩, by simp only [intOf]; omega⟩
      · obtain rfl : j = es.length := by omega
        have i8 : ¬ ((es.length : Int) < (es.length : Int)) := by omega
        have hPn := HPL.out
        rw [List.take_length]
        have hq : (P : Int) = 11 + (tg.size : Int) + ((es.map entLen).sum : Nat) := by omega
        rw [← hq]
        clear hq hPn
        go_wp2_with fail
        go_ret
        exact ⟨by simp, HBr.out⟩
  · rw [if_neg h0] at he
    subst he
    clear h0
    go_wp2_with fail
    go_ret
    exact ⟨rfl, HB2.out⟩
end Go.Proofs.YtnhlnhmjnnopaaaDoor
