/- OpenArgs: texts put together. -/
import Derived.Test.YtplaohmdllindaaGreatDoorQn32
import Derived.Test.YtplaohmdllindaaGreatDoorQn37
import Derived.Test.YtplaohmdllindaaGreatDoorQn18
import Derived.Lib.SmallJoins
set_option linter.unusedVariables false
set_option linter.unusedSimpArgs false
/- Args that came in, opened; what a row that lists eval.pattern and eval.signs gives the walks. -/
namespace Go.Proofs.YtplaohmdllindaaGreatDoor
open Go.RowKit Go.ChangeShapes Go.WideShapes Go.Joins Go.Deep

theorem trod_struct7 {H : Type} {enc : TypeId × Value → H} {P : Program} {w : World} {base : Nat} {spare : Nat → Bool} {held : Bool} {t : TypeId} {f0 f1 f2 f3 f4 f5 f6 : Field} {fuel : Nat} {cs : List Value} {x : DataW H × List MemPlace} (ht : P.underlying t = some (.struct #[f0, f1, f2, f3, f4, f5, f6])) (h : DataW.trod enc P w base spare held fuel t cs = some x) :
    ∃ y0 y1 y2 y3 y4 y5 y6 n, x.1 = .agg [y0.1, y1.1, y2.1, y3.1, y4.1, y5.1, y6.1] ∧ cs.length = P.cellsOf t ∧ DataW.trod enc P w base spare held n f0.type ((cs.drop f0.offset).take (P.cellsOf f0.type)) = some y0 ∧
      DataW.trod enc P w base spare held n f1.type ((cs.drop f1.offset).take (P.cellsOf f1.type)) = some y1 ∧ DataW.trod enc P w base spare held n f2.type ((cs.drop f2.offset).take (P.cellsOf f2.type)) = some y2 ∧
      DataW.trod enc P w base spare held n f3.type ((cs.drop f3.offset).take (P.cellsOf f3.type)) = some y3 ∧ DataW.trod enc P w base spare held n f4.type ((cs.drop f4.offset).take (P.cellsOf f4.type)) = some y4 ∧
      DataW.trod enc P w base spare held n f5.type ((cs.drop f5.offset).take (P.cellsOf f5.type)) = some y5 ∧ DataW.trod enc P w base spare held n f6.type ((cs.drop f6.offset).take (P.cellsOf f6.type)) = some y6 := by
  obtain ⟨xs, n, _, rfl, hl, hlen, hf⟩ := DataW.trod_struct ht h
  match xs, hlen with
  | [y0, y1, y2, y3, y4, y5, y6], _ => exact ⟨y0, y1, y2, y3, y4, y5, y6, n, by simp, hl, by simpa using hf 0 f0 rfl, by simpa using hf 1 f1 rfl, by simpa using hf 2 f2 rfl, by simpa using hf 3 f3 rfl, by simpa using hf 4 f4 rfl, by simpa using hf 5 f5 rfl, by simpa using hf 6 f6 rfl⟩
theorem co_str : Tryz.prog.cellsOf 9 = 1 := by kernel_rfl
theorem co_int : Tryz.prog.cellsOf 3 = 1 := by kernel_rfl
theorem co_u8 : Tryz.prog.cellsOf 5 = 1 := by kernel_rfl
section
variable {H : Type} {enc : TypeId × Value → H} {W : World} {base b0 : Nat} {r : Reach} {held : Bool}
end
theorem gPat : Tryz.prog.globalNamed "linguister/eval.pattern" = some 1 := by kernel_rfl
theorem gPatType : (Tryz.prog.globals[1]?).map (·.type) = some 42 := by kernel_rfl
theorem gSym : Tryz.prog.globalNamed "linguister/eval.signs" = some 2 := by kernel_rfl
theorem gSymType : (Tryz.prog.globals[2]?).map (·.type) = some 44 := by kernel_rfl
theorem empty_of {s : ByteArray} (h : s.data.toList = []) : s = ⟨#[]⟩ := ByteArray.ext (Array.ext' h)
set_option maxRecDepth 100000 in
theorem num_of {W : World} {l : List (String × DataW Unit)} (h : laidMet Tryz.prog l W) (hm : ("linguister/eval.pattern", Rows.laid_linguister_eval_pattern) ∈ l) (hm2 : ("linguister/eval.signs", Rows.laid_linguister_eval_signs) ∈ l) : NumLaid W := by
  refine ⟨?_, ?_⟩
  · obtain ⟨g', t', cs, fuel, p, hg', ht', hvar, hd⟩ := Lib.laidMet.reads h hm
    obtain rfl := Option.some.inj (gPat.symm.trans hg')
    obtain rfl := Option.some.inj (gPatType.symm.trans ht')
    obtain ⟨y0, y1, y2, y3, y4, y5, y6, n, hx1, hcl, k0, k1, k2, k3, k4, k5, k6⟩ := trod_struct7 Tryz.underlying42 hd
    have co : Tryz.prog.cellsOf 42 = 7 := by kernel_rfl
    rw [co] at hcl
    obtain ⟨cl⟩ := cs
    match cl, hcl with
    | [c0, c1, c2, c3, c4, c5, c6], _ =>
      simp only at hx1
      unfold Rows.laid_linguister_eval_pattern at hx1
      simp only [DataW.agg.injEq, List.cons.injEq, and_true] at hx1
      obtain ⟨x0, x1, x2, x3, x4, x5, x6⟩ := hx1
      simp only [co_str, co_int, List.drop_succ_cons, List.drop_zero, List.take_succ_cons, List.take_zero] at k0 k1 k2 k3 k4 k5 k6
      obtain ⟨s0, e0, f0, _⟩ := DataW.trod_string Tryz.underlying9 k0
      obtain ⟨s1, e1, f1, _⟩ := DataW.trod_string Tryz.underlying9 k1
      obtain ⟨i2, e2, f2, _⟩ := DataW.trod_int Tryz.underlying3 k2
      obtain ⟨i3, e3, f3, _⟩ := DataW.trod_int Tryz.underlying3 k3
      obtain ⟨i4, e4, f4, _⟩ := DataW.trod_int Tryz.underlying3 k4
      obtain ⟨i5, e5, f5, _⟩ := DataW.trod_int Tryz.underlying3 k5
      obtain ⟨i6, e6, f6, _⟩ := DataW.trod_int Tryz.underlying3 k6
      simp only [List.cons.injEq, and_true] at e0 e1 e2 e3 e4 e5 e6
      subst e0 e1 e2 e3 e4 e5 e6
      simp only [f0, f1, f2, f3, f4, f5, f6, DataW.lit.injEq, Lit.string.injEq, Lit.int.injEq, true_and] at x0 x1 x2 x3 x4 x5 x6
      obtain rfl := empty_of x0.symm
      obtain rfl := empty_of x1.symm
      subst x2 x3 x4 x5 x6
      refine ⟨?_, ?_, ?_, ?_, ?_, ?_, ?_⟩
      all_goals (rw [World.var?_cell gPat hvar _]; rfl)
  · obtain ⟨g', t', cs, fuel, p, hg', ht', hvar, hd⟩ := Lib.laidMet.reads h hm2
    obtain rfl := Option.some.inj (gSym.symm.trans hg')
    obtain rfl := Option.some.inj (gSymType.symm.trans ht')
    obtain ⟨y0, y1, n, hx, hcl, k0, k1⟩ := trod_struct2 Tryz.underlying44 hd
    have co : Tryz.prog.cellsOf 44 = 2 := by kernel_rfl
    rw [co] at hcl
    obtain ⟨cl⟩ := cs
    match cl, hcl with
    | [c0, c1], _ =>
      simp only [Prod.mk.injEq] at hx
      have hx1 := hx.1
      unfold Rows.laid_linguister_eval_signs at hx1
      simp only [DataW.agg.injEq, List.cons.injEq, and_true] at hx1
      obtain ⟨x0, x1⟩ := hx1
      simp only [co_u8, List.drop_succ_cons, List.drop_zero, List.take_succ_cons, List.take_zero] at k0 k1
      obtain ⟨i0, e0, f0, _⟩ := DataW.trod_int Tryz.underlying5 k0
      obtain ⟨i1, e1, f1, _⟩ := DataW.trod_int Tryz.underlying5 k1
      simp only [List.cons.injEq, and_true] at e0 e1
      subst e0 e1
      simp only [f0, f1, DataW.lit.injEq, Lit.int.injEq, true_and] at x0 x1
      subst x0 x1
      refine ⟨?_, ?_⟩
      all_goals (rw [World.var?_cell gSym hvar _]; rfl)
end Go.Proofs.YtplaohmdllindaaGreatDoor
