/- OpenArgs: texts put together. -/
import Derived.Test.YthlcjlmaaaappaaGreatDoorEw27
import Derived.Test.YthlcjlmaaaappaaGreatDoorEw32
import Derived.Test.YthlcjlmaaaappaaGreatDoorEw16
import Derived.Lib.SmallJoins
set_option linter.unusedVariables false
set_option linter.unusedSimpArgs false
/- Args that came in, opened; what a row that lists eval.pattern and eval.signs gives the walks. -/
namespace Go.Proofs.YthlcjlmaaaappaaGreatDoor
open Go.RowKit Go.ChangeShapes Go.WideShapes Go.Joins Go.Deep

theorem trod_struct7 {H : Type} {enc : TypeId × Value → H} {P : Program} {w : World} {base : Nat} {spare : Nat → Bool} {held : Bool} {t : TypeId} {f0 f1 f2 f3 f4 f5 f6 : Field} {fuel : Nat} {cs : List Value} {x : DataW H × List MemPlace} (ht : P.underlying t = some (.struct #[f0, f1, f2, f3, f4, f5, f6])) (h : DataW.trod enc P w base spare held fuel t cs = some x) :
    ∃ y0 y1 y2 y3 y4 y5 y6 n, x.1 = .agg [y0.1, y1.1, y2.1, y3.1, y4.1, y5.1, y6.1] ∧ cs.length = P.cellsOf t ∧ DataW.trod enc P w base spare held n f0.type ((cs.drop f0.offset).take (P.cellsOf f0.type)) = some y0 ∧
      DataW.trod enc P w base spare held n f1.type ((cs.drop f1.offset).take (P.cellsOf f1.type)) = some y1 ∧ DataW.trod enc P w base spare held n f2.type ((cs.drop f2.offset).take (P.cellsOf f2.type)) = some y2 ∧
      DataW.trod enc P w base spare held n f3.type ((cs.drop f3.offset).take (P.cellsOf f3.type)) = some y3 ∧ DataW.trod enc P w base spare held n f4.type ((cs.drop f4.offset).take (P.cellsOf f4.type)) = some y4 ∧
      DataW.trod enc P w base spare held n f5.type ((cs.drop f5.offset).take (P.cellsOf f5.type)) = some y5 ∧ DataW.trod enc P w base spare held n f6.type ((cs.drop f6.offset).take (P.cellsOf f6.type)) = some y6 := by
  obtain ⟨xs, n, _, rfl, hl, hlen, hf⟩ := DataW.trod_struct ht h
  match xs, hlen with
  | [y0, y1, y2, y3, y4, y5, y6], _ => exact ⟨y0, y1, y2, y3, y4, y5, y6, n, by simp, hl, by simpa using hf 0 f0 rfl, by simpa using hf 1 f1 rfl, by simpa using hf 2 f2 rfl, by simpa using hf 3 f3 rfl, by simpa using hf 4 f4 rfl, by simpa using hf 5 f5 rfl, by simpa using hf 6 f6 rfl⟩
theorem co_str : Tryz.prog.cellsOf 9 = 1 := by kernel_rfl
theorem co_bool : Tryz.prog.cellsOf 4 = 1 := by kernel_rfl
theorem co_int : Tryz.prog.cellsOf 3 = 1 := by kernel_rfl
theorem co_u8 : Tryz.prog.cellsOf 5 = 1 := by kernel_rfl
theorem co_dec : Tryz.prog.cellsOf 51 = 2 := by kernel_rfl
theorem co_arg : Tryz.prog.cellsOf 53 = 5 := by kernel_rfl
section
variable {H : Type} {enc : TypeId × Value → H} {W : World} {base b0 : Nat} {r : Reach} {held : Bool}
set_option maxRecDepth 100000 in
theorem open_args {L : Nat} {v : Value} {d : DataW H} {p : List MemPlace} (hv : Value.okWide Tryz.prog W r b0 46 v) (h : DataW.Trod enc Tryz.prog W base (fun _ => true) held 46 v d p) (hL : Rows.uptoBulk d ≤ L) :
    ∃ (A : Option Addr) (c : Nat) (ags : List ArgC), v = .slice A ags.length c ∧ ags.length ≤ c ∧ c ≤ 9223372036854775807 ∧ (A = none → c = 0) ∧ ArgsIn W A ags ∧ ags.length ≤ L ∧ ∀ a ∈ ags, a.name.size ≤ L ∧ a.text.size ≤ L := by
  obtain ⟨a0, len0, cap0, rfl⟩ := okWide_slice Tryz.underlying46 hv
  obtain ⟨fuel, hf⟩ := h
  rcases open_slice Tryz.underlying46 hf with ⟨hcs, hx⟩ | ⟨a, len, cap, m, n, D, Pl, hcs, hb, hl, hm, hmm, hx, hi⟩
  · simp only [Value.cells, List.cons.injEq, and_true] at hcs
    cases hcs
    exact ⟨none, 0, [], rfl, Nat.le_refl _, by omega, fun _ => rfl, .inl rfl, Nat.zero_le _, by simp⟩
  · simp only [Value.cells, List.cons.injEq, and_true] at hcs
    simp only [if_true] at hmm
    subst hmm
    obtain ⟨rfl, rfl, rfl⟩ : a0 = some a ∧ len0 = len ∧ cap0 = m := by injection hcs with e1 e2 e3; exact ⟨e1, e2, e3⟩
    simp only [Prod.mk.injEq] at hx
    rw [hx.1] at hL
    simp only [Rows.uptoBulk] at hL
    have hlen : len0 ≤ L := by
      have := bulk_len ((List.range len0).map D)
      rw [List.length_map, List.length_range] at this
      omega
    have hk : ∀ i, i < len0 → ∃ x : ArgC, W.cell? (a.add (i * 5)) = some (.string x.name) ∧ W.cell? (a.add (i * 5 + 1)) = some (.bool x.isNum) ∧ W.cell? (a.add (i * 5 + 2)) = some (.int .i64 x.coef) ∧ W.cell? (a.add (i * 5 + 3)) = some (.int .i64 x.scale) ∧ W.cell? (a.add (i * 5 + 4)) = some (.string x.text) ∧ x.name.size ≤ L ∧ x.text.size ≤ L := by
      intro i hil
      obtain ⟨cs', hc, ht⟩ := hi i (by omega)
      rw [co_arg] at hc
      obtain ⟨_, hcl, hat⟩ := World.cells?_some hc
      have hbi := bulk_mem (List.mem_map_of_mem (f := D) (List.mem_range.2 hil))
      obtain ⟨y0, y1, y2, y3, n', hy, _, k0, k1, k2, k3⟩ := trod_struct4 Tryz.underlying53 ht
      simp only [Prod.mk.injEq] at hy
      rw [hy.1] at hbi
      simp only [co_str, co_bool, co_dec] at k0 k1 k2 k3
      match cs', hcl with
      | [c0, c1, c2, c3, c4], _ =>
        simp only [List.drop_succ_cons, List.drop_zero, List.take_succ_cons, List.take_zero] at k0 k1 k2 k3
        obtain ⟨nm, e0, f0, _⟩ := DataW.trod_string Tryz.underlying9 k0
        obtain ⟨q, e1, _⟩ := DataW.trod_bool Tryz.underlying4 k1
        obtain ⟨z0, z1, n2, _, _, l0, l1⟩ := trod_struct2 Tryz.underlying51 k2
        simp only [co_int, List.drop_succ_cons, List.drop_zero, List.take_succ_cons, List.take_zero] at l0 l1
        obtain ⟨cf, e2, _, _⟩ := DataW.trod_int Tryz.underlying3 l0
        obtain ⟨sc, e3, _, _⟩ := DataW.trod_int Tryz.underlying3 l1
        obtain ⟨tx, e4, f4, _⟩ := DataW.trod_string Tryz.underlying9 k3
        simp only [List.cons.injEq, and_true] at e0 e1 e2 e3 e4
        subst e0 e1 e2 e3 e4
        simp only [List.map_cons, List.map_nil, Rows.uptoBulk, Rows.uptoBulkAll, f0, f4] at hbi
        have hs0 : nm.data.toList.length = nm.size := bsize nm
        have hs4 : tx.data.toList.length = tx.size := bsize tx
        exact ⟨⟨nm, q, cf, sc, tx⟩, (hat 0 (by omega)), (Addr.add_add a (i * 5) 1 ▸ hat 1 (by omega)), (Addr.add_add a (i * 5) 2 ▸ hat 2 (by omega)), (Addr.add_add a (i * 5) 3 ▸ hat 3 (by omega)), (Addr.add_add a (i * 5) 4 ▸ hat 4 (by omega)), by show nm.size ≤ L; omega, by show tx.size ≤ L; omega⟩
    obtain ⟨ags, hal, hags⟩ := list_of len0 hk
    refine ⟨some a, cap0, ags, by rw [hal], by omega, by simp only [maxLen] at hm; omega, (fun h => by cases h), ?_, by omega, fun x hx => ?_⟩
    · by_cases h0 : ags = []
      · exact .inl h0
      · right
        obtain ⟨x, hx⟩ : ∃ x, ags[0]? = some x := ⟨ags[0]'(by have := List.length_pos_iff.2 h0; omega), List.getElem?_eq_getElem _⟩
        obtain ⟨b, o, rfl⟩ := addr_plain (hags 0 x hx).1 (by simp)
        refine ⟨b, o, rfl, fun j x hx => ?_⟩
        have := hags j x hx
        rw [Go.WideShapes.add_plain, Go.WideShapes.add_plain, Go.WideShapes.add_plain, Go.WideShapes.add_plain, Go.WideShapes.add_plain] at this
        obtain ⟨g1, g2, g3, g4, g5, _⟩ := this
        exact ⟨g1, g2, g3, g4, g5⟩
    · obtain ⟨j, hj⟩ := List.mem_iff_getElem?.1 hx
      exact (hags j x hj).2.2.2.2.2
end
theorem gPat : Tryz.prog.globalNamed "linguister/eval.pattern" = some 2 := by kernel_rfl
theorem gPatType : (Tryz.prog.globals[2]?).map (·.type) = some 227 := by kernel_rfl
theorem gSym : Tryz.prog.globalNamed "linguister/eval.signs" = some 3 := by kernel_rfl
theorem gSymType : (Tryz.prog.globals[3]?).map (·.type) = some 229 := by kernel_rfl
theorem empty_of {s : ByteArray} (h : s.data.toList = []) : s = ⟨#[]⟩ := ByteArray.ext (Array.ext' h)
set_option maxRecDepth 100000 in
theorem num_of {W : World} {l : List (String × DataW Unit)} (h : laidMet Tryz.prog l W) (hm : ("linguister/eval.pattern", Rows.laid_linguister_eval_pattern) ∈ l) (hm2 : ("linguister/eval.signs", Rows.laid_linguister_eval_signs) ∈ l) : NumLaid W := by
  refine ⟨?_, ?_⟩
  · obtain ⟨g', t', cs, fuel, p, hg', ht', hvar, hd⟩ := Lib.laidMet.reads h hm
    obtain rfl := Option.some.inj (gPat.symm.trans hg')
    obtain rfl := Option.some.inj (gPatType.symm.trans ht')
    obtain ⟨y0, y1, y2, y3, y4, y5, y6, n, hx1, hcl, k0, k1, k2, k3, k4, k5, k6⟩ := trod_struct7 Tryz.underlying227 hd
    have co : Tryz.prog.cellsOf 227 = 7 := by kernel_rfl
    rw [co] at hcl
    obtain ⟨cl⟩ := cs
    match cl, hcl with
    | [c0, c1, c2, c3, c4, c5, c6], _ =>
      simp only at hx1
      unfold Rows.laid_linguister_eval_pattern at hx1
      simp only [DataW.agg.injEq, List.cons.injEq, and_true] at hx1
      obtain ⟨x0, x1, x2, x3, x4, x5, x6⟩ := hx1
      simp only [co_str, co_int, List.drop_succ_cons, List.drop_zero, List.take_succ_cons, List.take_zero] at k0 k1 k2 k3 k4 k5 k6
      obtain ⟨s0, e0, f0, _⟩ := DataW.trod_string Tryz.underlying9 k0
      obtain ⟨s1, e1, f1, _⟩ := DataW.trod_string Tryz.underlying9 k1
      obtain ⟨i2, e2, f2, _⟩ := DataW.trod_int Tryz.underlying3 k2
      obtain ⟨i3, e3, f3, _⟩ := DataW.trod_int Tryz.underlying3 k3
      obtain ⟨i4, e4, f4, _⟩ := DataW.trod_int Tryz.underlying3 k4
      obtain ⟨i5, e5, f5, _⟩ := DataW.trod_int Tryz.underlying3 k5
      obtain ⟨i6, e6, f6, _⟩ := DataW.trod_int Tryz.underlying3 k6
      simp only [List.cons.injEq, and_true] at e0 e1 e2 e3 e4 e5 e6
      subst e0 e1 e2 e3 e4 e5 e6
      simp only [f0, f1, f2, f3, f4, f5, f6, DataW.lit.injEq, Lit.string.injEq, Lit.int.injEq, true_and] at x0 x1 x2 x3 x4 x5 x6
      obtain rfl := empty_of x0.symm
      obtain rfl := empty_of x1.symm
      subst x2 x3 x4 x5 x6
      refine ⟨?_, ?_, ?_, ?_, ?_, ?_, ?_⟩
      all_goals (rw [World.var?_cell gPat hvar _]; rfl)
  · obtain ⟨g', t', cs, fuel, p, hg', ht', hvar, hd⟩ := Lib.laidMet.reads h hm2
    obtain rfl := Option.some.inj (gSym.symm.trans hg')
    obtain rfl := Option.some.inj (gSymType.symm.trans ht')
    obtain ⟨y0, y1, n, hx, hcl, k0, k1⟩ := trod_struct2 Tryz.underlying229 hd
    have co : Tryz.prog.cellsOf 229 = 2 := by kernel_rfl
    rw [co] at hcl
    obtain ⟨cl⟩ := cs
    match cl, hcl with
    | [c0, c1], _ =>
      simp only [Prod.mk.injEq] at hx
      have hx1 := hx.1
      unfold Rows.laid_linguister_eval_signs at hx1
      simp only [DataW.agg.injEq, List.cons.injEq, and_true] at hx1
      obtain ⟨x0, x1⟩ := hx1
      simp only [co_u8, List.drop_succ_cons, List.drop_zero, List.take_succ_cons, List.take_zero] at k0 k1
      obtain ⟨i0, e0, f0, _⟩ := DataW.trod_int Tryz.underlying5 k0
      obtain ⟨i1, e1, f1, _⟩ := DataW.trod_int Tryz.underlying5 k1
      simp only [List.cons.injEq, and_true] at e0 e1
      subst e0 e1
      simp only [f0, f1, DataW.lit.injEq, Lit.int.injEq, true_and] at x0 x1
      subst x0 x1
      refine ⟨?_, ?_⟩
      all_goals (rw [World.var?_cell gSym hvar _]; rfl)
end Go.Proofs.YthlcjlmaaaappaaGreatDoor
