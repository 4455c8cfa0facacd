/- Structs of five fields that came in, opened. -/
import Derived.Test.YtkklemhhimcahaaGreatDoorOpenRule
import Derived.Test.YtkklemhhimcahaaGreatDoorRuleHolds
namespace Go.Proofs.YtkklemhhimcahaaGreatDoor
open Go.RowKit Go.ChangeShapes Go.WideShapes Go.Joins Go.Deep

section
variable {H : Type} {enc : TypeId × Value → H} {P : Program} {w : World} {base : Nat} {spare : Nat → Bool} {held : Bool}
theorem open_agg5 {r : Reach} {b0 : Nat} {t : TypeId} {f0 f1 f2 f3 f4 : Field} {v : Value} {d : DataW H} {p : List MemPlace} (hs : P.underlying t = some (.struct #[f0, f1, f2, f3, f4])) (hone : oneCellFields P #[f0, f1, f2, f3, f4] = true) (hC : P.cellsOf t = 5)
    (hv : Value.okWide P w r b0 t v) (h : DataW.Trod enc P w base spare held t v d p) :
    ∃ (v0 v1 v2 v3 v4 : Value) (y0 y1 y2 y3 y4 : DataW H × List MemPlace) (n : Nat), v = .agg #[v0, v1, v2, v3, v4] ∧ d = .agg [y0.1, y1.1, y2.1, y3.1, y4.1] ∧
      DataW.trod enc P w base spare held n f0.type [v0] = some y0 ∧ DataW.trod enc P w base spare held n f1.type [v1] = some y1 ∧ DataW.trod enc P w base spare held n f2.type [v2] = some y2 ∧ DataW.trod enc P w base spare held n f3.type [v3] = some y3 ∧ DataW.trod enc P w base spare held n f4.type [v4] = some y4 := by
  obtain ⟨cs, rfl, hsz⟩ := okWide_struct hs hv
  obtain ⟨l⟩ := cs
  match l, hsz.trans hC with
  | [c0, c1, c2, c3, c4], _ =>
    obtain ⟨fuel, hf⟩ := h
    obtain ⟨xs, n, _, hx, _, hlen, hg⟩ := DataW.trod_struct hs hf
    obtain ⟨o0, k0⟩ := hone_of hone 0 f0 rfl
    obtain ⟨o1, k1⟩ := hone_of hone 1 f1 rfl
    obtain ⟨o2, k2⟩ := hone_of hone 2 f2 rfl
    obtain ⟨o3, k3⟩ := hone_of hone 3 f3 rfl
    obtain ⟨o4, k4⟩ := hone_of hone 4 f4 rfl
    match xs, hlen with
    | [y0, y1, y2, y3, y4], _ =>
      simp only [Prod.mk.injEq] at hx
      exact ⟨c0, c1, c2, c3, c4, y0, y1, y2, y3, y4, n, rfl, by simpa using hx.1, by simpa [Value.cells, o0, k0] using hg 0 f0 rfl, by simpa [Value.cells, o1, k1] using hg 1 f1 rfl, by simpa [Value.cells, o2, k2] using hg 2 f2 rfl, by simpa [Value.cells, o3, k3] using hg 3 f3 rfl, by simpa [Value.cells, o4, k4] using hg 4 f4 rfl⟩
end

section
variable {H : Type} {enc : TypeId × Value → H} {W : World} {base b0 : Nat} {r : Reach} {sp : Nat → Bool} {held : Bool} {v : Value} {d : DataW H} {p : List MemPlace}
set_option maxRecDepth 100000 in
theorem open_ops (hv : Value.okWide Tryz.prog W r b0 34 v) (h : DataW.Trod enc Tryz.prog W base sp held 34 v d p) :
    ∃ o : OpsC, v = opsV o.i o.v o.w o.f o.t ∧ o.fits := by
  obtain ⟨a0, a1, a2, a3, a4, y0, y1, y2, y3, y4, n, rfl, _, h0, h1, h2, h3, h4⟩ := open_agg5 Tryz.underlying34 (by kernel_rfl) (by kernel_rfl) hv h
  obtain ⟨x0, e0, _, w0⟩ := DataW.trod_int Tryz.underlying3 h0
  obtain ⟨x1, e1, _, w1⟩ := DataW.trod_int Tryz.underlying3 h1
  obtain ⟨x2, e2, _, w2⟩ := DataW.trod_int Tryz.underlying3 h2
  obtain ⟨x3, e3, _, w3⟩ := DataW.trod_int Tryz.underlying3 h3
  obtain ⟨x4, e4, _, w4⟩ := DataW.trod_int Tryz.underlying3 h4
  simp only [List.cons.injEq, and_true] at e0 e1 e2 e3 e4
  subst e0 e1 e2 e3 e4
  exact ⟨⟨x0, x1, x2, x3, x4⟩, rfl, wf_i64 w0, wf_i64 w1, wf_i64 w2, wf_i64 w3, wf_i64 w4⟩
/-- a set of rules: five texts -/
structure SetC where
  s0 : ByteArray
  s1 : ByteArray
  s2 : ByteArray
  s3 : ByteArray
  s4 : ByteArray
def SetC.at (s : SetC) (i : Nat) : ByteArray := match i with | 0 => s.s0 | 1 => s.s1 | 2 => s.s2 | 3 => s.s3 | 4 => s.s4 | _ => ⟨#[]⟩
abbrev setV (s0 s1 s2 s3 s4 : ByteArray) : Value := .agg #[.string s0, .string s1, .string s2, .string s3, .string s4]
set_option maxRecDepth 100000 in
theorem open_set (hv : Value.okWide Tryz.prog W r b0 40 v) (h : DataW.Trod enc Tryz.prog W base sp held 40 v d p) :
    ∃ s : SetC, v = setV s.s0 s.s1 s.s2 s.s3 s.s4 ∧ s.s0.size + 1 ≤ Rows.uptoBulk d ∧ s.s1.size + 1 ≤ Rows.uptoBulk d ∧ s.s2.size + 1 ≤ Rows.uptoBulk d ∧ s.s3.size + 1 ≤ Rows.uptoBulk d ∧ s.s4.size + 1 ≤ Rows.uptoBulk d := by
  obtain ⟨a0, a1, a2, a3, a4, y0, y1, y2, y3, y4, n, rfl, rfl, h0, h1, h2, h3, h4⟩ := open_agg5 Tryz.underlying40 (by kernel_rfl) (by kernel_rfl) hv h
  obtain ⟨x0, e0, z0, w0⟩ := DataW.trod_string Tryz.underlying9 h0
  obtain ⟨x1, e1, z1, w1⟩ := DataW.trod_string Tryz.underlying9 h1
  obtain ⟨x2, e2, z2, w2⟩ := DataW.trod_string Tryz.underlying9 h2
  obtain ⟨x3, e3, z3, w3⟩ := DataW.trod_string Tryz.underlying9 h3
  obtain ⟨x4, e4, z4, w4⟩ := DataW.trod_string Tryz.underlying9 h4
  simp only [List.cons.injEq, and_true] at e0 e1 e2 e3 e4
  subst e0 e1 e2 e3 e4 z0 z1 z2 z3 z4
  refine ⟨⟨x0, x1, x2, x3, x4⟩, rfl, ?_⟩
  simp only [Rows.uptoBulk, Rows.uptoBulkAll, Array.length_toList, ByteArray.size_data]
  omega
end
end Go.Proofs.YtkklemhhimcahaaGreatDoor
