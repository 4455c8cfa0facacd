/- A rel that came in, opened. -/
import Derived.Test.YtkklemhhimcahaaGreatDoorOpenRule
namespace Go.Proofs.YtkklemhhimcahaaGreatDoor
open Go.RowKit Go.ChangeShapes Go.WideShapes Go.Joins Go.Deep

set_option maxRecDepth 100000 in
theorem open_rel {H : Type} {enc : TypeId × Value → H} {W : World} {base b0 : Nat} {r : Reach} {sp : Nat → Bool} {held : Bool} {v : Value} {d : DataW H} {p : List MemPlace}
    (hv : Value.okWide Tryz.prog W r b0 24 v) (h : DataW.Trod enc Tryz.prog W base sp held 24 v d p) :
    ∃ x : RelD, v = relV x.c.op x.c.md x.c.neg x.A x.c.rs.length x.n ∧ x.fits W := by
  obtain ⟨a0, a1, a2, a3, y0, y1, y2, y3, n, rfl, _, _, h0, h1, h2, h3⟩ := open_agg4 Tryz.underlying24 (by kernel_rfl) (by kernel_rfl) hv h
  obtain ⟨n0, e0, _, w0⟩ := DataW.trod_int Tryz.underlying5 h0
  obtain ⟨n1, e1, _, w1⟩ := DataW.trod_int Tryz.underlying3 h1
  obtain ⟨n2, e2, _⟩ := DataW.trod_bool Tryz.underlying4 h2
  obtain ⟨A, c, rs, e3, k1, k2, k3, k4, _⟩ := open_rngs h3
  simp only [List.cons.injEq, and_true] at e0 e1 e2
  subst e0 e1 e2 e3
  obtain ⟨op, rfl⟩ := u8_of w0
  exact ⟨⟨⟨op, n1, n2, rs⟩, A, c⟩, rfl, k3, k1, k2, wf_i64 w1, k4⟩
end Go.Proofs.YtkklemhhimcahaaGreatDoor
