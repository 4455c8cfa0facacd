/- A package-level variable that holds a slice of (text, number) structs, as the row lays it. -/
import Derived.Test.YtbbafdhgoekdiaaDoorBase
import Derived.Deep.SlicePairs
import Derived.Lib.LaidTab
import Derived.Stop.LaidErr
namespace Go.Proofs.YtbbafdhgoekdiaaDoor
open Go.RowKit Go.ChangeShapes Go.WideShapes

/-- At block g a slice's header; behind it the pairs. -/
def PairsAt (w : World) (g : Nat) (k : IntKind) (xs : List (List UInt8 × Int)) : Prop :=
  ∃ b o c, w.cell? ⟨g, 0, none⟩ = some (.slice (some ⟨b, o, none⟩) xs.length c) ∧ xs.length ≤ c ∧
    ∀ i x, xs[i]? = some x → w.cell? ⟨b, o + i * 2, none⟩ = some (.string ⟨x.1.toArray⟩) ∧ w.cell? ⟨b, o + i * 2 + 1, none⟩ = some (.int k x.2)

theorem laid_pairs {P : Program} {W : World} {name : String} {k : IntKind} {xs : List (List UInt8 × Int)} {rest : List (String × DataW Unit)} {g : Nat} {t e ts ti : TypeId} {f0 f1 : Field} (hpos : 0 < xs.length)
    (hg : P.globalNamed name = some g) (hty : (P.globals[g]?).map (·.type) = some t) (ht : P.underlying t = some (.slice e)) (he : P.underlying e = some (.struct #[f0, f1]))
    (h0 : f0.type = ts) (h1 : f1.type = ti) (o0 : f0.offset = 0) (o1 : f1.offset = 1) (hs : P.underlying ts = some .string) (hi : P.underlying ti = some (.int k)) (ce : P.cellsOf e = 2) (c0 : P.cellsOf ts = 1) (c1 : P.cellsOf ti = 1)
    (h : laidMet P ((name, .slice (xs.map fun x => .agg [.lit (.string x.1), .lit (.int k x.2)]) []) :: rest) W) : PairsAt W g k xs := by
  obtain ⟨ps, ⟨g', t', cs, fuel, p, q, hg', ht', hvar, hd, _, _⟩, _⟩ := h
  obtain rfl := Option.some.inj (hg.symm.trans hg')
  obtain rfl := Option.some.inj (hty.symm.trans ht')
  rcases Deep.open_slice_pairs ht he ce o0 o1 (by rw [h0]; exact c0) (by rw [h1]; exact c1) hd with ⟨_, hx⟩ | ⟨a, len, cap, m, n, V0, V1, D0, D1, P0, P1, hcs, _, hl, _, hm, hx, hc⟩
  · cases hx
  · simp only [Prod.mk.injEq, DataW.slice.injEq] at hx
    obtain ⟨⟨hx1, hx2⟩, _⟩ := hx
    have hlen : xs.length = len := by have := congrArg List.length hx1; simpa using this
    have hml : m = cap := by rw [hm, if_pos rfl]
    obtain ⟨b, o, rfl⟩ : ∃ b o, a = ⟨b, o, none⟩ := by
      obtain ⟨b, o, spot⟩ := a
      have hspot : spot = none := by simpa [Addr.add] using World.cell?_spot (hc 0 (by omega)).1
      subst hspot
      exact ⟨b, o, rfl⟩
    refine ⟨b, o, cap, ?_, by omega, fun i x hxi => ?_⟩
    · rw [World.var?_cell hg hvar 0]
      obtain ⟨cs⟩ := cs
      obtain rfl : cs = _ := hcs
      simp [hlen]
    · have hil : i < len := by rw [← hlen]; exact (List.getElem?_eq_some_iff.1 hxi).1
      obtain ⟨e0, e1, t0, t1⟩ := hc i (by omega)
      rw [h0] at t0
      rw [h1] at t1
      obtain ⟨s, hs', hds, _⟩ := DataW.trod_string hs t0
      obtain ⟨z, hz', hdz, _⟩ := DataW.trod_int hi t1
      simp only [List.cons.injEq, and_true] at hs' hz'
      rw [hs'] at e0
      rw [hz'] at e1
      have hxx := congrArg (·[i]?) hx1
      simp only [List.getElem?_map, hxi, Option.map_some, List.getElem?_range hil, Option.some.injEq, DataW.agg.injEq, List.cons.injEq, and_true] at hxx
      simp only [Prod.mk.injEq] at hds hdz
      rw [hds.1, hdz.1] at hxx
      simp only [DataW.lit.injEq, Lit.string.injEq, Lit.int.injEq, true_and] at hxx
      refine ⟨?_, ?_⟩
      · rw [← add_plain, e0, hxx.1]
      · rw [Nat.add_assoc, ← add_plain, e1, hxx.2]

theorem PairsAt.below {w w' : World} {g : Nat} {k : IntKind} {xs : List (List UInt8 × Int)} (h : PairsAt w g k xs) (hb : Below w.heap.size w w') : PairsAt w' g k xs := by
  obtain ⟨b, o, c, h1, h2, h3⟩ := h
  exact ⟨b, o, c, carry hb h1, h2, fun i x hx => ⟨carry hb (h3 i x hx).1, carry hb (h3 i x hx).2⟩⟩
theorem PairsAt.alloc {w : World} {g : Nat} {k : IntKind} {xs : List (List UInt8 × Int)} (h : PairsAt w g k xs) (O : Obj) : PairsAt (w.alloc O) g k xs := by
  obtain ⟨b, o, c, h1, h2, h3⟩ := h
  exact ⟨b, o, c, Go.cell?_alloc_old O h1, h2, fun i x hx => ⟨Go.cell?_alloc_old O (h3 i x hx).1, Go.cell?_alloc_old O (h3 i x hx).2⟩⟩

end Go.Proofs.YtbbafdhgoekdiaaDoor
