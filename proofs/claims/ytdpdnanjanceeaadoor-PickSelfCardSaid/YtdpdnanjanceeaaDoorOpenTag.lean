/- A tag that came in, opened. -/
import Derived.Test.YtdpdnanjanceeaaDoorFrame
import Derived.Test.YtdpdnanjanceeaaDoorTagCheck
import Derived.SliceStrings
namespace Go.Proofs.YtdpdnanjanceeaaDoor
open Go.RowKit Go.ChangeShapes Go.WideShapes Go.Joins

theorem open_strs_cells {H : Type} {enc : TypeId × Value → H} {P : Program} {W : World} {base fuel : Nat} {sp : Nat → Bool} {held : Bool} {t e : TypeId} {v : Value} {y : DataW H × List MemPlace} (ht : P.underlying t = some (.slice e)) (he : P.underlying e = some .string) (hc : P.cellsOf e = 1)
    (h : DataW.trod enc P W base sp held fuel t [v] = some y) :
    ∃ (A : Option Addr) (c : Nat) (xs : List ByteArray), v = .slice A xs.length c ∧ xs.length ≤ c ∧ c ≤ maxLen ∧ (A = none → c = 0) ∧ StrsIn W A xs ∧ ∀ x ∈ xs, x.size ≤ maxLen := by
  rcases open_strings ht he hc h with ⟨hcs, hx⟩ | ⟨a, len', cap', ss, hcs, _, hl, hm, hz, hx, hcell, hws⟩
  · simp only [List.cons.injEq, and_true] at hcs
    subst hcs
    exact ⟨none, 0, [], rfl, Nat.le_refl _, Nat.zero_le _, fun _ => rfl, .inl rfl, by simp⟩
  · simp only [List.cons.injEq, and_true] at hcs
    subst hcs
    have hlen : (ss.take len').length = len' := by rw [List.length_take, hz]; split <;> omega
    refine ⟨some a, cap', ss.take len', by rw [hlen], by rw [hlen]; exact hl, hm, (fun h => by cases h), ?_, fun x hx => hws x (List.mem_of_mem_take hx)⟩
    by_cases h0 : ss.take len' = []
    · exact .inl h0
    · have h1 : 0 < ss.length := by
        rcases ss with _ | ⟨s, r⟩
        · simp at h0
        · simp
      have hc0 := hcell 0 h1
      obtain ⟨b, o, rfl⟩ : ∃ b o, a = ⟨b, o, none⟩ := by
        obtain ⟨b, o, spot⟩ := a
        have hspot : spot = none := by simpa [Addr.add] using World.cell?_spot hc0
        subst hspot
        exact ⟨b, o, rfl⟩
      refine .inr ⟨b, o, rfl, fun j x hx => ?_⟩
      rw [List.getElem?_take] at hx
      split at hx
      · have hj : j < ss.length := (List.getElem?_eq_some_iff.1 hx).1
        have := hcell j hj
        simp only [List.getD_eq_getElem?_getD, hx, Option.getD_some] at this
        rw [← Go.WideShapes.add_plain]
        exact this
      · cases hx

set_option maxRecDepth 100000 in
theorem open_tag {H : Type} {enc : TypeId × Value → H} {W : World} {base b0 : Nat} {r : Reach} {sp : Nat → Bool} {held : Bool} {v : Value} {d : DataW H} {p : List MemPlace}
    (hv : Value.okWide Tryd.prog W r b0 24 v) (h : DataW.Trod enc Tryd.prog W base sp held 24 v d p) :
    ∃ (l s g : ByteArray) (A : Option Addr) (c : Nat) (vs : List ByteArray), v = tagV l s g A vs.length c ∧ vs.length ≤ c ∧ c ≤ maxLen ∧ (A = none → c = 0) ∧ StrsIn W A vs ∧ ∀ z ∈ [l, s, g] ++ vs, z.size ≤ maxLen := by
  obtain ⟨a0, a1, a2, a3, y0, y1, y2, y3, n, rfl, _, _, h0, h1, h2, h3⟩ := open_agg4 Tryd.underlying24 (by kernel_rfl) (by kernel_rfl) hv h
  obtain ⟨l, e0, _, z0⟩ := DataW.trod_string Tryd.underlying9 h0
  obtain ⟨s, e1, _, z1⟩ := DataW.trod_string Tryd.underlying9 h1
  obtain ⟨g, e2, _, z2⟩ := DataW.trod_string Tryd.underlying9 h2
  obtain ⟨A, c, vs, e3, k1, k2, k3, k4, k5⟩ := open_strs_cells Tryd.underlying22 Tryd.underlying9 (by kernel_rfl) h3
  simp only [List.cons.injEq, and_true] at e0 e1 e2
  subst e0 e1 e2 e3
  refine ⟨l, s, g, A, c, vs, rfl, k1, k2, k3, k4, fun z hz => ?_⟩
  simp only [List.mem_append, List.mem_cons, List.mem_nil_iff, or_false] at hz
  rcases hz with (rfl | rfl | rfl) | hz
  · exact z0
  · exact z1
  · exact z2
  · exact k5 z hz
end Go.Proofs.YtdpdnanjanceeaaDoor
