/- A slice of texts that came in, opened; what the bound says of it. -/
import Derived.Test.YtbbafdhgoekdiaaFrame
import Derived.Test.YtbbafdhgoekdiaaStrsPlain
import Derived.SliceStrings
namespace Go.Proofs.Ytbbafdhgoekdiaa
open Go.RowKit Go.ChangeShapes Go.WideShapes

theorem bulk_strs {H : Type} (ss : List ByteArray) : Rows.uptoBulkAll (strs (H := H) ss) = lensB ss + ss.length := by
  induction ss with
  | nil => rfl
  | cons s r ih =>
    simp only [strs, List.map_cons, Rows.uptoBulkAll, Rows.uptoBulk, lensB, List.sum_cons, List.length_cons] at *
    rw [ih]
    have : s.data.toList.length = s.size := by simp
    omega

theorem open_strs {H : Type} {enc : TypeId × Value → H} {P : Program} {W : World} {base b0 : Nat} {r : Reach} {sp : Nat → Bool} {held : Bool} {t e : TypeId} {v : Value} {d : DataW H} {p : List MemPlace} (ht : P.underlying t = some (.slice e)) (he : P.underlying e = some .string) (hc : P.cellsOf e = 1)
    (hv : Value.okWide P W r b0 t v) (h : DataW.Trod enc P W base sp held t v d p) :
    ∃ (A : Option Addr) (c : Nat) (xs : List ByteArray), v = .slice A xs.length c ∧ xs.length ≤ c ∧ StrsIn W A xs ∧ lensB xs + xs.length + 1 ≤ Rows.uptoBulk d := by
  obtain ⟨a0, len, cap, rfl⟩ := okWide_slice ht hv
  obtain ⟨fuel, hf⟩ := h
  rcases open_strings ht he hc hf with ⟨hcs, hx⟩ | ⟨a, len', cap', ss, hcs, _, hl, hm, hz, hx, hcell, hws⟩
  · simp only [Value.cells, List.cons.injEq, Value.slice.injEq, and_true] at hcs
    obtain ⟨rfl, rfl, rfl⟩ := hcs
    simp only [Prod.mk.injEq] at hx
    refine ⟨none, 0, [], rfl, Nat.le_refl _, .inl rfl, ?_⟩
    rw [hx.1]
    simp [Rows.uptoBulk, lensB]
  · simp only [Value.cells, List.cons.injEq, Value.slice.injEq, and_true] at hcs
    obtain ⟨rfl, rfl, rfl⟩ := hcs
    simp only [Prod.mk.injEq] at hx
    have hlen : (ss.take len).length = len := by rw [List.length_take, hz]; split <;> omega
    refine ⟨some a, cap, ss.take len, by rw [hlen], by rw [hlen]; exact hl, ?_, ?_⟩
    · by_cases h0 : ss.take len = []
      · exact .inl h0
      · have h1 : 0 < ss.length := by
          rcases ss with _ | ⟨s, r⟩
          · simp at h0
          · simp
        have hc0 := hcell 0 h1
        obtain ⟨b, o, rfl⟩ : ∃ b o, a = ⟨b, o, none⟩ := by
          obtain ⟨b, o, spot⟩ := a
          have hspot : spot = none := by simpa [Addr.add] using World.cell?_spot hc0
          subst hspot
          exact ⟨b, o, rfl⟩
        refine .inr ⟨b, o, rfl, fun j x hx => ?_⟩
        rw [List.getElem?_take] at hx
        split at hx
        · have hj : j < ss.length := (List.getElem?_eq_some_iff.1 hx).1
          have := hcell j hj
          simp only [List.getD_eq_getElem?_getD, hx, Option.getD_some] at this
          rw [← Go.WideShapes.add_plain]
          exact this
        · cases hx
    · rw [hx.1]
      simp only [Rows.uptoBulk, bulk_strs, hlen]
      omega

end Go.Proofs.Ytbbafdhgoekdiaa
