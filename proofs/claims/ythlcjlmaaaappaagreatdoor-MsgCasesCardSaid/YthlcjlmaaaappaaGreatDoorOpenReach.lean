/- A slice of texts that came in, opened; what the reach says of it. -/
import Derived.Test.YthlcjlmaaaappaaGreatDoorFrame
import Derived.Test.YthlcjlmaaaappaaGreatDoorStrsPlain
import Derived.SliceStrings
namespace Go.Proofs.YthlcjlmaaaappaaGreatDoor
open Go.RowKit Go.ChangeShapes Go.WideShapes

theorem weightsAll_strs {H : Type} (P : Program) (e : TypeId) (ss : List ByteArray) : DataW.weightsAll P e (strs (H := H) ss) = ss.map (·.size) := by
  induction ss with
  | nil => rfl
  | cons s r ih =>
    show DataW.weights P e (.lit (.string s.data.toList)) ++ DataW.weightsAll P e (strs r) = _
    rw [ih]
    simp [DataW.weights]

theorem open_strs_reach {H : Type} {enc : TypeId × Value → H} {P : Program} {W : World} {base b0 : Nat} {r : Reach} {sp : Nat → Bool} {held : Bool} {t e : TypeId} {v : Value} {d : DataW H} {p : List MemPlace} (ht : P.underlying t = some (.slice e)) (he : P.underlying e = some .string) (hc : P.cellsOf e = 1) (hby : P.bytesOf e = 16)
    (hv : Value.okWide P W r b0 t v) (h : DataW.Trod enc P W base sp held t v d p) (hw : (d.weights P t).all (· ≤ reachBytes) = true) :
    ∃ (A : Option Addr) (c : Nat) (xs : List ByteArray), v = .slice A xs.length c ∧ xs.length ≤ c ∧ (A = none → c = 0) ∧ StrsIn W A xs ∧ xs.length ≤ 8800000000000 ∧ ∀ x ∈ xs, x.size ≤ 140737488355328 := by
  obtain ⟨a0, len, cap, rfl⟩ := okWide_slice ht hv
  obtain ⟨fuel, hf⟩ := h
  rcases open_strings ht he hc hf with ⟨hcs, hx⟩ | ⟨a, len', cap', ss, hcs, _, hl, hm, hz, hx, hcell, hws⟩
  · simp only [Value.cells, List.cons.injEq, Value.slice.injEq, and_true] at hcs
    obtain ⟨rfl, rfl, rfl⟩ := hcs
    exact ⟨none, 0, [], rfl, Nat.le_refl _, fun _ => rfl, .inl rfl, by simp, by simp⟩
  · simp only [Value.cells, List.cons.injEq, Value.slice.injEq, and_true] at hcs
    obtain ⟨rfl, rfl, rfl⟩ := hcs
    simp only [Prod.mk.injEq] at hx
    have hlen : (ss.take len).length = len := by rw [List.length_take, hz]; split <;> omega
    rw [hx.1] at hw
    simp only [DataW.weights, ht, weightsAll_strs, List.all_cons, List.all_append, Bool.and_eq_true, decide_eq_true_eq, hby] at hw
    obtain ⟨w1, w2, _⟩ := hw
    refine ⟨some a, cap, ss.take len, by rw [hlen], by rw [hlen]; exact hl, (fun h => by cases h), ?_, ?_, fun x hx => ?_⟩
    · by_cases h0 : ss.take len = []
      · exact .inl h0
      · have h1 : 0 < ss.length := by
          rcases ss with _ | ⟨s, r⟩
          · simp at h0
          · simp
        have hc0 := hcell 0 h1
        obtain ⟨b, o, rfl⟩ : ∃ b o, a = ⟨b, o, none⟩ := by
          obtain ⟨b, o, spot⟩ := a
          have hspot : spot = none := by simpa [Addr.add] using World.cell?_spot hc0
          subst hspot
          exact ⟨b, o, rfl⟩
        refine .inr ⟨b, o, rfl, fun j x hx => ?_⟩
        rw [List.getElem?_take] at hx
        split at hx
        · have hj : j < ss.length := (List.getElem?_eq_some_iff.1 hx).1
          have := hcell j hj
          simp only [List.getD_eq_getElem?_getD, hx, Option.getD_some] at this
          rw [← Go.WideShapes.add_plain]
          exact this
        · cases hx
    · simp only [strs, List.length_map, reachBytes] at w1
      omega
    · have := List.all_eq_true.1 w2 x.size (List.mem_map_of_mem hx)
      simpa [reachBytes] using Nat.le_trans (of_decide_eq_true this) (by decide : reachBytes ≤ 140737488355328)

end Go.Proofs.YthlcjlmaaaappaaGreatDoor
