/- slices.Reverse of a row of texts of one's own; strings.Join of a row of texts. -/
import Derived.Test.YtdpdnanjanceeaaDoorRowsS
import Derived.Laws.IdiomCopy
namespace Go.Proofs.YtdpdnanjanceeaaDoor
open Go.RowKit

theorem OwnsS.cap {w : World} {base : Nat} {A : Option Addr} {n c : Nat} {xs : List ByteArray} (h : OwnsS w base (.slice A n c) xs) : n = xs.length ∧ n ≤ c := by
  rcases h.2 with ⟨h1, h2⟩ | ⟨g, cap, cur, h1, h3, h4, h5, _⟩
  · cases h1
    exact ⟨h2.symm, Nat.le_refl _⟩
  · cases h1
    exact ⟨rfl, h5⟩
theorem below_setCells {B : Nat} {a : World} {b : Nat} (hb : B ≤ b) : ∀ (vs : List Value) (o : Nat) (w : World), Below B a w → Below B a (w.setCells b o vs)
  | [], _, _, h => h
  | v :: r, o, w, h => below_setCells hb r (o + 1) _ (bel_set h hb)
theorem strings_joinW {A : Option Addr} {c : Nat} {xs : List ByteArray} (n : Nat) (sep : ByteArray) (w : World) (hn : xs.length = n) (h : StrsIn w A xs) (hc : n ≤ c) (hN : n ≤ 140737488355328) (hlen : (Lib.join (xs.map (·.data.toList)) sep.data.toList).length ≤ 140737488355328) :
    Calls Tryd.prog 41 #[.slice A n c, .string sep] w fun e w' => e = .returned (.string ⟨(Lib.join (xs.map (·.data.toList)) sep.data.toList).toArray⟩) ∧ Below w.heap.size w w' := by
  subst hn
  by_cases h0 : xs = []
  · subst h0
    refine (Tryd.strings_Join_none _ c sep w).mono ?_
    rintro e w' ⟨rfl, rfl⟩
    exact ⟨rfl, Below.refl _ _⟩
  · rcases h with h | ⟨bk, o, rfl, hcell⟩
    · exact absurd h h0
    · obtain ⟨x, r, rfl⟩ := List.exists_cons_of_ne_nil h0
      exact Tryd.strings_Join bk o c (x :: r) sep w hcell (lt_of_cell (hcell 0 x rfl)) (by omega) hc hlen
theorem strsOf_eq (xs : List ByteArray) : Lib.strsOf (fun i => xs.getD i ⟨#[]⟩) xs.length = xs.map (·.data.toList) := by
  unfold Lib.strsOf
  apply List.ext_getElem?
  intro i
  rw [List.getElem?_map, List.getElem?_map]
  by_cases h : i < xs.length
  · simp [h]
  · simp [h]

theorem rev_strs {A : Option Addr} {c base : Nat} {xs : List ByteArray} (n : Nat) (w : World) (hn : n = xs.length) (h : OwnsS w base (.slice A n c) xs) (hB : base ≤ w.heap.size) (hN : n ≤ 9223372036854775807) :
    Calls Tryd.prog 66 #[.slice A n c] w fun e w' => e = .returned (.tuple #[]) ∧ StrsIn w' A xs.reverse ∧ Below base w w' := by
  subst hn
  by_cases h0 : xs = []
  · subst h0
    refine (Tryd.slices_Reverse_string_empty A c w).mono ?_
    rintro e w' ⟨rfl, rfl⟩
    exact ⟨rfl, .inl rfl, Below.refl _ _⟩
  · have h' := h
    rcases h.2 with ⟨h1, h2⟩ | ⟨g, cap, cur, h1, h3, h4, _⟩
    · exact absurd (List.length_eq_zero_iff.1 h2) h0
    · cases h1
      have hs := h'.strs
      have hcell : ∀ i, i < xs.length → w.cell? ⟨g, 0 + i, none⟩ = some (.string (xs.getD i ⟨#[]⟩)) := fun i hi => by
        rcases hs with h | ⟨bk, o, e, hc⟩
        · exact absurd h h0
        · cases e
          refine hc i _ ?_
          rw [List.getElem?_eq_getElem hi, List.getD_eq_getElem?_getD, List.getElem?_eq_getElem hi]; rfl
      have hf : ∀ j, j < xs.length → w.frozen? ⟨g, 0 + j, none⟩ = false := fun j _ => by simp [World.frozen?, h4]
      refine (Tryd.slices_Reverse_string_cells g 0 xs.length c (fun i => xs.getD i ⟨#[]⟩) w hN hcell hf).mono ?_
      rintro e w' ⟨rfl, q, rfl⟩
      rw [strsOf_eq]
      refine ⟨rfl, .inr ⟨g, 0, rfl, fun j x hx => ?_⟩, below_setCells h3 _ _ _ (bel_drewN q (Below.refl _ _))⟩
      have hj : j < xs.length := by simpa using (List.getElem?_eq_some_iff.1 hx).1
      rw [World.cell?_setCells_in g _ 0 _ (fun i hi => by
        have : (w.drewN q).cell? ⟨g, 0 + i, none⟩ = w.cell? ⟨g, 0 + i, none⟩ := rfl
        rw [this, hcell i (by simpa using hi)]; rfl) j (by simpa using hj)]
      congr 1
      have hx2 := (List.getElem?_eq_some_iff.1 hx).2
      simp only [List.getElem_map, List.getElem_reverse, List.length_map] at hx2 ⊢
      rw [← hx2]
end Go.Proofs.YtdpdnanjanceeaaDoor
