/- strings.Join of a row of texts that lie there. -/
import Derived.Test.YtkklemhhimcahaaGreatDoorRowsS
namespace Go.Proofs.YtkklemhhimcahaaGreatDoor
open Go.RowKit

theorem OwnsS.cap {w : World} {base : Nat} {A : Option Addr} {n c : Nat} {xs : List ByteArray} (h : OwnsS w base (.slice A n c) xs) : n = xs.length ∧ n ≤ c := by
  rcases h.2 with ⟨h1, h2⟩ | ⟨g, cap, cur, h1, h3, h4, h5, _⟩
  · cases h1
    exact ⟨h2.symm, Nat.le_refl _⟩
  · cases h1
    exact ⟨rfl, h5⟩
theorem strings_joinW {A : Option Addr} {c : Nat} {xs : List ByteArray} (n : Nat) (sep : ByteArray) (w : World) (hn : xs.length = n) (h : StrsIn w A xs) (hc : n ≤ c) (hN : n ≤ 140737488355328) (hlen : (Lib.join (xs.map (·.data.toList)) sep.data.toList).length ≤ 140737488355328) :
    Calls Tryz.prog 83 #[.slice A n c, .string sep] w fun e w' => e = .returned (.string ⟨(Lib.join (xs.map (·.data.toList)) sep.data.toList).toArray⟩) ∧ Below w.heap.size w w' := by
  subst hn
  by_cases h0 : xs = []
  · subst h0
    refine (Tryz.strings_Join_none _ c sep w).mono ?_
    rintro e w' ⟨rfl, rfl⟩
    exact ⟨rfl, Below.refl _ _⟩
  · rcases h with h | ⟨bk, o, rfl, hcell⟩
    · exact absurd h h0
    · obtain ⟨x, r, rfl⟩ := List.exists_cons_of_ne_nil h0
      exact Tryz.strings_Join bk o c (x :: r) sep w hcell (lt_of_cell (hcell 0 x rfl)) (by omega) hc hlen
end Go.Proofs.YtkklemhhimcahaaGreatDoor
