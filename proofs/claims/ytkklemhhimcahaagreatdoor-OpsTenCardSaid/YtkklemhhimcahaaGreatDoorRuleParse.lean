/- rule.Parse: rows of rels and of parts; what stays through its loops. -/
import Derived.Test.YtkklemhhimcahaaGreatDoorRuleParsed2
import Derived.Test.YtkklemhhimcahaaGreatDoorHeld
import Derived.Test.YtkklemhhimcahaaGreatDoorRuleText
namespace Go.Proofs.YtkklemhhimcahaaGreatDoor
open Go.RowKit Go.Shelf

def kRel : Kind RelD where
  e := 24
  sl := 32
  size := 4
  bytes := 48
  cells := RelD.cells
  zero := .agg #[.int .u8 0, .int .i64 0, .bool false, .slice none 0 0]
  hsl := Tryz.underlying32
  hi := by
    have h : (Tryz.prog.info? 24).map (fun i => (i.zero, i.size, i.bytes)) = some (some (.agg #[.int .u8 0, .int .i64 0, .bool false, .slice none 0 0]), 4, 48) := by kernel_rfl
    obtain ⟨i, hi, h2⟩ := Option.map_eq_some_iff.1 h
    simp only [Prod.mk.injEq] at h2
    exact ⟨i, hi, h2.1, h2.2.1, h2.2.2⟩
  hzs := rfl
  hpos := by decide
  hlen := fun _ => rfl
  hone := fun t u hu => by simp [RelD.cells] at hu; rcases hu with rfl | rfl | rfl | rfl <;> rfl
def kPart : Kind PartD where
  e := 32
  sl := 25
  size := 1
  bytes := 24
  cells := fun p => [.slice p.A p.rs.length p.n]
  zero := .slice none 0 0
  hsl := Tryz.underlying25
  hi := by
    have h : (Tryz.prog.info? 32).map (fun i => (i.zero, i.size, i.bytes)) = some (some (.slice none 0 0), 1, 24) := by kernel_rfl
    obtain ⟨i, hi, h2⟩ := Option.map_eq_some_iff.1 h
    simp only [Prod.mk.injEq] at h2
    exact ⟨i, hi, h2.1, h2.2.1, h2.2.2⟩
  hzs := rfl
  hpos := by decide
  hlen := fun _ => rfl
  hone := fun t u hu => by simp at hu; subst hu; rfl

/-- a rel of the call's own stays right as long as its ranges' block stays -/
theorem rel_held {W : World} {lo : Nat} {d : RelD} (hO : OwnsG kRng W lo (.slice d.A d.c.rs.length d.n) d.c.rs) (hm : -9223372036854775808 ≤ d.c.md ∧ d.c.md ≤ 9223372036854775807)
    (hr : ∀ p ∈ d.c.rs, (-9223372036854775808 ≤ p.1 ∧ p.1 ≤ 9223372036854775807) ∧ (-9223372036854775808 ≤ p.2 ∧ p.2 ≤ 9223372036854775807)) : Held W lo W.heap.size [103] d.fits := by
  refine (OwnsG.held hO).mono (Nat.le_refl _) (Nat.le_refl _) (fun _ h => h) fun W' h => ?_
  obtain ⟨A, c, hv, hc, hc2, _, hcells⟩ := h.form
  obtain ⟨rfl, hn⟩ : d.A = A ∧ d.n = c := by cases hv; exact ⟨rfl, rfl⟩
  refine ⟨?_, by omega, by omega, hm, hr⟩
  rcases hcells with h0 | ⟨g, hg, _, _, hat⟩
  · exact .inl h0
  · refine .inr ⟨g, 0, hg, fun j p hp => ?_⟩
    have h1 := hat j p 0 _ hp rfl
    have h2 := hat j p 1 _ hp rfl
    exact ⟨by simpa [kRng] using h1, by simpa [kRng] using h2⟩
/-- a part of the call's own, likewise -/
theorem part_held {W : World} {lo : Nat} {p : PartD} (hO : OwnsG kRel W lo (.slice p.A p.rs.length p.n) p.rs) (hr : ∀ d ∈ p.rs, Held W lo W.heap.size [103] d.fits) :
    Held W lo W.heap.size [24, 103] p.fits := by
  have h1 : Held W lo W.heap.size [24, 103] (fun W' => OwnsG kRel W' lo (.slice p.A p.rs.length p.n) p.rs) := (OwnsG.held hO).mono (Nat.le_refl _) (Nat.le_refl _) (fun t h => by simp [kRel] at h; simp [h]) fun _ h => h
  have h2 : Held W lo W.heap.size [24, 103] (fun W' => ∀ d ∈ p.rs, d.fits W') := (Held.all hr).mono (Nat.le_refl _) (Nat.le_refl _) (fun t h => by simp at h; simp [h]) fun _ h => h
  refine (h1.and h2).mono (Nat.le_refl _) (Nat.le_refl _) (fun _ h => h) ?_
  rintro W' ⟨h, hd⟩
  obtain ⟨A, c, hv, hc, hc2, _, hcells⟩ := h.form
  obtain ⟨hA, hn⟩ : p.A = A ∧ p.n = c := by cases hv; exact ⟨rfl, rfl⟩
  refine ⟨?_, by omega, by omega, hd⟩
  rcases hcells with h0 | ⟨g, hg, _, _, hat⟩
  · exact .inl h0
  · refine .inr ⟨g, 0, by rw [hA, hg], fun j r i u hr hu => ?_⟩
    have := hat j r i u hr hu
    simpa [kRel] using this
end Go.Proofs.YtkklemhhimcahaaGreatDoor
