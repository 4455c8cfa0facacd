/- Rules in memory. -/
import Derived.Test.YtkklemhhimcahaaGreatDoorOff
import Derived.Test.YtkklemhhimcahaaGreatDoorShelf
import Derived.Test.YtkklemhhimcahaaGreatDoorPlains
namespace Go.Proofs.YtkklemhhimcahaaGreatDoor
open Go.RowKit

/-- these ranges lie there -/
def RngIn (w : World) (A : Option Addr) (rs : List (Int × Int)) : Prop :=
  rs = [] ∨ ∃ b o, A = some ⟨b, o, none⟩ ∧ ∀ (j : Nat) p, rs[j]? = some p → w.cell? ⟨b, o + j * 2, none⟩ = some (.int .i64 p.1) ∧ w.cell? ⟨b, o + j * 2 + 1, none⟩ = some (.int .i64 p.2)
theorem RngIn.below {w w' : World} {A : Option Addr} {rs : List (Int × Int)} (h : RngIn w A rs) (hb : Below w.heap.size w w') : RngIn w' A rs := by
  rcases h with h | ⟨b, o, h1, h2⟩
  · exact .inl h
  · exact .inr ⟨b, o, h1, fun j p hp => ⟨carry hb (h2 j p hp).1, carry hb (h2 j p hp).2⟩⟩
theorem RngIn.at {w : World} {A : Option Addr} {rs : List (Int × Int)} (h : RngIn w A rs) (hp : 0 < rs.length) : ∃ b o, A = some ⟨b, o, none⟩ ∧ ∀ (j : Nat) p, rs[j]? = some p → w.cell? ⟨b, o + j * 2, none⟩ = some (.int .i64 p.1) ∧ w.cell? ⟨b, o + j * 2 + 1, none⟩ = some (.int .i64 p.2) := by
  rcases h with h | h
  · rw [h] at hp; simp at hp
  · exact h

/-- a rel in memory -/
structure RelD where
  c : RelC
  A : Option Addr
  n : Nat
abbrev relV (op : UInt8) (md : Int) (neg : Bool) (A : Option Addr) (n c : Nat) : Value := .agg #[.int .u8 op.toNat, .int .i64 md, .bool neg, .slice A n c]
def RelD.val (r : RelD) : Value := relV r.c.op r.c.md r.c.neg r.A r.c.rs.length r.n
def RelD.cells (r : RelD) : List Value := [.int .u8 r.c.op.toNat, .int .i64 r.c.md, .bool r.c.neg, .slice r.A r.c.rs.length r.n]
/-- its ranges lie there, and are no more than can be -/
def RelD.fits (w : World) (r : RelD) : Prop := RngIn w r.A r.c.rs ∧ r.c.rs.length ≤ r.n ∧ r.n ≤ 9223372036854775807 ∧ (-9223372036854775808 ≤ r.c.md ∧ r.c.md ≤ 9223372036854775807) ∧ ∀ p ∈ r.c.rs, (-9223372036854775808 ≤ p.1 ∧ p.1 ≤ 9223372036854775807) ∧ (-9223372036854775808 ≤ p.2 ∧ p.2 ≤ 9223372036854775807)
theorem RelD.fits.below {w w' : World} {r : RelD} (h : r.fits w) (hb : Below w.heap.size w w') : r.fits w' := ⟨h.1.below hb, h.2⟩

/-- rels that lie in block g from o on -/
def RelsIn (w : World) (g o : Nat) (rs : List RelD) : Prop := ∀ (j : Nat) r i u, rs[j]? = some r → r.cells[i]? = some u → w.cell? ⟨g, o + j * 4 + i, none⟩ = some u
theorem RelsIn.below {w w' : World} {g o : Nat} {rs : List RelD} (h : RelsIn w g o rs) (hb : Below w.heap.size w w') : RelsIn w' g o rs := fun j t i u ht hu => carry hb (h j t i u ht hu)

/-- a row of rels in memory -/
structure PartD where
  rs : List RelD
  A : Option Addr
  n : Nat
def PartD.c (p : PartD) : List RelC := p.rs.map RelD.c
def PartD.val (p : PartD) : Value := .slice p.A p.rs.length p.n
def PartD.fits (w : World) (p : PartD) : Prop := (p.rs = [] ∨ ∃ g o, p.A = some ⟨g, o, none⟩ ∧ RelsIn w g o p.rs) ∧ p.rs.length ≤ p.n ∧ p.n ≤ 9223372036854775807 ∧ ∀ r ∈ p.rs, r.fits w
theorem PartD.fits.below {w w' : World} {p : PartD} (h : p.fits w) (hb : Below w.heap.size w w') : p.fits w' := by
  refine ⟨?_, h.2.1, h.2.2.1, fun r hr => (h.2.2.2 r hr).below hb⟩
  rcases h.1 with h1 | ⟨g, o, h1, h2⟩
  · exact .inl h1
  · exact .inr ⟨g, o, h1, h2.below hb⟩

/-- a rule in memory -/
def RuleIn (w : World) (A : Option Addr) (ps : List PartD) : Prop :=
  (ps = [] ∨ ∃ g o, A = some ⟨g, o, none⟩ ∧ ∀ (j : Nat) p, ps[j]? = some p → w.cell? ⟨g, o + j, none⟩ = some (.slice p.A p.rs.length p.n)) ∧ ∀ p ∈ ps, p.fits w
theorem RuleIn.below {w w' : World} {A : Option Addr} {ps : List PartD} (h : RuleIn w A ps) (hb : Below w.heap.size w w') : RuleIn w' A ps := by
  refine ⟨?_, fun p hp => (h.2 p hp).below hb⟩
  rcases h.1 with h1 | ⟨g, o, h1, h2⟩
  · exact .inl h1
  · exact .inr ⟨g, o, h1, fun j p hp => carry hb (h2 j p hp)⟩
def ruleC (ps : List PartD) : RuleC := ps.map PartD.c
end Go.Proofs.YtkklemhhimcahaaGreatDoor
