/- Rows of nodes and of cases, whatever their cells hold. -/
import Derived.Test.YthlcjlmaaaappaaDoorTyAt
import Derived.Test.YthlcjlmaaaappaaDoorNeedAll
namespace Go.Proofs.YthlcjlmaaaappaaDoor
open Go.RowKit

/-- so many values of a cell each -/
def Vals (n : Nat) : Type := { l : List Value // l.length = n ∧ ∀ u ∈ l, u.oneCell' = true }
def nodeQ (kd : Int) (t : ByteArray) (off : Int) (A : Option Addr) (n c : Nat) : Vals 4 := ⟨[.int .i64 kd, .string t, .int .i64 off, .slice A n c], rfl, fun u hu => by
  simp only [List.mem_cons, List.not_mem_nil, or_false] at hu
  rcases hu with rfl | rfl | rfl | rfl <;> rfl⟩
def caseQ (k : ByteArray) (A : Option Addr) (n c : Nat) : Vals 2 := ⟨[.string k, .slice A n c], rfl, fun u hu => by
  simp only [List.mem_cons, List.not_mem_nil, or_false] at hu
  rcases hu with rfl | rfl <;> rfl⟩
def kNodeQ : Kind (Vals 4) where
  e := 32
  sl := 22
  size := 4
  bytes := 56
  cells := fun x => x.1
  zero := .agg #[.int .i64 0, .string ⟨#[]⟩, .int .i64 0, .slice none 0 0]
  hsl := Tryd.underlying22
  hi := by
    have h : (Tryd.prog.info? 32).map (fun i => (i.zero, i.size, i.bytes)) = some (some (.agg #[.int .i64 0, .string ⟨#[]⟩, .int .i64 0, .slice none 0 0]), 4, 56) := by kernel_rfl
    obtain ⟨i, hi, h2⟩ := Option.map_eq_some_iff.1 h
    simp only [Prod.mk.injEq] at h2
    exact ⟨i, hi, h2.1, h2.2.1, h2.2.2⟩
  hzs := rfl
  hpos := by decide
  hlen := fun t => t.2.1
  hone := fun x u hu => x.2.2 u hu
def kCaseQ : Kind (Vals 2) where
  e := 35
  sl := 30
  size := 2
  bytes := 40
  cells := fun x => x.1
  zero := .agg #[.string ⟨#[]⟩, .slice none 0 0]
  hsl := Tryd.underlying30
  hi := by
    have h : (Tryd.prog.info? 35).map (fun i => (i.zero, i.size, i.bytes)) = some (some (.agg #[.string ⟨#[]⟩, .slice none 0 0]), 2, 40) := by kernel_rfl
    obtain ⟨i, hi, h2⟩ := Option.map_eq_some_iff.1 h
    simp only [Prod.mk.injEq] at h2
    exact ⟨i, hi, h2.1, h2.2.1, h2.2.2⟩
  hzs := rfl
  hpos := by decide
  hlen := fun t => t.2.1
  hone := fun x u hu => x.2.2 u hu
end Go.Proofs.YthlcjlmaaaappaaDoor
