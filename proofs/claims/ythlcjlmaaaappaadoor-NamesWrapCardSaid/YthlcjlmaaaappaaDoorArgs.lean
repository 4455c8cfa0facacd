/- Rows of args. -/
import Derived.Test.YthlcjlmaaaappaaDoorRowSet
namespace Go.Proofs.YthlcjlmaaaappaaDoor
open Go.RowKit

structure ArgC where
  name : ByteArray
  isNum : Bool
  coef : Int
  scale : Int
  text : ByteArray
def ArgC.cells (x : ArgC) : List Value := [.string x.name, .bool x.isNum, .int .i64 x.coef, .int .i64 x.scale, .string x.text]
def kArg : Kind ArgC where
  e := 45
  sl := 37
  size := 5
  bytes := 56
  cells := ArgC.cells
  zero := .agg #[.string ⟨#[]⟩, .bool false, .int .i64 0, .int .i64 0, .string ⟨#[]⟩]
  hsl := Tryd.underlying37
  hi := by
    have h : (Tryd.prog.info? 45).map (fun i => (i.zero, i.size, i.bytes)) = some (some (.agg #[.string ⟨#[]⟩, .bool false, .int .i64 0, .int .i64 0, .string ⟨#[]⟩]), 5, 56) := by kernel_rfl
    obtain ⟨i, hi, h2⟩ := Option.map_eq_some_iff.1 h
    simp only [Prod.mk.injEq] at h2
    exact ⟨i, hi, h2.1, h2.2.1, h2.2.2⟩
  hzs := rfl
  hpos := by decide
  hlen := fun _ => rfl
  hone := fun x u hu => by
    simp only [ArgC.cells, List.mem_cons, List.not_mem_nil, or_false] at hu
    rcases hu with rfl | rfl | rfl | rfl | rfl <;> rfl
/-- an arg lies at a place -/
def ArgAt (w : World) (b o : Nat) (x : ArgC) : Prop :=
  w.cell? ⟨b, o, none⟩ = some (.string x.name) ∧ w.cell? ⟨b, o + 1, none⟩ = some (.bool x.isNum) ∧ w.cell? ⟨b, o + 2, none⟩ = some (.int .i64 x.coef) ∧ w.cell? ⟨b, o + 3, none⟩ = some (.int .i64 x.scale) ∧ w.cell? ⟨b, o + 4, none⟩ = some (.string x.text)
theorem ArgAt.below {w w' : World} {b o : Nat} {x : ArgC} (h : ArgAt w b o x) (hb : Below w.heap.size w w') : ArgAt w' b o x :=
  ⟨carry hb h.1, carry hb h.2.1, carry hb h.2.2.1, carry hb h.2.2.2.1, carry hb h.2.2.2.2⟩
/-- args lie there -/
def ArgsIn (w : World) (A : Option Addr) (l : List ArgC) : Prop :=
  l = [] ∨ ∃ b o, A = some ⟨b, o, none⟩ ∧ ∀ (j : Nat) x, l[j]? = some x → ArgAt w b (o + j * 5) x
theorem ArgsIn.below {w w' : World} {A : Option Addr} {l : List ArgC} (h : ArgsIn w A l) (hb : Below w.heap.size w w') : ArgsIn w' A l := by
  rcases h with h | ⟨b, o, h1, h2⟩
  · exact .inl h
  · exact .inr ⟨b, o, h1, fun j x hx => (h2 j x hx).below hb⟩
theorem ArgsIn.at {w : World} {A : Option Addr} {l : List ArgC} (h : ArgsIn w A l) (hp : 0 < l.length) : ∃ b o, A = some ⟨b, o, none⟩ ∧ ∀ (j : Nat) x, l[j]? = some x → ArgAt w b (o + j * 5) x := by
  rcases h with h | h
  · rw [h] at hp; simp at hp
  · exact h
theorem ArgsIn.lies {w : World} {A : Option Addr} {l : List ArgC} (h : ArgsIn w A l) : LiesG kArg w A l := by
  rcases h with h | ⟨b, o, rfl, h2⟩
  · exact .inl h
  · refine .inr ⟨b, o, rfl, fun j x i u hx hu => ?_⟩
    obtain ⟨c0, c1, c2, c3, c4⟩ := h2 j x hx
    match i, hu with
    | 0, hu => cases hu; exact c0
    | 1, hu => cases hu; exact c1
    | 2, hu => cases hu; exact c2
    | 3, hu => cases hu; exact c3
    | 4, hu => cases hu; exact c4
theorem args_of {w : World} {base : Nat} {v : Value} {l : List ArgC} (h : OwnsG kArg w base v l) : ∃ A c, v = .slice A l.length c ∧ l.length ≤ c ∧ c ≤ 9223372036854775807 ∧ (A = none → c = 0) ∧ ArgsIn w A l := by
  obtain ⟨A, c, rfl, h1, h2, h0, h3⟩ := h.form
  refine ⟨A, c, rfl, h1, h2, h0, ?_⟩
  rcases h3 with h3 | ⟨g, rfl, _, _, h4⟩
  · exact .inl h3
  · refine .inr ⟨g, 0, rfl, fun j x hx => ?_⟩
    rw [Nat.zero_add]
    exact ⟨h4 j x 0 _ hx rfl, h4 j x 1 _ hx rfl, h4 j x 2 _ hx rfl, h4 j x 3 _ hx rfl, h4 j x 4 _ hx rfl⟩
end Go.Proofs.YthlcjlmaaaappaaDoor
