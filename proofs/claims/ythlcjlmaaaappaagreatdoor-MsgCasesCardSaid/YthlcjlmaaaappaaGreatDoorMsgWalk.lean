/- MsgCases: the walk (begun). -/
import Derived.Test.YthlcjlmaaaappaaGreatDoorMsgParse
import Derived.Test.YthlcjlmaaaappaaGreatDoorKeyFault
import Derived.Test.YthlcjlmaaaappaaGreatDoorCaseStep
import Derived.Test.YthlcjlmaaaappaaGreatDoorTold
namespace Go.Proofs.YthlcjlmaaaappaaGreatDoor
open Go.RowKit

/-- a case of an empty body, for append -/
def kCase : Kind ByteArray where
  e := 33
  sl := 28
  size := 2
  bytes := 40
  cells := fun x => [.string x, .slice none 0 0]
  zero := .agg #[.string ⟨#[]⟩, .slice none 0 0]
  hsl := Tryz.underlying28
  hi := by
    have h : (Tryz.prog.info? 33).map (fun i => (i.zero, i.size, i.bytes)) = some (some (.agg #[.string ⟨#[]⟩, .slice none 0 0]), 2, 40) := by kernel_rfl
    obtain ⟨i, hi, h2⟩ := Option.map_eq_some_iff.1 h
    simp only [Prod.mk.injEq] at h2
    exact ⟨i, hi, h2.1, h2.2.1, h2.2.2⟩
  hzs := rfl
  hpos := by decide
  hlen := fun _ => rfl
  hone := fun x u hu => by
    simp only [List.mem_cons, List.not_mem_nil, or_false] at hu
    rcases hu with rfl | rfl <;> rfl
/-- such a row, as msg.Check's contract reads it -/
theorem cases_of {w : World} {base : Nat} {v : Value} {ks : List ByteArray} (h : OwnsG kCase w base v ks) : ∃ A c, v = .slice A ks.length c ∧ ks.length ≤ c ∧ c ≤ 9223372036854775807 ∧ CasesIn w A ks := by
  obtain ⟨A, c, rfl, h1, h2, _, h3⟩ := h.form
  refine ⟨A, c, rfl, h1, h2, ?_⟩
  rcases h3 with h3 | ⟨g, rfl, _, _, h4⟩
  · exact .inl h3
  · refine .inr ⟨g, 0, rfl, fun j x hx => ⟨?_, ?_⟩⟩
    · have := h4 j x 0 _ hx rfl
      rw [Nat.zero_add]
      exact this
    · have := h4 j x 1 _ hx rfl
      rw [Nat.zero_add]
      exact this

theorem walk_big (A : Option Addr) (n c : Nat) (plain : Bool) (w : World) (hn : 40 < n) :
    Calls Tryz.prog 3 #[.slice A n c, .bool plain] w fun e w' => e = .returned (.bool true) ∧ Below w.heap.size w w' := by
  have i40 : (40 : Int) < (n : Int) := by omega
  go_enter Tryz.func3, Tryz.ntmps3
  go_wp2_with fail
  refine (parse_a _).mono ?_
  rintro e w1 ⟨g, d, rfl, hb⟩
  go_wp2_with fail
  go_ret
  exact ⟨rfl, hb⟩
end Go.Proofs.YthlcjlmaaaappaaGreatDoor
