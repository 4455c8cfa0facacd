/- Messages that a walk lays itself. -/
import Derived.Test.YthlcjlmaaaappaaDoorTree
namespace Go.Proofs.YthlcjlmaaaappaaDoor
open Go.RowKit

def showA : List Nd := [.mk 2 ⟨#[97]⟩ 0 []]
theorem lit_show (w : World) (b : Nat) (h0 : w.cell? ⟨b, 0, none⟩ = some (.int .i64 2)) (h1 : w.cell? ⟨b, 1, none⟩ = some (.string ⟨#[97]⟩)) (h2 : w.cell? ⟨b, 2, none⟩ = some (.int .i64 0)) (h3 : w.cell? ⟨b, 3, none⟩ = some (.slice none 0 0)) :
    NodesIn 1 w (.slice (some ⟨b, 0, none⟩) 1 1) showA := by
  refine ⟨_, 1, rfl, Nat.le_refl _, by omega, by decide, .inr ⟨b, 0, rfl, fun j x hx => ?_⟩⟩
  obtain rfl : j = 0 := by have := (List.getElem?_eq_some_iff.1 hx).1; simp [showA] at this; omega
  cases hx
  refine ⟨by decide, by decide, by decide, ?_, ?_, ?_, _, ?_, ⟨none, 0, rfl, Nat.le_refl _, by omega, by decide, .inl rfl⟩⟩
  · exact h0
  · exact h1
  · exact h2
  · exact h3
/-- one node with one case 'other' whose body lies there -/
theorem lit_wrap {f : Nat} {v : Value} {ms : List Nd} (kd : Int) (name : ByteArray) (w : World) (b c : Nat) (hkd : -9223372036854775808 ≤ kd ∧ kd ≤ 9223372036854775807) (hN : NodesIn f w v ms) (hn : name.size ≤ 140737488355328)
    (h0 : w.cell? ⟨b, 0, none⟩ = some (.int .i64 kd)) (h1 : w.cell? ⟨b, 1, none⟩ = some (.string name)) (h2 : w.cell? ⟨b, 2, none⟩ = some (.int .i64 0)) (h3 : w.cell? ⟨b, 3, none⟩ = some (.slice (some ⟨c, 0, none⟩) 1 1))
    (h4 : w.cell? ⟨c, 0, none⟩ = some (.string otherS)) (h5 : w.cell? ⟨c, 1, none⟩ = some v) :
    NodesIn (f + 1) w (.slice (some ⟨b, 0, none⟩) 1 1) [.mk kd name 0 [(otherS, ms)]] := by
  have one : (1 : Nat) ≤ 3518437208800 := by decide
  have zb : (-9223372036854775808 : Int) ≤ 0 ∧ (0 : Int) ≤ 9223372036854775807 := by decide
  have ob : otherS.size ≤ 140737488355328 := by decide
  refine ⟨_, 1, rfl, Nat.le_refl _, by omega, one, .inr ⟨b, 0, rfl, fun j x hx => ?_⟩⟩
  obtain rfl : j = 0 := by have := (List.getElem?_eq_some_iff.1 hx).1; simp at this; omega
  cases hx
  refine ⟨hn, zb, hkd, ?_, ?_, ?_, _, ?_, ⟨_, 1, rfl, Nat.le_refl _, by omega, one, .inr ⟨c, 0, rfl, fun j x hx => ?_⟩⟩⟩
  · exact h0
  · exact h1
  · exact h2
  · exact h3
  · obtain rfl : j = 0 := by have h : j < ([(otherS, ms)] : List (ByteArray × List Nd)).length := (List.getElem?_eq_some_iff.1 hx).1; simp at h; omega
    cases hx
    exact ⟨ob, h4, v, h5, hN⟩
end Go.Proofs.YthlcjlmaaaappaaDoor
