/- Small lemmas that all walks of this seat use: what 'Below' gives of old cells. No program stands here. -/
import Derived.WalkKit
import Derived.WalkSpells
import Derived.Lib.Hide
import Derived.Deep.QuietTactic
import Derived.BigQuiet
namespace Go.Proofs.YthlcjlmaaaappaaDoor
open Go.RowKit

theorem bcell {W w1 : World} (hb : Below W.heap.size W w1) : (∀ b o, b < W.heap.size → w1.cell? ⟨b, o, none⟩ = W.cell? ⟨b, o, none⟩) ∧ (∀ b o, b < W.heap.size → w1.frozen? ⟨b, o, none⟩ = W.frozen? ⟨b, o, none⟩) :=
  ⟨fun b o h => hb.cell (p := ⟨b, o, none⟩) h, fun b o h => hb.frozen (p := ⟨b, o, none⟩) h⟩

theorem ret_int {k : IntKind} {a b : Int} (h : a = b) : Ending.returned (.int k a) = .returned (.int k b) := by rw [h]
theorem ret_bool {a b : Bool} (h : a = b) : Ending.returned (.bool a) = .returned (.bool b) := by rw [h]

theorem bel_set {B : Nat} {a w : World} {p : Addr} {u : Value} (k : Below B a w) (h : B ≤ p.block) : Below B a (w.setCell p u) := k.setCell h u
theorem bel_alloc {B : Nat} {a w : World} {o : Obj} (k : Below B a w) (h : B ≤ w.heap.size) : Below B a (w.alloc o) := k.alloc h o
theorem bel_call {B C : Nat} {a w w1 : World} (k : Below B a w) (hb : Below C w w1) (h : B ≤ C) : Below B a w1 := k.trans (hb.mono h)
theorem bel_drewN {B : Nat} {a w : World} (n : Nat) (k : Below B a w) : Below B a (w.drewN n) := ⟨k.os, k.tape, k.output, k.size, k.block⟩

/-- A cell that was there is there behind a call. -/
theorem carry {W w1 : World} {b o : Nat} {v : Value} (hb : Below W.heap.size W w1) (h : W.cell? ⟨b, o, none⟩ = some v) : w1.cell? ⟨b, o, none⟩ = some v := by
  rcases Nat.lt_or_ge b W.heap.size with hlt | hge
  · rw [hb.cell (p := ⟨b, o, none⟩) hlt]; exact h
  · exfalso
    simp [World.cell?, Array.getElem?_eq_none hge] at h
theorem carryF {W w1 : World} {b o : Nat} {c : Bool} (hb : Below W.heap.size W w1) (hlt : b < W.heap.size) (h : W.frozen? ⟨b, o, none⟩ = c) : w1.frozen? ⟨b, o, none⟩ = c := by
  rw [hb.frozen (p := ⟨b, o, none⟩) hlt]; exact h

theorem lt_of_cell {w : World} {b o : Nat} {v : Value} (h : w.cell? ⟨b, o, none⟩ = some v) : b < w.heap.size := by
  rcases Nat.lt_or_ge b w.heap.size with hlt | hge
  · exact hlt
  · exfalso
    simp [World.cell?, Array.getElem?_eq_none hge] at h

theorem Calls.quiet_left {P : Program} {f : FuncId} {args : Array Value} {w : World} {n : Nat} {v : Value}
    (h : Calls P f args (w.drewN n) fun e w' => e = .returned v ∧ w.drewN n = w') : Calls P f args (w.drewN n) fun e w'' => e = .returned v ∧ ∃ m, w'' = w.drewN m :=
  h.mono fun _ _ ⟨he, hm⟩ => ⟨he, n, hm.symm⟩
theorem Calls.quiet_add_left {P : Program} {f : FuncId} {args : Array Value} {w : World} {a n : Nat} {v : Value}
    (h : Calls P f args (w.drewN (a + n)) fun e w' => e = .returned v ∧ w.drewN (a + n) = w') :
    Calls P f args (w.drewN (a + n)) fun e w'' => e = .returned v ∧ ∃ m, w'' = w.drewN (a + m) :=
  h.mono fun _ _ ⟨he, hm⟩ => ⟨he, n, hm.symm⟩

end Go.Proofs.YthlcjlmaaaappaaDoor
