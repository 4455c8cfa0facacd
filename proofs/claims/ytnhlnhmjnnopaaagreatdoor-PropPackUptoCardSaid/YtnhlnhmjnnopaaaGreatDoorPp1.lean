/- Base, Off, ListsOf, Err, MaxL: texts put together. -/
import Derived.WalkKit
import Derived.WalkSpells
import Derived.Lib.Hide
import Derived.Deep.QuietTactic
import Derived.BigQuiet
import Derived.Below
set_option linter.unusedVariables false
set_option linter.unusedSimpArgs false
/- Small lemmas that all walks of this seat use: what 'Below' gives of old cells. No program stands here. -/
namespace Go.Proofs.YtnhlnhmjnnopaaaGreatDoor
open Go.RowKit

theorem bcell {W w1 : World} (hb : Below W.heap.size W w1) : (∀ b o, b < W.heap.size → w1.cell? ⟨b, o, none⟩ = W.cell? ⟨b, o, none⟩) ∧ (∀ b o, b < W.heap.size → w1.frozen? ⟨b, o, none⟩ = W.frozen? ⟨b, o, none⟩) :=
  ⟨fun b o h => hb.cell (p := ⟨b, o, none⟩) h, fun b o h => hb.frozen (p := ⟨b, o, none⟩) h⟩

theorem ret_int {k : IntKind} {a b : Int} (h : a = b) : Ending.returned (.int k a) = .returned (.int k b) := by rw [h]
theorem ret_bool {a b : Bool} (h : a = b) : Ending.returned (.bool a) = .returned (.bool b) := by rw [h]

theorem bel_set {B : Nat} {a w : World} {p : Addr} {u : Value} (k : Below B a w) (h : B ≤ p.block) : Below B a (w.setCell p u) := k.setCell h u
theorem bel_alloc {B : Nat} {a w : World} {o : Obj} (k : Below B a w) (h : B ≤ w.heap.size) : Below B a (w.alloc o) := k.alloc h o
theorem bel_call {B C : Nat} {a w w1 : World} (k : Below B a w) (hb : Below C w w1) (h : B ≤ C) : Below B a w1 := k.trans (hb.mono h)
theorem bel_drewN {B : Nat} {a w : World} (n : Nat) (k : Below B a w) : Below B a (w.drewN n) := ⟨k.os, k.tape, k.output, k.size, k.block⟩

/-- A cell that was there is there behind a call. -/
theorem carry {W w1 : World} {b o : Nat} {v : Value} (hb : Below W.heap.size W w1) (h : W.cell? ⟨b, o, none⟩ = some v) : w1.cell? ⟨b, o, none⟩ = some v := by
  rcases Nat.lt_or_ge b W.heap.size with hlt | hge
  · rw [hb.cell (p := ⟨b, o, none⟩) hlt]; exact h
  · exfalso
    simp [World.cell?, Array.getElem?_eq_none hge] at h
theorem carryF {W w1 : World} {b o : Nat} {c : Bool} (hb : Below W.heap.size W w1) (hlt : b < W.heap.size) (h : W.frozen? ⟨b, o, none⟩ = c) : w1.frozen? ⟨b, o, none⟩ = c := by
  rw [hb.frozen (p := ⟨b, o, none⟩) hlt]; exact h

theorem lt_of_cell {w : World} {b o : Nat} {v : Value} (h : w.cell? ⟨b, o, none⟩ = some v) : b < w.heap.size := by
  rcases Nat.lt_or_ge b w.heap.size with hlt | hge
  · exact hlt
  · exfalso
    simp [World.cell?, Array.getElem?_eq_none hge] at h

theorem Calls.quiet_left {P : Program} {f : FuncId} {args : Array Value} {w : World} {n : Nat} {v : Value}
    (h : Calls P f args (w.drewN n) fun e w' => e = .returned v ∧ w.drewN n = w') : Calls P f args (w.drewN n) fun e w'' => e = .returned v ∧ ∃ m, w'' = w.drewN m :=
  h.mono fun _ _ ⟨he, hm⟩ => ⟨he, n, hm.symm⟩
theorem Calls.quiet_add_left {P : Program} {f : FuncId} {args : Array Value} {w : World} {a n : Nat} {v : Value}
    (h : Calls P f args (w.drewN (a + n)) fun e w' => e = .returned v ∧ w.drewN (a + n) = w') :
    Calls P f args (w.drewN (a + n)) fun e w'' => e = .returned v ∧ ∃ m, w'' = w.drewN (a + m) :=
  h.mono fun _ _ ⟨he, hm⟩ => ⟨he, n, hm.symm⟩

end Go.Proofs.YtnhlnhmjnnopaaaGreatDoor

/- What stands when only a few blocks of one's own are written. -/
namespace Go.Proofs.YtnhlnhmjnnopaaaGreatDoor
open Go.RowKit

/-- All blocks of before stand, but those of the list. -/
structure Off (l : List Nat) (w w' : World) : Prop where
  os : w'.os = w.os
  tape : w'.tape = w.tape
  output : w'.output = w.output
  size : w.heap.size ≤ w'.heap.size
  block : ∀ k, k < w.heap.size → k ∉ l → w'.heap[k]? = w.heap[k]?

theorem Off.refl (l : List Nat) (w : World) : Off l w w := ⟨rfl, rfl, rfl, Nat.le_refl _, fun _ _ _ => rfl⟩
theorem Off.trans {l : List Nat} {a b c : World} (h : Off l a b) (k : Off l b c) : Off l a c :=
  ⟨k.os.trans h.os, k.tape.trans h.tape, k.output.trans h.output, Nat.le_trans h.size k.size, fun i hi hl => (k.block i (Nat.lt_of_lt_of_le hi h.size) hl).trans (h.block i hi hl)⟩
theorem Off.below {l : List Nat} {a b c : World} (h : Off l a b) {C : Nat} (k : Below C b c) (hC : a.heap.size ≤ C) : Off l a c :=
  ⟨k.os.trans h.os, k.tape.trans h.tape, k.output.trans h.output, Nat.le_trans h.size k.size, fun i hi hl => (k.block i (Nat.lt_of_lt_of_le hi hC)).trans (h.block i hi hl)⟩
theorem Off.toBelow {l : List Nat} {a b : World} (h : Off l a b) {B : Nat} (hl : ∀ k ∈ l, B ≤ k) (hB : B ≤ a.heap.size) : Below B a b :=
  ⟨h.os, h.tape, h.output, h.size, fun k hk => h.block k (Nat.lt_of_lt_of_le hk hB) (fun hm => by have := hl k hm; omega)⟩
theorem Off.more {l m : List Nat} {a b : World} (h : Off l a b) (hl : ∀ k ∈ l, k ∈ m) : Off m a b :=
  ⟨h.os, h.tape, h.output, h.size, fun k hk hm => h.block k hk (fun h' => hm (hl k h'))⟩
theorem Off.less {l m : List Nat} {a b : World} (h : Off l a b) (hl : ∀ k ∈ l, k ∈ m ∨ a.heap.size ≤ k) : Off m a b :=
  ⟨h.os, h.tape, h.output, h.size, fun k hk hm => h.block k hk (fun h' => by
    rcases hl k h' with h1 | h1
    · exact hm h1
    · omega)⟩
theorem Off.drewN {l : List Nat} {a b : World} (h : Off l a b) (n : Nat) : Off l a (b.drewN n) := ⟨h.os, h.tape, h.output, h.size, h.block⟩
theorem Off.alloc {l : List Nat} {a b : World} (h : Off l a b) (o : Obj) : Off l a (b.alloc o) :=
  h.below (C := b.heap.size) ((Below.refl _ _).alloc (Nat.le_refl _) o) h.size
theorem Off.setCell {l : List Nat} {a b : World} (h : Off l a b) (p : Addr) (v : Value) (hp : p.block ∈ l) : Off l a (b.setCell p v) := by
  refine ⟨h.os, h.tape, h.output, ?_, fun k hk hl => ?_⟩
  · have := h.size; simpa using this
  · have hne : k ≠ p.block := fun e => hl (e ▸ hp)
    rw [← h.block k hk hl]
    exact Below.heap_setCell _ _ _ _ (fun e => hne e)

theorem Off.cell {l : List Nat} {w w1 : World} {b o : Nat} {v : Value} (hb : Off l w w1) (h : w.cell? ⟨b, o, none⟩ = some v) (hl : b ∉ l) : w1.cell? ⟨b, o, none⟩ = some v := by
  have hlt := lt_of_cell h
  rw [← h]
  simp only [World.cell?, hb.block b hlt hl]
theorem Off.frozen {l : List Nat} {w w1 : World} {b o : Nat} (hb : Off l w w1) (hlt : b < w.heap.size) (hl : b ∉ l) : w1.frozen? ⟨b, o, none⟩ = w.frozen? ⟨b, o, none⟩ := by
  simp only [World.frozen?, hb.block b hlt hl]

theorem cell_other {w : World} {a b : Addr} {v u : Value} (h : w.cell? b = some u) (hne : a ≠ b) : (w.setCell a v).cell? b = some u := (World.cell?_setCell_other _ _ _ _ hne).trans h
theorem cell_same {w : World} {a : Addr} {v u : Value} (h : w.cell? a = some u) : (w.setCell a v).cell? a = some v := World.cell?_setCell_same _ _ _ h

end Go.Proofs.YtnhlnhmjnnopaaaGreatDoor

/- The bytes of texts. -/
namespace Go.Proofs.YtnhlnhmjnnopaaaGreatDoor
abbrev listsOf (vs : List ByteArray) : List (List UInt8) := vs.map (·.data.toList)
end Go.Proofs.YtnhlnhmjnnopaaaGreatDoor

/- An Errno as an error. -/
namespace Go.Proofs.YtnhlnhmjnnopaaaGreatDoor
open Go.RowKit
abbrev errT (k : Int) : Value := .iface 66 (.int .i64 k)
def errOf (k : Int) : Value := if k = 0 then .nilIface else errT k
end Go.Proofs.YtnhlnhmjnnopaaaGreatDoor

/- The library's bytealg.MaxLen. -/
namespace Go.Proofs.YtnhlnhmjnnopaaaGreatDoor
open Go.RowKit

def MaxL (w : World) : Prop := ∃ m : Int, w.cell? ⟨0, 0, none⟩ = some (.int .i64 m)
theorem MaxL.below {w w' : World} (h : MaxL w) (hb : Below w.heap.size w w') : MaxL w' := by
  obtain ⟨m, hm⟩ := h
  exact ⟨m, carry hb hm⟩
end Go.Proofs.YtnhlnhmjnnopaaaGreatDoor
