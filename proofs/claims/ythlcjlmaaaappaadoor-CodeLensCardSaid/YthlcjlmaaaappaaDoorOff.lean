/- What stands when only a few blocks of one's own are written. -/
import Derived.Test.YthlcjlmaaaappaaDoorBase
namespace Go.Proofs.YthlcjlmaaaappaaDoor
open Go.RowKit

/-- All blocks of before stand, but those of the list. -/
structure Off (l : List Nat) (w w' : World) : Prop where
  os : w'.os = w.os
  tape : w'.tape = w.tape
  output : w'.output = w.output
  size : w.heap.size ≤ w'.heap.size
  block : ∀ k, k < w.heap.size → k ∉ l → w'.heap[k]? = w.heap[k]?

theorem Off.refl (l : List Nat) (w : World) : Off l w w := ⟨rfl, rfl, rfl, Nat.le_refl _, fun _ _ _ => rfl⟩
theorem Off.trans {l : List Nat} {a b c : World} (h : Off l a b) (k : Off l b c) : Off l a c :=
  ⟨k.os.trans h.os, k.tape.trans h.tape, k.output.trans h.output, Nat.le_trans h.size k.size, fun i hi hl => (k.block i (Nat.lt_of_lt_of_le hi h.size) hl).trans (h.block i hi hl)⟩
theorem Off.below {l : List Nat} {a b c : World} (h : Off l a b) {C : Nat} (k : Below C b c) (hC : a.heap.size ≤ C) : Off l a c :=
  ⟨k.os.trans h.os, k.tape.trans h.tape, k.output.trans h.output, Nat.le_trans h.size k.size, fun i hi hl => (k.block i (Nat.lt_of_lt_of_le hi hC)).trans (h.block i hi hl)⟩
theorem Off.toBelow {l : List Nat} {a b : World} (h : Off l a b) {B : Nat} (hl : ∀ k ∈ l, B ≤ k) (hB : B ≤ a.heap.size) : Below B a b :=
  ⟨h.os, h.tape, h.output, h.size, fun k hk => h.block k (Nat.lt_of_lt_of_le hk hB) (fun hm => by have := hl k hm; omega)⟩
theorem Off.more {l m : List Nat} {a b : World} (h : Off l a b) (hl : ∀ k ∈ l, k ∈ m) : Off m a b :=
  ⟨h.os, h.tape, h.output, h.size, fun k hk hm => h.block k hk (fun h' => hm (hl k h'))⟩
theorem Off.less {l m : List Nat} {a b : World} (h : Off l a b) (hl : ∀ k ∈ l, k ∈ m ∨ a.heap.size ≤ k) : Off m a b :=
  ⟨h.os, h.tape, h.output, h.size, fun k hk hm => h.block k hk (fun h' => by
    rcases hl k h' with h1 | h1
    · exact hm h1
    · omega)⟩
theorem Off.drewN {l : List Nat} {a b : World} (h : Off l a b) (n : Nat) : Off l a (b.drewN n) := ⟨h.os, h.tape, h.output, h.size, h.block⟩
theorem Off.alloc {l : List Nat} {a b : World} (h : Off l a b) (o : Obj) : Off l a (b.alloc o) :=
  h.below (C := b.heap.size) ((Below.refl _ _).alloc (Nat.le_refl _) o) h.size
theorem Off.setCell {l : List Nat} {a b : World} (h : Off l a b) (p : Addr) (v : Value) (hp : p.block ∈ l) : Off l a (b.setCell p v) := by
  refine ⟨h.os, h.tape, h.output, ?_, fun k hk hl => ?_⟩
  · have := h.size; simpa using this
  · have hne : k ≠ p.block := fun e => hl (e ▸ hp)
    rw [← h.block k hk hl]
    exact Below.heap_setCell _ _ _ _ (fun e => hne e)

theorem Off.cell {l : List Nat} {w w1 : World} {b o : Nat} {v : Value} (hb : Off l w w1) (h : w.cell? ⟨b, o, none⟩ = some v) (hl : b ∉ l) : w1.cell? ⟨b, o, none⟩ = some v := by
  have hlt := lt_of_cell h
  rw [← h]
  simp only [World.cell?, hb.block b hlt hl]
theorem Off.frozen {l : List Nat} {w w1 : World} {b o : Nat} (hb : Off l w w1) (hlt : b < w.heap.size) (hl : b ∉ l) : w1.frozen? ⟨b, o, none⟩ = w.frozen? ⟨b, o, none⟩ := by
  simp only [World.frozen?, hb.block b hlt hl]

theorem cell_other {w : World} {a b : Addr} {v u : Value} (h : w.cell? b = some u) (hne : a ≠ b) : (w.setCell a v).cell? b = some u := (World.cell?_setCell_other _ _ _ _ hne).trans h
theorem cell_same {w : World} {a : Addr} {v u : Value} (h : w.cell? a = some u) : (w.setCell a v).cell? a = some v := World.cell?_setCell_same _ _ _ h

end Go.Proofs.YthlcjlmaaaappaaDoor
