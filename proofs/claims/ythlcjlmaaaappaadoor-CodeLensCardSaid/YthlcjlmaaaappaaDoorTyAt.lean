/- Blocks and their types: what keeps a row apart from another one. -/
import Derived.Test.YthlcjlmaaaappaaDoorRowSet
import Derived.Test.YthlcjlmaaaappaaDoorNeedAll
import Derived.Laws.Rows
namespace Go.Proofs.YthlcjlmaaaappaaDoor
open Go.RowKit

/-- block b holds things of type t -/
def TyAt (w : World) (b : Nat) (t : TypeId) : Prop := ∃ cur, w.heap[b]? = some (.cells cur t (0, 0))
theorem TyAt.lt {w : World} {b : Nat} {t : TypeId} (h : TyAt w b t) : b < w.heap.size := by
  obtain ⟨cur, h⟩ := h
  exact (Array.getElem?_eq_some_iff.1 h).1
theorem TyAt.off {w w' : World} {b : Nat} {t : TypeId} {m : List Nat} (h : TyAt w b t) (hm : Off m w w') (hb : b ∉ m) : TyAt w' b t := by
  have hl := h.lt
  obtain ⟨cur, h⟩ := h
  exact ⟨cur, (hm.block b hl hb).trans h⟩
theorem TyAt.below {w w' : World} {b : Nat} {t : TypeId} (h : TyAt w b t) (hb : Below w.heap.size w w') : TyAt w' b t := by
  have hl := h.lt
  obtain ⟨cur, h⟩ := h
  exact ⟨cur, (hb.block b hl).trans h⟩
theorem TyAt.set {w : World} {b : Nat} {t : TypeId} (h : TyAt w b t) (g j : Nat) (u : Value) : TyAt (w.setCell ⟨g, j, none⟩ u) b t := by
  have hl := h.lt
  obtain ⟨cur, h⟩ := h
  by_cases e : b = g
  · subst e
    exact ⟨_, heap_setCell_same w b j cur t u h⟩
  · exact ⟨cur, (heap_setCell_other w ⟨g, j, none⟩ b u (fun e' => e (by simpa using e'))).trans h⟩
theorem TyAt.new (w : World) (cur : Array Value) (t : TypeId) : TyAt (w.alloc (.cells cur t)) w.heap.size t := ⟨cur, Go.heap_alloc_new w _⟩
theorem TyAt.frozen {w : World} {b : Nat} {t : TypeId} (h : TyAt w b t) (j : Nat) : w.frozen? ⟨b, j, none⟩ = false := by
  obtain ⟨cur, h⟩ := h
  exact frozen_of_row w b j cur t h
theorem TyAt.not {α : Type} {k : Kind α} {w : World} {b base : Nat} {t : TypeId} {v : Value} {ts : List α} (h : TyAt w b t) (ho : OwnsG k w base v ts) (ht : t ≠ k.e) : b ∉ v.ownBlock.toList := by
  intro hm
  obtain ⟨cur, h⟩ := h
  obtain ⟨_, cur', h'⟩ := ho.block b hm
  rw [h] at h'
  injection h' with h'
  injection h' with _ h2 _
  exact ht h2
theorem TyAt.ne {w : World} {b b' : Nat} {t t' : TypeId} (h : TyAt w b t) (h' : TyAt w b' t') (ht : t ≠ t') : b ≠ b' := by
  rintro rfl
  obtain ⟨cur, h⟩ := h
  obtain ⟨cur', h'⟩ := h'
  rw [h] at h'
  injection h' with h'
  injection h' with _ h2 _
  exact ht h2
theorem OwnsG.ty {α : Type} {k : Kind α} {w : World} {base : Nat} {v : Value} {ts : List α} (h : OwnsG k w base v ts) : ∀ g ∈ v.ownBlock.toList, TyAt w g k.e := fun g hg => (h.block g hg).2
/-- rows of unlike types lie apart -/
theorem OwnsG.apart {α β : Type} {k : Kind α} {k' : Kind β} {w : World} {base base' : Nat} {v v' : Value} {ts : List α} {ts' : List β} (h : OwnsG k w base v ts) (h' : OwnsG k' w base' v' ts') (ht : k.e ≠ k'.e) : ∀ g, v.ownBlock = some g → g ∉ v'.ownBlock.toList :=
  fun g hg => (h.ty g (by simp [hg])).not h' ht
end Go.Proofs.YthlcjlmaaaappaaDoor
