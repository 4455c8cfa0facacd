/- SortRow: texts put together. -/
import Derived.Test.YtnhlnhmjnnopaaaGreatDoorPp11
import Derived.Test.YtnhlnhmjnnopaaaGreatDoorPp2
import Derived.Lib.OwnBridge
import Derived.Lib.AppendIntMem
set_option linter.unusedVariables false
set_option linter.unusedSimpArgs false
/- A row of entries of one's own, as the sort's laws want it. -/
namespace Go.Proofs.YtnhlnhmjnnopaaaGreatDoor
open Go.RowKit Go.Shelf Go.Lib Go.Sort

theorem holdsK_own {w : World} {g n c : Nat} {base : Nat} {es : List EntC} (h : OwnsG kEnt w base (.slice (some ⟨g, 0, none⟩) n c) es) : HoldsK EntC.cells 2 w g 0 es.toArray := by
  intro j hj
  rw [size_flatK, List.size_toArray] at hj
  have hd : j / 2 < es.length := by omega
  refine ⟨?_, h.frozen _⟩
  rw [get_flatK _ _ _ j (by simpa using hj), getElem!_pos es.toArray (j / 2) (by simpa using hd)]
  have hx : es[j / 2]? = some es[j / 2] := List.getElem?_eq_getElem hd
  have hm : j % 2 < 2 := Nat.mod_lt _ (by decide)
  have hc := h.cells hx (i := j % 2) (u := (EntC.cells es[j / 2])[j % 2]!) (by
    show (EntC.cells es[j / 2])[j % 2]? = _
    rw [List.getElem?_eq_getElem (by simpa [EntC.cells] using hm), getElem!_pos _ _ (by simpa [EntC.cells] using hm)])
  rw [show j / 2 * kEnt.size + j % 2 = 0 + j from by show j / 2 * 2 + j % 2 = 0 + j; omega] at hc
  simpa using hc
theorem ents_holds {w : World} {g : Nat} {d : Array EntC} (h : HoldsK EntC.cells 2 w g 0 d) : EntsIn w (some ⟨g, 0, none⟩) d.toList := by
  refine .inr ⟨g, 0, rfl, fun j x hx => ?_⟩
  have hj : j < d.size := by
    have := (List.getElem?_eq_some_iff.1 hx).1
    simpa using this
  have he : d[j]! = x := by
    rw [getElem!_pos d j hj]
    have := (List.getElem?_eq_some_iff.1 hx).2
    simpa using this
  have h0 := (h.cell hj (c := 0) (by decide)).1
  have h1 := (h.cell hj (c := 1) (by decide)).1
  rw [he] at h0 h1
  exact ⟨h0, h1⟩
theorem below_sorted {w : World} {B g n : Nat} {w0 : World} {d : Array EntC} {os : Array Obj} (h : Below B w0 w) (hg : B ≤ g) (hB : B ≤ w.heap.size) : Below B w0 (sortWorldK EntC.cells 2 w g 0 n d os) := by
  unfold sortWorldK putRowK
  have h1 := below_putRow (enc := id) (q := n) (d := flatK EntC.cells 2 d) h hg
  refine h1.trans ?_
  exact below_grow B (putRow id (Sort.ahead w n) g 0 (flatK EntC.cells 2 d)) (by have := h1.size; exact Nat.le_trans hB (by simp [size_putRow])) 0 os
theorem perm_in {d d' : Array EntC} (h : PermIn 0 d.size d d') : d'.toList.Perm d.toList := by
  obtain ⟨h1, _, h3⟩ := h
  have e1 : (d'.extract 0 d.size).toList = d'.toList := by rw [← h1]; simp
  have e2 : (d.extract 0 d.size).toList = d.toList := by simp
  rw [e1, e2] at h3
  exact h3
end Go.Proofs.YtnhlnhmjnnopaaaGreatDoor
