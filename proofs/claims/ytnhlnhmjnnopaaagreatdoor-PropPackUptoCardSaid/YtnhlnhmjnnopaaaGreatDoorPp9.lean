/- OpenEnts, OpenBun: texts put together. -/
import Derived.Test.YtnhlnhmjnnopaaaGreatDoorPp2
import Derived.Test.YtnhlnhmjnnopaaaGreatDoorPp8
import Derived.Test.YtnhlnhmjnnopaaaGreatDoorRows
import Derived.Lib.SmallJoins
import Derived.Deep.Slices
import Derived.Deep.Fields
set_option linter.unusedVariables false
set_option linter.unusedSimpArgs false
/- Entries that came in, opened. -/
namespace Go.Proofs.YtnhlnhmjnnopaaaGreatDoor
open Go.RowKit Go.ChangeShapes Go.WideShapes Go.Joins Go.Deep

theorem cb_str : Tryz.prog.cellsOf 9 = 1 := by kernel_rfl
theorem cb_ents : Tryz.prog.cellsOf 22 = 1 := by kernel_rfl
theorem cb_ent : Tryz.prog.cellsOf 50 = 2 := by kernel_rfl
theorem cb_bun : Tryz.prog.cellsOf 24 = 2 := by kernel_rfl
theorem bsz (b : ByteArray) : b.data.toList.length = b.size := by rw [Array.length_toList]; rfl
section
variable {H : Type} {enc : TypeId × Value → H} {W : World} {base b0 : Nat} {r : Reach} {held : Bool}
set_option maxRecDepth 100000 in
/-- entries in a cell that was read -/
theorem open_ents {L fuel : Nat} {v : Value} {y : DataW H × List MemPlace} (h : DataW.trod enc Tryz.prog W base (fun _ => true) held fuel 22 [v] = some y) (hL : Rows.uptoBulk y.1 ≤ L) :
    ∃ (A : Option Addr) (c : Nat) (es : List EntC), v = .slice A es.length c ∧ es.length ≤ c ∧ c ≤ 9223372036854775807 ∧ (A = none → c = 0) ∧ EntsIn W A es ∧ es.length ≤ L ∧ ∀ e ∈ es, e.key.size ≤ L ∧ e.text.size ≤ L := by
  rcases open_slice Tryz.underlying22 h with ⟨hcs, hx⟩ | ⟨a, len, cap, m, n, D, Pl, hcs, hb, hl, hm, hmm, hx, hi⟩
  · simp only [List.cons.injEq, and_true] at hcs
    subst hcs
    exact ⟨none, 0, [], rfl, Nat.le_refl _, by omega, fun _ => rfl, .inl rfl, Nat.zero_le _, by simp⟩
  · simp only [List.cons.injEq, and_true] at hcs
    simp only [if_true] at hmm
    subst hmm
    subst hcs
    rw [hx] at hL
    simp only [Rows.uptoBulk] at hL
    have hlen : len ≤ L := by
      have := bulk_len ((List.range len).map D)
      rw [List.length_map, List.length_range] at this
      omega
    have hk : ∀ i, i < len → ∃ x : EntC, W.cell? (a.add (i * 2)) = some (.string x.key) ∧ W.cell? (a.add (i * 2 + 1)) = some (.string x.text) ∧ x.key.size ≤ L ∧ x.text.size ≤ L := by
      intro i hil
      obtain ⟨cs', hc, ht⟩ := hi i (by omega)
      rw [cb_ent] at hc
      obtain ⟨_, hcl, hat⟩ := World.cells?_some hc
      have hbi := bulk_mem (List.mem_map_of_mem (f := D) (List.mem_range.2 hil))
      obtain ⟨y0, y1, n', hy, _, k0, k1⟩ := trod_struct2 Tryz.underlying50 ht
      simp only [Prod.mk.injEq] at hy
      rw [hy.1] at hbi
      simp only [cb_str] at k0 k1
      match cs', hcl with
      | [c0, c1], _ =>
        simp only [List.drop_succ_cons, List.drop_zero, List.take_succ_cons, List.take_zero] at k0 k1
        obtain ⟨nm, e0, f0, _⟩ := DataW.trod_string Tryz.underlying9 k0
        obtain ⟨tx, e4, f4, _⟩ := DataW.trod_string Tryz.underlying9 k1
        simp only [List.cons.injEq, and_true] at e0 e4
        subst e0 e4
        simp only [List.map_cons, List.map_nil, Rows.uptoBulk, Rows.uptoBulkAll, f0, f4] at hbi
        have hs0 := bsz nm
        have hs4 := bsz tx
        exact ⟨⟨nm, tx⟩, (hat 0 (by omega)), (Addr.add_add a (i * 2) 1 ▸ hat 1 (by omega)), by show nm.size ≤ L; omega, by show tx.size ≤ L; omega⟩
    obtain ⟨es, hal, hes⟩ := list_of len hk
    refine ⟨some a, m, es, by rw [hal], by omega, by simp only [maxLen] at hm; omega, (fun h => by cases h), ?_, by omega, fun x hx => ?_⟩
    · by_cases h0 : es = []
      · exact .inl h0
      · right
        obtain ⟨x, hx⟩ : ∃ x, es[0]? = some x := ⟨es[0]'(by have := List.length_pos_iff.2 h0; omega), List.getElem?_eq_getElem _⟩
        obtain ⟨b, o, rfl⟩ := addr_plain (hes 0 x hx).1 (by simp)
        refine ⟨b, o, rfl, fun j x hx => ?_⟩
        have := hes j x hx
        rw [Go.WideShapes.add_plain, Go.WideShapes.add_plain] at this
        obtain ⟨g1, g2, _⟩ := this
        exact ⟨g1, g2⟩
    · obtain ⟨j, hj⟩ := List.mem_iff_getElem?.1 hx
      exact (hes j x hj).2.2
end
end Go.Proofs.YtnhlnhmjnnopaaaGreatDoor

/- A bundle that came in, opened. -/
namespace Go.Proofs.YtnhlnhmjnnopaaaGreatDoor
open Go.RowKit Go.ChangeShapes Go.WideShapes Go.Joins Go.Deep

section
variable {H : Type} {enc : TypeId × Value → H} {W : World} {base b0 : Nat} {r : Reach} {held : Bool}
set_option maxRecDepth 100000 in
theorem open_bun {L : Nat} {v : Value} {d : DataW H} {p : List MemPlace} (hv : Value.okWide Tryz.prog W r b0 24 v) (h : DataW.Trod enc Tryz.prog W base (fun _ => true) held 24 v d p) (hL : Rows.uptoBulk d ≤ L) (hL2 : L ≤ 1048576) :
    ∃ (b : BunC) (A : Option Addr) (c : Nat), v = bunV b A c ∧ BunFine W b A c ∧ b.small := by
  obtain ⟨a0, a1, y0, y1, n, rfl, rfl, _, k0, k1⟩ := open_agg2 Tryz.underlying24 (by kernel_rfl) (by kernel_rfl) hv h
  obtain ⟨nm, e0, f0, _⟩ := DataW.trod_string Tryz.underlying9 k0
  simp only [List.cons.injEq, and_true] at e0
  subst e0
  simp only [Rows.uptoBulk, Rows.uptoBulkAll, f0] at hL
  have hs0 := bsz nm
  obtain ⟨B, dd, es, e1, q1, q2, q3, q4, q5, q6⟩ := open_ents (L := L) k1 (by omega)
  subst e1
  exact ⟨⟨nm, es⟩, B, dd, rfl, ⟨q4, q1, q2, q3⟩, ⟨by show nm.size ≤ _; omega, by show es.length ≤ _; omega, fun e he => by obtain ⟨z1, z2⟩ := q6 e he; exact ⟨by omega, by omega⟩⟩⟩
end
end Go.Proofs.YtnhlnhmjnnopaaaGreatDoor
