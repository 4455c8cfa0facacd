/- DecodeAt: texts put together. -/
import Derived.Test.YtnhlnhmjnnopaaaGreatDoorPp3
import Derived.Test.YtnhlnhmjnnopaaaGreatDoorPp21
import Derived.Test.YtnhlnhmjnnopaaaGreatDoorPp23
import Derived.Recover
set_option linter.unusedVariables false
set_option linter.unusedSimpArgs false
/- What pack.Decode holds while it reads. -/
namespace Go.Proofs.YtnhlnhmjnnopaaaGreatDoor
open Go.RowKit

theorem decode_idle (p q : Addr) (w : World) :
    CallsD Tryz.prog 30 #[.pointer (some p), .pointer (some q)] .returning w fun e u' w' => e = .returned (.tuple #[]) ∧ u' = .returning ∧ w' = w := by
  refine callsD_of_wpS Tryz.func30 rfl fun c₀ cs hu => ?_
  apply wpS_seq
  apply wpS_region
  simp [wpOpsS, go_sem, recoverD, hu, Tryz.ntmps30, Exit.thenS]
  apply wpS_seq
  apply wpS_region
  simp [wpOpsS, go_sem, hu, Exit.thenS]
  refine wpS_cond (t := false) (by simp [Act.eval, Array.replicate]) ?_
  simp only [Bool.false_eq_true, if_false]
  refine wpS_of_wp (wp_skip ?_)
  cases c₀
  simp_all [bodyPostS, results, Tryz.results30]

structure DAt (W : World) (base pb eb r g n c k : Nat) (tg : ByteArray) (acc : List EntC) : Prop where
  box : BoxAt W base pb tg acc
  rdr : RdrAt W r g n c k
  rge : base ≤ r
  e0 : W.cell? ⟨eb, 0, none⟩ = some .nilIface
  ety : TyAt W eb 27
  ege : base ≤ eb
section
variable {W W' : World} {base pb eb r g n c k : Nat} {tg : ByteArray} {acc : List EntC}
theorem DAt.below (h : DAt W base pb eb r g n c k tg acc) (hb : Below W.heap.size W W') : DAt W' base pb eb r g n c k tg acc :=
  ⟨h.box.below hb, h.rdr.below hb, h.rge, carry hb h.e0, h.ety.below hb, h.ege⟩
/-- the reader went on -/
theorem DAt.read {k' : Nat} (h : DAt W base pb eb r g n c k tg acc) (hr : RdrAt W' r g n c k') (ho : Off [r] W W') : DAt W' base pb eb r g n c k' tg acc := by
  have hh : HardB W [r] := fun k hk => by
    simp only [List.mem_singleton] at hk
    subst hk
    exact ⟨_, h.rdr.ty, by decide, by decide⟩
  have ne : eb ∉ [r] := fun hm => by
    simp only [List.mem_singleton] at hm
    exact h.ety.ne h.rdr.ty (by decide) hm
  exact ⟨h.box.off ho hh, hr, h.rge, ho.cell h.e0 ne, h.ety.off ho ne, h.ege⟩
/-- the tag is told -/
theorem DAt.tag (h : DAt W base pb eb r g n c k tg acc) (u : ByteArray) : DAt (W.setCell ⟨pb, 0, none⟩ (.string u)) base pb eb r g n c k u acc := by
  have ho : Off [pb] W (W.setCell ⟨pb, 0, none⟩ (.string u)) := (Off.refl [pb] W).setCell _ _ (by simp)
  have n1 : r ∉ [pb] := fun hm => by
    simp only [List.mem_singleton] at hm
    exact h.rdr.ty.ne h.box.ty (by decide) hm
  have n2 : eb ∉ [pb] := fun hm => by
    simp only [List.mem_singleton] at hm
    exact h.ety.ne h.box.ty (by decide) hm
  exact ⟨h.box.tag u, h.rdr.off ho n1, h.rge, ho.cell h.e0 n2, h.ety.off ho n2, h.ege⟩
/-- an entry more -/
theorem DAt.more {x : EntC} {v v' : Value} {w8 : World} (h : DAt W base pb eb r g n c k tg acc) (hc : W.cell? ⟨pb, 1, none⟩ = some v) (hO : OwnsG kEnt W base v acc) (h8 : OwnsG kEnt w8 base v' (acc ++ [x])) (hF : Off v.ownBlock.toList W w8) :
    w8.cell? ⟨pb, 1, none⟩ = some v ∧ w8.frozen? ⟨pb, 1, none⟩ = false ∧ DAt (w8.setCell ⟨pb, 1, none⟩ v') base pb eb r g n c k tg (acc ++ [x]) ∧ (∀ k ∈ pb :: v.ownBlock.toList, base ≤ k) ∧ Off (pb :: v.ownBlock.toList) W (w8.setCell ⟨pb, 1, none⟩ v') := by
  obtain ⟨h1, h2, h3, ho, hs⟩ := h.box.more hc hO h8 hF
  have n1 := h.rdr.ty.softB hs (by decide) (by decide)
  have n2 := h.ety.softB hs (by decide) (by decide)
  refine ⟨h1, h2, ⟨h3, h.rdr.off ho n1, h.rge, ho.cell h.e0 n2, h.ety.off ho n2, h.ege⟩, fun k hk => ?_, ho⟩
  rcases List.mem_cons.1 hk with rfl | hk
  · exact h.box.ge
  · exact (hO.block k hk).1
end
/-- bytes that lie in a row -/
theorem lie_rest {w : World} {base g n c k : Nat} {bs a r : List UInt8} (hO : OwnsG kByte w base (.slice (some ⟨g, 0, none⟩) n c) bs) (h : Rest bs k (a ++ r)) : LieB w g k a := fun j t hj => by
  have h1 : bs[k + j]? = some t := by
    rw [← List.getElem?_drop, h.2, List.getElem?_append_left (List.getElem?_eq_some_iff.1 hj).1]
    exact hj
  have := hO.cells h1 (i := 0) (u := byteV t) rfl
  rw [show (k + j) * kByte.size + 0 = k + j from Nat.mul_one _] at this
  exact this
/-- the first part of a row -/
theorem own_prefix {w : World} {base g n c k : Nat} {bs : List UInt8} (hO : OwnsG kByte w base (.slice (some ⟨g, 0, none⟩) n c) bs) (hk : k ≤ bs.length) : OwnsG kByte w base (.slice (some ⟨g, 0, none⟩) k c) (bs.take k) := by
  have hl : (bs.take k).length = k := by rw [List.length_take]; omega
  unfold OwnsG at *
  rw [hl]
  rw [byteRow] at hO ⊢
  refine ⟨by rw [List.length_map, hl]; exact (Nat.mul_one k).symm, ?_⟩
  rcases hO.2 with ⟨h, _⟩ | ⟨g', cap, cur, he, h1, h2, h3, h4, h5, h6⟩
  · cases h
  · injection he with e1 e2 e3
    injection e1 with e1
    injection e1 with e1
    subst e1 e3
    refine .inr ⟨g, c, cur, rfl, h1, h2, Nat.le_trans hk h3, h4, h5, ?_⟩
    have h7 : (cur.toList.take (bs.length * 1)).take (k * 1) = (bs.map byteV).take (k * 1) := congrArg (List.take (k * 1)) h6
    rw [List.take_take, Nat.min_eq_left (by omega), Nat.mul_one, ← List.map_take] at h7
    show List.take (k * 1) cur.toList = _
    rw [Nat.mul_one]
    exact h7
end Go.Proofs.YtnhlnhmjnnopaaaGreatDoor
