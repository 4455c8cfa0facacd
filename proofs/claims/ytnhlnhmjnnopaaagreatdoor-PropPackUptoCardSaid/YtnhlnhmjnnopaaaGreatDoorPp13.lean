/- SortEnt, SortEnt2: texts put together. -/
import Derived.Test.YtnhlnhmjnnopaaaGreatDoorPp12
import Derived.Test.YtnhlnhmjnnopaaaGreatDoorPp4
import Derived.Shelf.SlSortCmp.WholeK
import Derived.Shelf.SlSortCmp.NoneTotal
import Derived.Ground.SlsfProg
import Derived.Shelf.Lay
set_option linter.unusedVariables false
set_option linter.unusedSimpArgs false
/- slices.SortFunc at entries: laid; slices.SortedFunc. -/
namespace Go.Proofs
open Go.Shelf
shelf_lay_g SlLaysF0.n6 Slsf 6 at Tryz 47 as Tryz.sortEnt
end Go.Proofs
namespace Go.Proofs.YtnhlnhmjnnopaaaGreatDoor
open Go.RowKit Go.Shelf Go.Lib Go.Sort

theorem aggEnt : ∀ w, (isAgg 50).run Tryz.prog w = .ok true w := by intro w; kernel_rfl
theorem sizeEnt : ∀ w, (Go.sizeOf 50).run Tryz.prog w = .ok 2 w := by intro w; kernel_rfl
set_option maxHeartbeats 2000000 in
theorem sorted_func (A : Option Addr) (c vb : Nat) (es : List EntC) (w : World) (hE : EntsIn w A es) (hz : es.length ≤ 1000000000) (hb : w.cell? ⟨vb, 0, none⟩ = some (.slice A es.length c)) :
    Calls Tryz.prog 16 #[.func (.func 48) #[] #[.pointer (some ⟨vb, 0, none⟩)], .func (.func 18) #[] #[]] w fun e w' =>
      ∃ A' c' es', e = .returned (.slice A' es.length c') ∧ es'.Perm es ∧ EntsIn w' A' es' ∧ (es = [] ∨ ∃ g, A' = some ⟨g, 0, none⟩ ∧ w.heap.size ≤ g) ∧ Below w.heap.size w w' := by
  have HK := Lib.hid (collect_ent A c vb es w hE hz hb)
  clear hE hb
  go_enter Tryz.func16, Tryz.ntmps16
  go_wp2_with fail
  refine HK.out.mono ?_
  rintro e w1 ⟨v, rfl, h1, h2⟩
  obtain ⟨A1, c1, rfl, _, _, _, h5⟩ := h1.form
  rcases h5 with h5 | ⟨g, rfl, hg, hg2, _⟩
  · subst h5
    have hs := AnyF.slices_SortFunc_none Tryz.sortEnt A1 c1 (.func (.func 18) #[] #[]) w1
    change Calls Tryz.prog 47 _ _ _ at hs
    have HS := Lib.hid hs
    clear hs h1
    go_wp2_with fail
    refine HS.out.mono ?_
    rintro e w2 ⟨rfl, rfl⟩
    go_wp2_with fail
    go_ret
    first
      | exact ⟨_, ⟨_, rfl⟩, .inl rfl, h2⟩
      | exact ⟨_, _, rfl, .inl rfl, h2⟩
      | exact ⟨_, _, [], rfl, List.Perm.refl _, .inl rfl, .inl rfl, h2⟩
  · have eg : ∀ args w, (callFunc 18 args).run Tryz.prog w = .ok (.enter 18 args) w := enters_of Tryz.func18 (by kernel_rfl) rfl
    have hs := AnyQ.slices_SortFunc Tryz.sortEnt 2 aggEnt sizeEnt EntC.cells (fun _ => rfl) kEnt.hone (fun x y => compareBytes x.key.data.toList y.key.data.toList) (swo_cmp fun x : EntC => x.key.data.toList) 18 #[] g 0 c1 es.toArray w1 eg (order_lays g 0 _ w1) (holdsK_own h1) hg2 (by simp; omega)
    change Calls Tryz.prog 47 _ _ _ at hs
    rw [List.size_toArray] at hs
    have HS := Lib.hid hs
    have H1 := Lib.hid h1
    clear hs h1
    go_wp2_with fail
    refine HS.out.mono ?_
    rintro e w2 ⟨rfl, d', n, os, hp, _, rfl⟩
    have hq := perm_in (d := es.toArray) (by simpa using hp)
    have hh := holdsK_sortWorldK_c EntC.cells 2 w1 g 0 es.toArray d' n os (holdsK_own H1.out) hg2 (by simpa using hp.1)
    have hb2 := below_sorted (n := n) (d := d') (os := os) h2 hg h2.size
    go_wp2_with fail
    go_ret
    exact ⟨_, _, d'.toList, rfl, by simpa using hq, ents_holds hh, .inr ⟨g, rfl, hg⟩, hb2⟩
end Go.Proofs.YtnhlnhmjnnopaaaGreatDoor

/- slices.SortedFunc at entries: the row it tells is in order. -/
namespace Go.Proofs.YtnhlnhmjnnopaaaGreatDoor
open Go.RowKit Go.Shelf Go.Lib Go.Sort

/-- no entry is less than one ahead of it -/
def InOrder (es : List EntC) : Prop := es.Pairwise fun x y => ¬ Lib.compareBytes y.key.data.toList x.key.data.toList < 0
theorem in_order {d d' : Array EntC} (hs : d'.size = d.size) (h : SortedIn (ltOf fun x y : EntC => Lib.compareBytes x.key.data.toList y.key.data.toList) 0 d.size d') : InOrder d'.toList := by
  unfold InOrder
  rw [List.pairwise_iff_getElem]
  intro i j hi hj hij
  have := h i j (Nat.zero_le _) hij (by rw [← hs]; simpa using hj)
  rw [getElem!_pos d' j (by simpa using hj), getElem!_pos d' i (by simpa using hi)] at this
  unfold ltOf at this
  simpa using this
set_option maxHeartbeats 2000000 in
theorem sorted_by (A : Option Addr) (c vb : Nat) (es : List EntC) (w : World) (hE : EntsIn w A es) (hz : es.length ≤ 1000000000) (hb : w.cell? ⟨vb, 0, none⟩ = some (.slice A es.length c)) :
    Calls Tryz.prog 16 #[.func (.func 48) #[] #[.pointer (some ⟨vb, 0, none⟩)], .func (.func 18) #[] #[]] w fun e w' =>
      ∃ A' c' es', e = .returned (.slice A' es.length c') ∧ es'.Perm es ∧ InOrder es' ∧ EntsIn w' A' es' ∧ (es = [] ∨ ∃ g, A' = some ⟨g, 0, none⟩ ∧ w.heap.size ≤ g) ∧ Below w.heap.size w w' := by
  have HK := Lib.hid (collect_ent A c vb es w hE hz hb)
  clear hE hb
  go_enter Tryz.func16, Tryz.ntmps16
  go_wp2_with fail
  refine HK.out.mono ?_
  rintro e w1 ⟨v, rfl, h1, h2⟩
  obtain ⟨A1, c1, rfl, _, _, _, h5⟩ := h1.form
  rcases h5 with h5 | ⟨g, rfl, hg, hg2, _⟩
  · subst h5
    have hs := AnyF.slices_SortFunc_none Tryz.sortEnt A1 c1 (.func (.func 18) #[] #[]) w1
    change Calls Tryz.prog 47 _ _ _ at hs
    have HS := Lib.hid hs
    clear hs h1
    go_wp2_with fail
    refine HS.out.mono ?_
    rintro e w2 ⟨rfl, rfl⟩
    go_wp2_with fail
    go_ret
    first
      | exact ⟨_, ⟨_, rfl⟩, .inl rfl, h2⟩
      | exact ⟨_, _, rfl, .inl rfl, h2⟩
      | exact ⟨_, ⟨_, rfl⟩, List.Pairwise.nil, .inl rfl, h2⟩
      | exact ⟨_, _, rfl, List.Pairwise.nil, .inl rfl, h2⟩
      | exact ⟨_, _, [], rfl, List.Perm.refl _, List.Pairwise.nil, .inl rfl, .inl rfl, h2⟩
  · have eg : ∀ args w, (callFunc 18 args).run Tryz.prog w = .ok (.enter 18 args) w := enters_of Tryz.func18 (by kernel_rfl) rfl
    have hs := AnyQ.slices_SortFunc Tryz.sortEnt 2 aggEnt sizeEnt EntC.cells (fun _ => rfl) kEnt.hone (fun x y => compareBytes x.key.data.toList y.key.data.toList) (swo_cmp fun x : EntC => x.key.data.toList) 18 #[] g 0 c1 es.toArray w1 eg (order_lays g 0 _ w1) (holdsK_own h1) hg2 (by simp; omega)
    change Calls Tryz.prog 47 _ _ _ at hs
    rw [List.size_toArray] at hs
    have HS := Lib.hid hs
    have H1 := Lib.hid h1
    clear hs h1
    go_wp2_with fail
    refine HS.out.mono ?_
    rintro e w2 ⟨rfl, d', n, os, hp, hord, rfl⟩
    have HORD := Lib.hid (in_order hp.1 hord)
    clear hord
    have hq := perm_in (d := es.toArray) (by simpa using hp)
    have hh := holdsK_sortWorldK_c EntC.cells 2 w1 g 0 es.toArray d' n os (holdsK_own H1.out) hg2 (by simpa using hp.1)
    have hb2 := below_sorted (n := n) (d := d') (os := os) h2 hg h2.size
    go_wp2_with fail
    go_ret
    exact ⟨_, _, d'.toList, rfl, by simpa using hq, HORD.out, ents_holds hh, .inr ⟨g, rfl, hg⟩, hb2⟩
end Go.Proofs.YtnhlnhmjnnopaaaGreatDoor
