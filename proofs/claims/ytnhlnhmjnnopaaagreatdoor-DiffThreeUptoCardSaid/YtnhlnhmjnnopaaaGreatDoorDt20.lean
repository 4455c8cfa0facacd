/- SortEnt: texts put together. -/
import Derived.Test.YtnhlnhmjnnopaaaGreatDoorDt19
import Derived.Test.YtnhlnhmjnnopaaaGreatDoorDt5
import Derived.Shelf.SlSortCmp.WholeK
import Derived.Shelf.SlSortCmp.NoneTotal
import Derived.Ground.SlsfProg
set_option linter.unusedVariables false
set_option linter.unusedSimpArgs false
/- slices.SortFunc at entries: laid; slices.SortedFunc. -/
namespace Go.Proofs
open Go.Shelf
def Tryz.sortEnt_ren : Go.Shelf.Ren := ⟨fun | 6 => 47 | 15 => 75 | 14 => 74 | 28 => 111 | 29 => 112 | 20 => 103 | 21 => 104 | 22 => 105 | 23 => 106 | 24 => 107 | 25 => 108 | 26 => 109 | 27 => 110 | 46 => 146 | 47 => 147 | 48 => 148 | 49 => 149 | 50 => 150 | 57 => 166 | n => n, fun | 22 => 22 | 24 => 50 | 25 => 54 | 3 => 3 | 39 => 101 | 0 => 0 | 53 => 47 | 55 => 166 | 4 => 4 | 46 => 158 | 45 => 157 | 50 => 162 | 5 => 5 | 9 => 9 | 66 => 195 | 70 => 199 | 76 => 223 | 77 => 224 | n => n, fun | n => n⟩
theorem Tryz.sortEnt : Go.Proofs.SlLaysF0.n6 Tryz.prog Tryz.sortEnt_ren := {
  mixed := by kernel_rfl
  f6 := ⟨Tryz.f47.name, by decide, Tryz.func47.trans (congrArg some (by kernel_rfl))⟩
  f14 := ⟨Tryz.f74.name, by decide, Tryz.func74.trans (congrArg some (by kernel_rfl))⟩
  f15 := Tryz.func75.trans (congrArg some (by kernel_rfl))
  f20 := ⟨Tryz.f103.name, by decide, Tryz.func103.trans (congrArg some (by kernel_rfl))⟩
  f21 := ⟨Tryz.f104.name, by decide, Tryz.func104.trans (congrArg some (by kernel_rfl))⟩
  f22 := ⟨Tryz.f105.name, by decide, Tryz.func105.trans (congrArg some (by kernel_rfl))⟩
  f23 := ⟨Tryz.f106.name, by decide, Tryz.func106.trans (congrArg some (by kernel_rfl))⟩
  f24 := ⟨Tryz.f107.name, by decide, Tryz.func107.trans (congrArg some (by kernel_rfl))⟩
  f25 := ⟨Tryz.f108.name, by decide, Tryz.func108.trans (congrArg some (by kernel_rfl))⟩
  f26 := ⟨Tryz.f109.name, by decide, Tryz.func109.trans (congrArg some (by kernel_rfl))⟩
  f27 := ⟨Tryz.f110.name, by decide, Tryz.func110.trans (congrArg some (by kernel_rfl))⟩
  f28 := Tryz.func111.trans (congrArg some (by kernel_rfl))
  f29 := Tryz.func112.trans (congrArg some (by kernel_rfl))
  f46 := ⟨Tryz.f146.name, by decide, Tryz.func146.trans (congrArg some (by kernel_rfl))⟩
  f47 := Tryz.func147.trans (congrArg some (by kernel_rfl))
  f48 := Tryz.func148.trans (congrArg some (by kernel_rfl))
  f49 := ⟨Tryz.f149.name, by decide, Tryz.func149.trans (congrArg some (by kernel_rfl))⟩
  f50 := ⟨Tryz.f150.name, by decide, Tryz.func150.trans (congrArg some (by kernel_rfl))⟩
  f57 := ⟨Tryz.f166.name, by decide, Tryz.func166.trans (congrArg some (by kernel_rfl))⟩
  t0 := Tryz.underlying0
  a0 := Tryz.isAgg0
  z0 := Tryz.sizeOf0
  v0 := Tryz.zeroValue0
  t3 := Tryz.underlying3
  a3 := Tryz.isAgg3
  z3 := Tryz.sizeOf3
  v3 := Tryz.zeroValue3
  t4 := Tryz.underlying4
  a4 := Tryz.isAgg4
  z4 := Tryz.sizeOf4
  v4 := Tryz.zeroValue4
  t5 := Tryz.underlying5
  a5 := Tryz.isAgg5
  z5 := Tryz.sizeOf5
  v5 := Tryz.zeroValue5
  t9 := Tryz.underlying9
  a9 := Tryz.isAgg9
  z9 := Tryz.sizeOf9
  v9 := Tryz.zeroValue9
  t22 := Tryz.underlying22
  a22 := Tryz.isAgg22
  z22 := Tryz.sizeOf22
  v22 := Tryz.zeroValue22
  t25 := Tryz.underlying54
  a25 := Tryz.isAgg54
  z25 := Tryz.sizeOf54
  v25 := Tryz.zeroValue54
  t39 := Tryz.underlying101
  a39 := Tryz.isAgg101
  z39 := Tryz.sizeOf101
  v39 := Tryz.zeroValue101
  t45 := Tryz.underlying157
  a45 := Tryz.isAgg157
  z45 := Tryz.sizeOf157
  v45 := Tryz.zeroValue157
  t46 := Tryz.underlying158
  a46 := Tryz.isAgg158
  z46 := Tryz.sizeOf158
  v46 := Tryz.zeroValue158
  t50 := Tryz.underlying162
  a50 := Tryz.isAgg162
  z50 := Tryz.sizeOf162
  v50 := Tryz.zeroValue162
  t53 := Tryz.underlying47
  a53 := Tryz.isAgg47
  z53 := Tryz.sizeOf47
  v53 := Tryz.zeroValue47
  t55 := Tryz.underlying166
  a55 := Tryz.isAgg166
  z55 := Tryz.sizeOf166
  v55 := Tryz.zeroValue166
  t66 := Tryz.underlying195
  a66 := Tryz.isAgg195
  z66 := Tryz.sizeOf195
  v66 := Tryz.zeroValue195
  t70 := Tryz.underlying199
  a70 := Tryz.isAgg199
  z70 := Tryz.sizeOf199
  v70 := Tryz.zeroValue199
  t76 := Tryz.underlying223
  a76 := Tryz.isAgg223
  z76 := Tryz.sizeOf223
  v76 := Tryz.zeroValue223
  t77 := Tryz.underlying224
  a77 := Tryz.isAgg224
  z77 := Tryz.sizeOf224
  v77 := Tryz.zeroValue224 }
end Go.Proofs
namespace Go.Proofs.YtnhlnhmjnnopaaaGreatDoor
open Go.RowKit Go.Shelf Go.Lib Go.Sort

theorem aggEnt : ∀ w, (isAgg 50).run Tryz.prog w = .ok true w := by intro w; kernel_rfl
theorem sizeEnt : ∀ w, (Go.sizeOf 50).run Tryz.prog w = .ok 2 w := by intro w; kernel_rfl
set_option maxHeartbeats 2000000 in
theorem sorted_func (A : Option Addr) (c vb : Nat) (es : List EntC) (w : World) (hE : EntsIn w A es) (hz : es.length ≤ 1000000000) (hb : w.cell? ⟨vb, 0, none⟩ = some (.slice A es.length c)) :
    Calls Tryz.prog 16 #[.func (.func 48) #[] #[.pointer (some ⟨vb, 0, none⟩)], .func (.func 18) #[] #[]] w fun e w' =>
      ∃ A' c' es', e = .returned (.slice A' es.length c') ∧ es'.Perm es ∧ EntsIn w' A' es' ∧ (es = [] ∨ ∃ g, A' = some ⟨g, 0, none⟩ ∧ w.heap.size ≤ g) ∧ Below w.heap.size w w' := by
  have HK := Lib.hid (collect_ent A c vb es w hE hz hb)
  clear hE hb
  go_enter Tryz.func16, Tryz.ntmps16
  go_wp2_with fail
  refine HK.out.mono ?_
  rintro e w1 ⟨v, rfl, h1, h2⟩
  obtain ⟨A1, c1, rfl, _, _, _, h5⟩ := h1.form
  rcases h5 with h5 | ⟨g, rfl, hg, hg2, _⟩
  · subst h5
    have hs := AnyF.slices_SortFunc_none Tryz.sortEnt A1 c1 (.func (.func 18) #[] #[]) w1
    change Calls Tryz.prog 47 _ _ _ at hs
    have HS := Lib.hid hs
    clear hs h1
    go_wp2_with fail
    refine HS.out.mono ?_
    rintro e w2 ⟨rfl, rfl⟩
    go_wp2_with fail
    go_ret
    first
      | exact ⟨_, ⟨_, rfl⟩, .inl rfl, h2⟩
      | exact ⟨_, _, rfl, .inl rfl, h2⟩
      | exact ⟨_, _, [], rfl, List.Perm.refl _, .inl rfl, .inl rfl, h2⟩
  · have eg : ∀ args w, (callFunc 18 args).run Tryz.prog w = .ok (.enter 18 args) w := enters_of Tryz.func18 (by kernel_rfl) rfl
    have hs := AnyQ.slices_SortFunc Tryz.sortEnt 2 aggEnt sizeEnt EntC.cells (fun _ => rfl) kEnt.hone (fun x y => compareBytes x.key.data.toList y.key.data.toList) (swo_cmp fun x : EntC => x.key.data.toList) 18 #[] g 0 c1 es.toArray w1 eg (order_lays g 0 _ w1) (holdsK_own h1) hg2 (by simp; omega)
    change Calls Tryz.prog 47 _ _ _ at hs
    rw [List.size_toArray] at hs
    have HS := Lib.hid hs
    have H1 := Lib.hid h1
    clear hs h1
    go_wp2_with fail
    refine HS.out.mono ?_
    rintro e w2 ⟨rfl, d', n, os, hp, _, rfl⟩
    have hq := perm_in (d := es.toArray) (by simpa using hp)
    have hh := holdsK_sortWorldK_c EntC.cells 2 w1 g 0 es.toArray d' n os (holdsK_own H1.out) hg2 (by simpa using hp.1)
    have hb2 := below_sorted (n := n) (d := d') (os := os) h2 hg h2.size
    go_wp2_with fail
    go_ret
    exact ⟨_, _, d'.toList, rfl, by simpa using hq, ents_holds hh, .inr ⟨g, rfl, hg⟩, hb2⟩
end Go.Proofs.YtnhlnhmjnnopaaaGreatDoor
