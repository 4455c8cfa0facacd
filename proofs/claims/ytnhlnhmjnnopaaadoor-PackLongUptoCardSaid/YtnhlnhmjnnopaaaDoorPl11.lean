/- SortEnt: texts put together. -/
import Derived.Test.YtnhlnhmjnnopaaaDoorPl10
import Derived.Test.YtnhlnhmjnnopaaaDoorPl5
import Derived.Shelf.SlSortCmp.WholeK
import Derived.Shelf.SlSortCmp.NoneTotal
import Derived.Ground.SlsfProg
set_option linter.unusedVariables false
set_option linter.unusedSimpArgs false
/- slices.SortFunc at entries: laid; slices.SortedFunc. -/
namespace Go.Proofs
open Go.Shelf
def Tryd.sortEnt_ren : Go.Shelf.Ren := ⟨fun | 6 => 50 | 15 => 70 | 14 => 69 | 28 => 93 | 29 => 94 | 20 => 85 | 21 => 86 | 22 => 87 | 23 => 88 | 24 => 89 | 25 => 90 | 26 => 91 | 27 => 92 | 46 => 105 | 47 => 106 | 48 => 107 | 49 => 108 | 50 => 109 | 57 => 117 | n => n, fun | 22 => 29 | 24 => 28 | 25 => 65 | 3 => 3 | 39 => 92 | 0 => 0 | 53 => 60 | 55 => 130 | 4 => 4 | 46 => 122 | 45 => 121 | 50 => 126 | 5 => 5 | 9 => 9 | 66 => 139 | 70 => 143 | 76 => 147 | 77 => 148 | n => n, fun | n => n⟩
theorem Tryd.sortEnt : Go.Proofs.SlLaysF0.n6 Tryd.prog Tryd.sortEnt_ren := {
  mixed := by kernel_rfl
  f6 := ⟨Tryd.f50.name, by decide, Tryd.func50.trans (congrArg some (by kernel_rfl))⟩
  f14 := ⟨Tryd.f69.name, by decide, Tryd.func69.trans (congrArg some (by kernel_rfl))⟩
  f15 := Tryd.func70.trans (congrArg some (by kernel_rfl))
  f20 := ⟨Tryd.f85.name, by decide, Tryd.func85.trans (congrArg some (by kernel_rfl))⟩
  f21 := ⟨Tryd.f86.name, by decide, Tryd.func86.trans (congrArg some (by kernel_rfl))⟩
  f22 := ⟨Tryd.f87.name, by decide, Tryd.func87.trans (congrArg some (by kernel_rfl))⟩
  f23 := ⟨Tryd.f88.name, by decide, Tryd.func88.trans (congrArg some (by kernel_rfl))⟩
  f24 := ⟨Tryd.f89.name, by decide, Tryd.func89.trans (congrArg some (by kernel_rfl))⟩
  f25 := ⟨Tryd.f90.name, by decide, Tryd.func90.trans (congrArg some (by kernel_rfl))⟩
  f26 := ⟨Tryd.f91.name, by decide, Tryd.func91.trans (congrArg some (by kernel_rfl))⟩
  f27 := ⟨Tryd.f92.name, by decide, Tryd.func92.trans (congrArg some (by kernel_rfl))⟩
  f28 := Tryd.func93.trans (congrArg some (by kernel_rfl))
  f29 := Tryd.func94.trans (congrArg some (by kernel_rfl))
  f46 := ⟨Tryd.f105.name, by decide, Tryd.func105.trans (congrArg some (by kernel_rfl))⟩
  f47 := Tryd.func106.trans (congrArg some (by kernel_rfl))
  f48 := Tryd.func107.trans (congrArg some (by kernel_rfl))
  f49 := ⟨Tryd.f108.name, by decide, Tryd.func108.trans (congrArg some (by kernel_rfl))⟩
  f50 := ⟨Tryd.f109.name, by decide, Tryd.func109.trans (congrArg some (by kernel_rfl))⟩
  f57 := ⟨Tryd.f117.name, by decide, Tryd.func117.trans (congrArg some (by kernel_rfl))⟩
  t0 := Tryd.underlying0
  a0 := Tryd.isAgg0
  z0 := Tryd.sizeOf0
  v0 := Tryd.zeroValue0
  t3 := Tryd.underlying3
  a3 := Tryd.isAgg3
  z3 := Tryd.sizeOf3
  v3 := Tryd.zeroValue3
  t4 := Tryd.underlying4
  a4 := Tryd.isAgg4
  z4 := Tryd.sizeOf4
  v4 := Tryd.zeroValue4
  t5 := Tryd.underlying5
  a5 := Tryd.isAgg5
  z5 := Tryd.sizeOf5
  v5 := Tryd.zeroValue5
  t9 := Tryd.underlying9
  a9 := Tryd.isAgg9
  z9 := Tryd.sizeOf9
  v9 := Tryd.zeroValue9
  t22 := Tryd.underlying29
  a22 := Tryd.isAgg29
  z22 := Tryd.sizeOf29
  v22 := Tryd.zeroValue29
  t25 := Tryd.underlying65
  a25 := Tryd.isAgg65
  z25 := Tryd.sizeOf65
  v25 := Tryd.zeroValue65
  t39 := Tryd.underlying92
  a39 := Tryd.isAgg92
  z39 := Tryd.sizeOf92
  v39 := Tryd.zeroValue92
  t45 := Tryd.underlying121
  a45 := Tryd.isAgg121
  z45 := Tryd.sizeOf121
  v45 := Tryd.zeroValue121
  t46 := Tryd.underlying122
  a46 := Tryd.isAgg122
  z46 := Tryd.sizeOf122
  v46 := Tryd.zeroValue122
  t50 := Tryd.underlying126
  a50 := Tryd.isAgg126
  z50 := Tryd.sizeOf126
  v50 := Tryd.zeroValue126
  t53 := Tryd.underlying60
  a53 := Tryd.isAgg60
  z53 := Tryd.sizeOf60
  v53 := Tryd.zeroValue60
  t55 := Tryd.underlying130
  a55 := Tryd.isAgg130
  z55 := Tryd.sizeOf130
  v55 := Tryd.zeroValue130
  t66 := Tryd.underlying139
  a66 := Tryd.isAgg139
  z66 := Tryd.sizeOf139
  v66 := Tryd.zeroValue139
  t70 := Tryd.underlying143
  a70 := Tryd.isAgg143
  z70 := Tryd.sizeOf143
  v70 := Tryd.zeroValue143
  t76 := Tryd.underlying147
  a76 := Tryd.isAgg147
  z76 := Tryd.sizeOf147
  v76 := Tryd.zeroValue147
  t77 := Tryd.underlying148
  a77 := Tryd.isAgg148
  z77 := Tryd.sizeOf148
  v77 := Tryd.zeroValue148 }
end Go.Proofs
namespace Go.Proofs.YtnhlnhmjnnopaaaDoor
open Go.RowKit Go.Shelf Go.Lib Go.Sort

theorem aggEnt : ∀ w, (isAgg 28).run Tryd.prog w = .ok true w := by intro w; kernel_rfl
theorem sizeEnt : ∀ w, (Go.sizeOf 28).run Tryd.prog w = .ok 2 w := by intro w; kernel_rfl
set_option maxHeartbeats 2000000 in
theorem sorted_func (A : Option Addr) (c vb : Nat) (es : List EntC) (w : World) (hE : EntsIn w A es) (hz : es.length ≤ 1000000000) (hb : w.cell? ⟨vb, 0, none⟩ = some (.slice A es.length c)) :
    Calls Tryd.prog 23 #[.func (.func 51) #[] #[.pointer (some ⟨vb, 0, none⟩)], .func (.func 25) #[] #[]] w fun e w' =>
      ∃ A' c' es', e = .returned (.slice A' es.length c') ∧ es'.Perm es ∧ EntsIn w' A' es' ∧ (es = [] ∨ ∃ g, A' = some ⟨g, 0, none⟩ ∧ w.heap.size ≤ g) ∧ Below w.heap.size w w' := by
  have HK := Lib.hid (collect_ent A c vb es w hE hz hb)
  clear hE hb
  go_enter Tryd.func23, Tryd.ntmps23
  go_wp2_with fail
  refine HK.out.mono ?_
  rintro e w1 ⟨v, rfl, h1, h2⟩
  obtain ⟨A1, c1, rfl, _, _, _, h5⟩ := h1.form
  rcases h5 with h5 | ⟨g, rfl, hg, hg2, _⟩
  · subst h5
    have hs := AnyF.slices_SortFunc_none Tryd.sortEnt A1 c1 (.func (.func 25) #[] #[]) w1
    change Calls Tryd.prog 50 _ _ _ at hs
    have HS := Lib.hid hs
    clear hs h1
    go_wp2_with fail
    refine HS.out.mono ?_
    rintro e w2 ⟨rfl, rfl⟩
    go_wp2_with fail
    go_ret
    first
      | exact ⟨_, ⟨_, rfl⟩, .inl rfl, h2⟩
      | exact ⟨_, _, rfl, .inl rfl, h2⟩
      | exact ⟨_, _, [], rfl, List.Perm.refl _, .inl rfl, .inl rfl, h2⟩
  · have eg : ∀ args w, (callFunc 25 args).run Tryd.prog w = .ok (.enter 25 args) w := enters_of Tryd.func25 (by kernel_rfl) rfl
    have hs := AnyQ.slices_SortFunc Tryd.sortEnt 2 aggEnt sizeEnt EntC.cells (fun _ => rfl) kEnt.hone (fun x y => compareBytes x.key.data.toList y.key.data.toList) (swo_cmp fun x : EntC => x.key.data.toList) 25 #[] g 0 c1 es.toArray w1 eg (order_lays g 0 _ w1) (holdsK_own h1) hg2 (by simp; omega)
    change Calls Tryd.prog 50 _ _ _ at hs
    rw [List.size_toArray] at hs
    have HS := Lib.hid hs
    have H1 := Lib.hid h1
    clear hs h1
    go_wp2_with fail
    refine HS.out.mono ?_
    rintro e w2 ⟨rfl, d', n, os, hp, _, rfl⟩
    have hq := perm_in (d := es.toArray) (by simpa using hp)
    have hh := holdsK_sortWorldK_c EntC.cells 2 w1 g 0 es.toArray d' n os (holdsK_own H1.out) hg2 (by simpa using hp.1)
    have hb2 := below_sorted (n := n) (d := d') (os := os) h2 hg h2.size
    go_wp2_with fail
    go_ret
    exact ⟨_, _, d'.toList, rfl, by simpa using hq, ents_holds hh, .inr ⟨g, rfl, hg⟩, hb2⟩
end Go.Proofs.YtnhlnhmjnnopaaaDoor
