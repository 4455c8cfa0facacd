/- PackOrder: texts put together. -/
import Derived.Test.YtnhlnhmjnnopaaaGreatDoorPp2
import Derived.Test.YtnhlnhmjnnopaaaGreatDoorPp10
import Derived.Shelf.SlSortCmp.InsertionK
import Derived.Test.YtnhlnhmjnnopaaaGreatDoorShelf
set_option linter.unusedVariables false
set_option linter.unusedSimpArgs false
/- pack.order. -/
namespace Go.Proofs.YtnhlnhmjnnopaaaGreatDoor
open Go.RowKit Go.Shelf Go.Lib Go.Sort

instance : Inhabited EntC := ⟨⟨⟨#[]⟩, ⟨#[]⟩⟩⟩
theorem pack_order (x y : EntC) (W : World) : Calls Tryz.prog 18 #[.agg #[.string x.key, .string x.text], .agg #[.string y.key, .string y.text]] W fun e w' =>
    e = .returned (.int .i64 (compareBytes x.key.data.toList y.key.data.toList)) ∧ ∃ q os', w' = grow (W.drewN q) os' := by
  have hcon := fun W' => Tryz.strings_Compare x.key y.key W'
  generalize compareBytes x.key.data.toList y.key.data.toList = r at hcon ⊢
  go_enter Tryz.func18, Tryz.ntmps18
  go_wp2_with fail
  refine (hcon _).mono ?_
  rintro e w' ⟨rfl, rfl⟩
  go_wp2_with fail
  go_ret
  exact ⟨rfl, 0, _, by rw [alloc_eq_grow, alloc_eq_grow, grow_grow]; rfl⟩
theorem order_lays (blk off size : Nat) (w : World) : CmpLays Tryz.prog 18 #[] EntC.cells 2 (fun x y => compareBytes x.key.data.toList y.key.data.toList) blk off size w :=
  fun _ _ _ _ x y => pack_order x y _
end Go.Proofs.YtnhlnhmjnnopaaaGreatDoor
