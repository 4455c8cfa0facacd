/- EnvLaid: texts put together. -/
import Derived.Test.YtplaohmdllindaaGreatDoorQn9
import Derived.Test.YtplaohmdllindaaGreatDoorQn5
import Derived.Lib.LaidTab
import Derived.Lib.LaidU8
import Derived.MakeChecks
import Derived.HandedShaped
import Derived.LaidLaws
set_option linter.unusedVariables false
set_option linter.unusedSimpArgs false
/- What a row's listed variables give the walks: the table of powers, the two sentinels of strconv. -/
namespace Go.Proofs.YtplaohmdllindaaGreatDoor
open Go.RowKit

theorem maxL_of {W : World} (h : W.ShapedOpen Tryz.prog) : MaxL W :=
  cell_of_shapedOpen_int (P := Tryz.prog) (g := 3) (t := 3) (zero := #[.int .i64 0]) h (of_decide_eq_true (by kernel_rfl)) (by kernel_rfl) rfl (by kernel_rfl) (by kernel_rfl) Tryz.underlying3
theorem gPow : Tryz.prog.globalNamed "internal/strconv.uint64pow10" = some 9 := by kernel_rfl
theorem gPowType : (Tryz.prog.globals[9]?).map (·.type) = some 326 := by kernel_rfl
theorem cells_pow : Tryz.prog.cellsOf 326 = 20 := by kernel_rfl
theorem cells_u64 : Tryz.prog.cellsOf 114 = 1 := by kernel_rfl
theorem pow_of {W : World} {l : List (String × DataW Unit)} (h : laidMet Tryz.prog l W) (hm : ("internal/strconv.uint64pow10", Rows.laid_internal_strconv_uint64pow10) ∈ l) : Pow W := by
  obtain ⟨g', t', cs, fuel, p, hg', ht', hvar, hd⟩ := Lib.laidMet.reads h hm
  obtain rfl := Option.some.inj (gPow.symm.trans hg')
  obtain rfl := Option.some.inj (gPowType.symm.trans ht')
  unfold Pow Lib.TabIs
  rw [hvar, ← Lib.cells_of_tab (zs := Lib.pow10Tab) Tryz.underlying326 Tryz.underlying114 cells_u64 cells_pow hd]
theorem iface_at {W : World} {l : List (String × DataW Unit)} {n nm : String} {d : DataW Unit} {g : Nat} {ms : Array (String × TypeId)} (h : laidMet Tryz.prog l W) (hm : (n, .iface nm d) ∈ l)
    (hg : Tryz.prog.globalNamed n = some g) (ht : (Tryz.prog.globals[g]?).map (·.type) = some 28) (hi : Tryz.prog.underlying 28 = some (.interface ms)) :
    ∃ te pe, W.cell? ⟨g, 0, none⟩ = some (.iface te pe) := by
  obtain ⟨g', t', cs, fuel, p, hg', ht', hvar, hd⟩ := Lib.laidMet.reads h hm
  obtain rfl := Option.some.inj (hg.symm.trans hg')
  obtain rfl := Option.some.inj (ht.symm.trans ht')
  obtain ⟨f1, u, v, hcs, _, _⟩ := iface_of_trod hi hd
  refine ⟨u, v, ?_⟩
  rw [World.var?_cell hg hvar 0]
  have : cs.toList[0]? = some (.iface u v) := by rw [hcs]; rfl
  simpa using this
theorem gSyn : Tryz.prog.globalNamed "strconv.ErrSyntax" = some 7 := by kernel_rfl
theorem gRan : Tryz.prog.globalNamed "strconv.ErrRange" = some 8 := by kernel_rfl
theorem gSynType : (Tryz.prog.globals[7]?).map (·.type) = some 28 := by kernel_rfl
theorem gRanType : (Tryz.prog.globals[8]?).map (·.type) = some 28 := by kernel_rfl
theorem env_of {W : World} {l : List (String × DataW Unit)} (hsh : W.ShapedOpen Tryz.prog) (h : laidMet Tryz.prog l W) (hp : ("internal/strconv.uint64pow10", Rows.laid_internal_strconv_uint64pow10) ∈ l)
    (hs : ("strconv.ErrSyntax", Rows.laid_strconv_ErrSyntax) ∈ l) (hr : ("strconv.ErrRange", Rows.laid_strconv_ErrRange) ∈ l) : RuleEnv W :=
  ⟨maxL_of hsh, pow_of h hp, iface_at h hs gSyn gSynType Tryz.underlying28, iface_at h hr gRan gRanType Tryz.underlying28⟩
end Go.Proofs.YtplaohmdllindaaGreatDoor
