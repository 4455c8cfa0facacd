/- What a row's listed variables give the walks: the table of powers, the two sentinels of strconv. -/
import Derived.Test.YthlcjlmaaaappaaDoorRuleEnv
import Derived.Test.YthlcjlmaaaappaaDoorFrame
import Derived.Lib.LaidTab
import Derived.Lib.LaidU8
import Derived.MakeChecks
import Derived.HandedShaped
import Derived.LaidLaws
namespace Go.Proofs.YthlcjlmaaaappaaDoor
open Go.RowKit

theorem maxL_of {W : World} (h : W.ShapedOpen Tryd.prog) : MaxL W :=
  cell_of_shapedOpen_int (P := Tryd.prog) (g := 1) (t := 3) (zero := #[.int .i64 0]) h (of_decide_eq_true (by kernel_rfl)) (by kernel_rfl) rfl (by kernel_rfl) (by kernel_rfl) Tryd.underlying3
theorem gPow : Tryd.prog.globalNamed "internal/strconv.uint64pow10" = some 6 := by kernel_rfl
theorem gPowType : (Tryd.prog.globals[6]?).map (·.type) = some 134 := by kernel_rfl
theorem cells_pow : Tryd.prog.cellsOf 134 = 20 := by kernel_rfl
theorem cells_u64 : Tryd.prog.cellsOf 116 = 1 := by kernel_rfl
theorem pow_of {W : World} {l : List (String × DataW Unit)} (h : laidMet Tryd.prog l W) (hm : ("internal/strconv.uint64pow10", Rows.laid_internal_strconv_uint64pow10) ∈ l) : Pow W := by
  obtain ⟨g', t', cs, fuel, p, hg', ht', hvar, hd⟩ := Lib.laidMet.reads h hm
  obtain rfl := Option.some.inj (gPow.symm.trans hg')
  obtain rfl := Option.some.inj (gPowType.symm.trans ht')
  unfold Pow Lib.TabIs
  rw [hvar, ← Lib.cells_of_tab (zs := Lib.pow10Tab) Tryd.underlying134 Tryd.underlying116 cells_u64 cells_pow hd]
theorem iface_at {W : World} {l : List (String × DataW Unit)} {n nm : String} {d : DataW Unit} {g : Nat} {ms : Array (String × TypeId)} (h : laidMet Tryd.prog l W) (hm : (n, .iface nm d) ∈ l)
    (hg : Tryd.prog.globalNamed n = some g) (ht : (Tryd.prog.globals[g]?).map (·.type) = some 27) (hi : Tryd.prog.underlying 27 = some (.interface ms)) :
    ∃ te pe, W.cell? ⟨g, 0, none⟩ = some (.iface te pe) := by
  obtain ⟨g', t', cs, fuel, p, hg', ht', hvar, hd⟩ := Lib.laidMet.reads h hm
  obtain rfl := Option.some.inj (hg.symm.trans hg')
  obtain rfl := Option.some.inj (ht.symm.trans ht')
  obtain ⟨f1, u, v, hcs, _, _⟩ := iface_of_trod hi hd
  refine ⟨u, v, ?_⟩
  rw [World.var?_cell hg hvar 0]
  have : cs.toList[0]? = some (.iface u v) := by rw [hcs]; rfl
  simpa using this
theorem gSyn : Tryd.prog.globalNamed "strconv.ErrSyntax" = some 4 := by kernel_rfl
theorem gRan : Tryd.prog.globalNamed "strconv.ErrRange" = some 5 := by kernel_rfl
theorem gSynType : (Tryd.prog.globals[4]?).map (·.type) = some 27 := by kernel_rfl
theorem gRanType : (Tryd.prog.globals[5]?).map (·.type) = some 27 := by kernel_rfl
theorem env_of {W : World} {l : List (String × DataW Unit)} (hsh : W.ShapedOpen Tryd.prog) (h : laidMet Tryd.prog l W) (hp : ("internal/strconv.uint64pow10", Rows.laid_internal_strconv_uint64pow10) ∈ l)
    (hs : ("strconv.ErrSyntax", Rows.laid_strconv_ErrSyntax) ∈ l) (hr : ("strconv.ErrRange", Rows.laid_strconv_ErrRange) ∈ l) : RuleEnv W :=
  ⟨maxL_of hsh, pow_of h hp, iface_at h hs gSyn gSynType Tryd.underlying27, iface_at h hr gRan gRanType Tryd.underlying27⟩
end Go.Proofs.YthlcjlmaaaappaaDoor
