/- strconv.Itoa over the table that the library's text lays. -/
import Derived.Test.YthlcjlmaaaappaaDoorShelf
import Derived.Test.YthlcjlmaaaappaaDoorBase
import Derived.Lib.LaidTab
import Derived.Lib.ItoaMem
import Derived.Lib.AppendIntMem
namespace Go.Proofs.YthlcjlmaaaappaaDoor
open Go.RowKit

/-- The table of powers of ten lies in the world. -/
def Pow (w : World) : Prop := Lib.TabIs Tryd.prog w "internal/strconv.uint64pow10" .u64 Lib.pow10Tab
theorem Pow.below {w w' : World} (h : Pow w) (hb : Below w.heap.size w w') : Pow w' := Lib.tabBelow_of_tabIs h w' hb
theorem Pow.alloc {w : World} (h : Pow w) (o : Obj) : Pow (w.alloc o) := Lib.tabIs_alloc h o
theorem Pow.drewN {w : World} (h : Pow w) (n : Nat) : Pow (w.drewN n) := h

theorem itoa_any (n : Int) (w : World) (h0 : -9223372036854775808 ≤ n) (h1 : n ≤ 9223372036854775807) (hP : Pow w) :
    Calls Tryd.prog 42 #[.int .i64 n] w fun e w' => e = .returned (.string ⟨(Lib.itoa n).toArray⟩) ∧ Below w.heap.size w w' := by
  refine (Tryd.strconv_Itoa n h0 h1 w hP).mono ?_
  rintro e w' ⟨rfl, k, os, rfl⟩
  exact ⟨rfl, Lib.below_grow _ w (Nat.le_refl _) k os⟩

end Go.Proofs.YthlcjlmaaaappaaDoor
