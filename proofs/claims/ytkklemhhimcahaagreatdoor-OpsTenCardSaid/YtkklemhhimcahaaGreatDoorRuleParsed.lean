/- rule.parsed. -/
import Derived.Test.YtkklemhhimcahaaGreatDoorRowG
import Derived.Test.YtkklemhhimcahaaGreatDoorRuleNumber
import Derived.Test.YtkklemhhimcahaaGreatDoorRuleMem
namespace Go.Proofs.YtkklemhhimcahaaGreatDoor
open Go.RowKit Go.Shelf
attribute [local go_sem] Oper.semAt_some

def cutA (s sep : ByteArray) : ByteArray := ⟨(Lib.cut s.data.toList sep.data.toList).1.toArray⟩
def cutZ (s sep : ByteArray) : ByteArray := ⟨(Lib.cut s.data.toList sep.data.toList).2.1.toArray⟩
def cutI (s sep : ByteArray) : Bool := (Lib.cut s.data.toList sep.data.toList).2.2
def eqS : ByteArray := ⟨#[32, 61, 32]⟩
def neS : ByteArray := ⟨#[32, 33, 61, 32]⟩
def pctS : ByteArray := ⟨#[32, 37, 32]⟩
def dotS : ByteArray := ⟨#[46, 46]⟩
def comS : ByteArray := ⟨#[44]⟩
theorem cut_sizes (s sep : ByteArray) : (cutA s sep).size ≤ s.size ∧ (cutZ s sep).size ≤ s.size := by
  have h : (Lib.cut s.data.toList sep.data.toList).1.length ≤ s.size ∧ (Lib.cut s.data.toList sep.data.toList).2.1.length ≤ s.size := by
    unfold Lib.cut
    split
    · simp
      omega
    · simp
  refine ⟨?_, ?_⟩
  · show (Lib.cut s.data.toList sep.data.toList).1.toArray.size ≤ _
    simpa using h.1
  · show (Lib.cut s.data.toList sep.data.toList).2.1.toArray.size ≤ _
    simpa using h.2
def rangeB (w : ByteArray) : Int × Int := if cutI w dotS then (numberB (cutA w dotS), numberB (cutZ w dotS)) else (numberB (cutA w dotS), numberB (cutA w dotS))
def headB' (s : ByteArray) : ByteArray := if cutI s eqS then cutA s eqS else cutA s neS
def tailB (s : ByteArray) : ByteArray := if cutI s eqS then cutZ s eqS else cutZ s neS
def opB (h : ByteArray) : UInt8 := if (cutA h pctS).size = 1 then (cutA h pctS).data[0]! else 0
def mdB (h : ByteArray) : Int := if cutI h pctS then numberB (cutZ h pctS) else 0
def parsedB (s : ByteArray) : RelC := { op := opB (headB' s), md := mdB (headB' s), neg := !cutI s eqS, rs := (pieces comS (tailB s)).map rangeB }

/-- a cut, as the walk meets it -/
theorem cut_any (s sep : ByteArray) (w : World) (hs : s.size < 4294967281) (hM : MaxL w) :
    Calls Tryz.prog 47 #[.string s, .string sep] w fun e w' => e = .returned (.tuple #[.string (cutA s sep), .string (cutZ s sep), .bool (cutI s sep)]) ∧ Below w.heap.size w w' := by
  obtain ⟨m, hm⟩ := hM
  refine (Tryz.strings_Cut s sep m w hs hm).mono ?_
  rintro e w' ⟨rfl, n, rfl⟩
  exact ⟨rfl, bel_drewN _ (Below.refl _ _)⟩
set_option maxHeartbeats 1000000 in
theorem split_seq (s sep : ByteArray) (w : World) :
    Calls Tryz.prog 20 #[.string s, .string sep] w fun e w' => e = .returned (.func (.func 78) #[] #[.pointer (some ⟨w.heap.size + 1, 0, none⟩), .pointer (some ⟨w.heap.size, 0, none⟩), .pointer (some ⟨w.heap.size + 2, 0, none⟩)]) ∧ w' = ((w.alloc (.cells #[.string s] 9)).alloc (.cells #[.string sep] 9)).alloc (.cells #[.int .i64 0] 3) := by
  have K : Calls Tryz.prog 46 #[.string s, .string sep, .int .i64 0] w fun e w' => e = .returned (.func (.func 78) #[] #[.pointer (some ⟨w.heap.size + 1, 0, none⟩), .pointer (some ⟨w.heap.size, 0, none⟩), .pointer (some ⟨w.heap.size + 2, 0, none⟩)]) ∧ w' = ((w.alloc (.cells #[.string s] 9)).alloc (.cells #[.string sep] 9)).alloc (.cells #[.int .i64 0] 3) := by
    go_enter Tryz.func46, Tryz.ntmps46
    go_wp2_with fail
    go_ret
    exact ⟨rfl, rfl⟩
  have HK := Lib.hid K
  clear K
  go_enter Tryz.func20, Tryz.ntmps20
  go_wp2_with fail
  refine HK.out.mono ?_
  rintro e w' ⟨rfl, rfl⟩
  go_wp2_with fail
  go_ret
  exact ⟨rfl, rfl⟩
end Go.Proofs.YtkklemhhimcahaaGreatDoor
