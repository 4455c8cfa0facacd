/-
  No cell of these rows narrows 'for every input' (looked for: loops, veiled, ifaces, maps, wideKeys, modest, calm, conditions, laid).
  DERIVED. THE GIVEN ROWS OF THIS SEAT. 5 by the template 'for every input the law returns true; each argument reads behind the call as it read before'; 0 by the template 'total and deterministic' (their statements: YtbbafdhgoekdiaaTotals.lean).
  GIVEN WITH THE SEED: the statements are not yours to turn. If you find one false, say at which input.
  Laid BY PROGRAM, IN A SANDBOX (cutbox-rows.mjs): the forced cells as the released guide's own fill.sh prints them over the translation 2831c9df66ae1e04… (all of the seat's roots in one cut). By AI agents, Wed Nov 11 2026. No macro, syntax, notation, axiom, sorry.
-/
import Derived.Test.YtbbafdhgoekdiaaChecked
import GoSem.Claim
import GoSem.ClaimJoined
import GoSem.ClaimMapViews
import Derived.JoinedTies
import Derived.KernelRfl
namespace Go.Proofs.Ytbbafdhgoekdiaa
/- THE CELL 'sum', in the pinned program and in every row, IS THE sha256 OF THE DUMP (.gsa) THAT YtbbafdhgoekdiaaProg.lean LOADS. Nothing in Lean hashes anything: it is a label: what it is worth is what the hold of that sum in a sandbox is worth. -/
noncomputable def Try.pinned : Pinned := { name := "ytbbafdhgoekdiaa", sum := "2831c9df66ae1e0426812e4b30636cc750b4fb597c30a351d345648871c9ece3", checked := Try.checked }
namespace Rows
def none {H : Type} : Left H := { results := [], args := [] }

/-- 'linguisterlaw6.PseudoLong': WHATEVER THE INPUT: true; the input reads as it did. -/
def pseudoLongSpec : ChangeSpec := { name := "pseudoLong", fn := fun _ => fun
  | [d1, d2] => { results := [.lit (.bool true)], args := [d1, d2] }
  | _ => none }
def pseudoLongRow : OpenClaim := { program := "ytbbafdhgoekdiaa", sum := "2831c9df66ae1e0426812e4b30636cc750b4fb597c30a351d345648871c9ece3", func := "linguister/linguisterlaw6.PseudoLong", spec := "pseudoLong", inPlace := ["internal/abi.NoEscape", "internal/bytealg.IndexByteString"], apart := false }
def PseudoLongSaid : Prop := pseudoLongRow.holds Try.pinned (OpenSpec.ofChange pseudoLongSpec)

/-- ITS FALSE NEIGHBOUR: 'it returns false'. Refute it at one input. -/
def pseudoLongWrong : ChangeSpec := { name := "pseudoLong", fn := fun _ => fun
  | [d1, d2] => { results := [.lit (.bool false)], args := [d1, d2] }
  | _ => none }
def PseudoLongWrongFalsely : Prop := pseudoLongRow.holds Try.pinned (OpenSpec.ofChange pseudoLongWrong)

/-- 'linguisterlaw6.ClockGets': WHATEVER THE INPUT: true; the input reads as it did. -/
def clockGetsSpec : ChangeSpec := { name := "clockGets", fn := fun _ => fun
  | [d1, d2, d3] => { results := [.lit (.bool true)], args := [d1, d2, d3] }
  | _ => none }
def clockGetsRow : OpenClaim := { program := "ytbbafdhgoekdiaa", sum := "2831c9df66ae1e0426812e4b30636cc750b4fb597c30a351d345648871c9ece3", func := "linguister/linguisterlaw6.ClockGets", spec := "clockGets", apart := false }
def ClockGetsSaid : Prop := clockGetsRow.holds Try.pinned (OpenSpec.ofChange clockGetsSpec)

/-- ITS FALSE NEIGHBOUR: 'it returns false'. Refute it at one input. -/
def clockGetsWrong : ChangeSpec := { name := "clockGets", fn := fun _ => fun
  | [d1, d2, d3] => { results := [.lit (.bool false)], args := [d1, d2, d3] }
  | _ => none }
def ClockGetsWrongFalsely : Prop := clockGetsRow.holds Try.pinned (OpenSpec.ofChange clockGetsWrong)

/-- 'linguisterlaw6.ClockAll': WHATEVER THE INPUT: true; the input reads as it did. -/
def clockAllSpec : ChangeSpec := { name := "clockAll", fn := fun _ => fun
  | [d1, d2] => { results := [.lit (.bool true)], args := [d1, d2] }
  | _ => none }
def clockAllRow : OpenClaim := { program := "ytbbafdhgoekdiaa", sum := "2831c9df66ae1e0426812e4b30636cc750b4fb597c30a351d345648871c9ece3", func := "linguister/linguisterlaw6.ClockAll", spec := "clockAll", apart := false }
def ClockAllSaid : Prop := clockAllRow.holds Try.pinned (OpenSpec.ofChange clockAllSpec)

/-- ITS FALSE NEIGHBOUR: 'it returns false'. Refute it at one input. -/
def clockAllWrong : ChangeSpec := { name := "clockAll", fn := fun _ => fun
  | [d1, d2] => { results := [.lit (.bool false)], args := [d1, d2] }
  | _ => none }
def ClockAllWrongFalsely : Prop := clockAllRow.holds Try.pinned (OpenSpec.ofChange clockAllWrong)

/-- 'linguisterlaw6.ListPlain': WHATEVER THE INPUT: true; the input reads as it did. -/
def listPlainSpec : ChangeSpec := { name := "listPlain", fn := fun _ => fun
  | [d1, d2, d3, d4] => { results := [.lit (.bool true)], args := [d1, d2, d3, d4] }
  | _ => none }
def listPlainRow : OpenClaim := { program := "ytbbafdhgoekdiaa", sum := "2831c9df66ae1e0426812e4b30636cc750b4fb597c30a351d345648871c9ece3", func := "linguister/linguisterlaw6.ListPlain", spec := "listPlain", inPlace := ["internal/abi.NoEscape", "internal/bytealg.MakeNoZero"], apart := false }
def ListPlainSaid : Prop := listPlainRow.holds Try.pinned (OpenSpec.ofChange listPlainSpec)

/-- ITS FALSE NEIGHBOUR: 'it returns false'. Refute it at one input. -/
def listPlainWrong : ChangeSpec := { name := "listPlain", fn := fun _ => fun
  | [d1, d2, d3, d4] => { results := [.lit (.bool false)], args := [d1, d2, d3, d4] }
  | _ => none }
def ListPlainWrongFalsely : Prop := listPlainRow.holds Try.pinned (OpenSpec.ofChange listPlainWrong)

/-- 'linguisterlaw6.DecTwice': WHATEVER THE INPUT: true; the input reads as it did. -/
def decTwiceSpec : ChangeSpec := { name := "decTwice", fn := fun _ => fun
  | [d1, d2, d3, d4] => { results := [.lit (.bool true)], args := [d1, d2, d3, d4] }
  | _ => none }
def decTwiceRow : OpenClaim := { program := "ytbbafdhgoekdiaa", sum := "2831c9df66ae1e0426812e4b30636cc750b4fb597c30a351d345648871c9ece3", func := "linguister/linguisterlaw6.DecTwice", spec := "decTwice", apart := false }
def DecTwiceSaid : Prop := decTwiceRow.holds Try.pinned (OpenSpec.ofChange decTwiceSpec)

/-- ITS FALSE NEIGHBOUR: 'it returns false'. Refute it at one input. -/
def decTwiceWrong : ChangeSpec := { name := "decTwice", fn := fun _ => fun
  | [d1, d2, d3, d4] => { results := [.lit (.bool false)], args := [d1, d2, d3, d4] }
  | _ => none }
def DecTwiceWrongFalsely : Prop := decTwiceRow.holds Try.pinned (OpenSpec.ofChange decTwiceWrong)

/- THE SECOND FORM. 'bulk': how many values and letters a reading holds, each counted each time it is reached (what is shared counts as often as it is met; a slice's spare places count too). A statement '..UptoSaid' is the law's where the arguments, and the package variables that the reading takes, are together of bulk at most 1048576: NARROWER than '..Said'. Prove '..Said' where nothing that the law and all that it calls make is longer than what came in: it says more and counts as full. Else prove '..UptoSaid'. A law counts once. -/
mutual
def uptoBulk {H : Type} : DataW H → Nat
  | .lit (.string bytes) => bytes.length + 1
  | .lit _ => 1
  | .nil => 1
  | .ptr d => uptoBulk d + 1
  | .slice elems spare => uptoBulkAll elems + uptoBulkAll spare + 1
  | .agg parts => uptoBulkAll parts + 1
  | .iface _ d => uptoBulk d + 1
  | .map entries => uptoBulkEntries entries + 1
  | .held _ => 1
def uptoBulkAll {H : Type} : List (DataW H) → Nat
  | [] => 0
  | d :: r => uptoBulk d + uptoBulkAll r
def uptoBulkEntries {H : Type} : List (Lit × DataW H) → Nat
  | [] => 0
  | x :: r => uptoBulkEntry x + uptoBulkEntries r
def uptoBulkEntry {H : Type} : Lit × DataW H → Nat
  | (.string bytes, d) => bytes.length + uptoBulk d + 1
  | (_, d) => uptoBulk d + 1
 end
def uptoSmall : (H : Type) → List (DataW H) → Bool := fun _ ds => decide (uptoBulkAll ds ≤ 1048576)
def OpenSpec.upto (s : _root_.Go.ChangeSpec) : _root_.Go.OpenSpec := { _root_.Go.OpenSpec.ofChange s with cond := some uptoSmall }

/-- 'linguisterlaw6.PseudoLong', WHERE WHAT IT READS IS OF BULK AT MOST 1048576: true; the input reads as it did. -/
def pseudoLongUptoRow : OpenClaim := { program := "ytbbafdhgoekdiaa", sum := "2831c9df66ae1e0426812e4b30636cc750b4fb597c30a351d345648871c9ece3", func := "linguister/linguisterlaw6.PseudoLong", spec := "pseudoLong", inPlace := ["internal/abi.NoEscape", "internal/bytealg.IndexByteString"], apart := false, narrowed := true }
def PseudoLongUptoSaid : Prop := pseudoLongUptoRow.holds Try.pinned (OpenSpec.upto pseudoLongSpec)

/-- 'linguisterlaw6.ClockGets', WHERE WHAT IT READS IS OF BULK AT MOST 1048576: true; the input reads as it did. -/
def clockGetsUptoRow : OpenClaim := { program := "ytbbafdhgoekdiaa", sum := "2831c9df66ae1e0426812e4b30636cc750b4fb597c30a351d345648871c9ece3", func := "linguister/linguisterlaw6.ClockGets", spec := "clockGets", apart := false, narrowed := true }
def ClockGetsUptoSaid : Prop := clockGetsUptoRow.holds Try.pinned (OpenSpec.upto clockGetsSpec)

/-- 'linguisterlaw6.ClockAll', WHERE WHAT IT READS IS OF BULK AT MOST 1048576: true; the input reads as it did. -/
def clockAllUptoRow : OpenClaim := { program := "ytbbafdhgoekdiaa", sum := "2831c9df66ae1e0426812e4b30636cc750b4fb597c30a351d345648871c9ece3", func := "linguister/linguisterlaw6.ClockAll", spec := "clockAll", apart := false, narrowed := true }
def ClockAllUptoSaid : Prop := clockAllUptoRow.holds Try.pinned (OpenSpec.upto clockAllSpec)

/-- 'linguisterlaw6.ListPlain', WHERE WHAT IT READS IS OF BULK AT MOST 1048576: true; the input reads as it did. -/
def listPlainUptoRow : OpenClaim := { program := "ytbbafdhgoekdiaa", sum := "2831c9df66ae1e0426812e4b30636cc750b4fb597c30a351d345648871c9ece3", func := "linguister/linguisterlaw6.ListPlain", spec := "listPlain", inPlace := ["internal/abi.NoEscape", "internal/bytealg.MakeNoZero"], apart := false, narrowed := true }
def ListPlainUptoSaid : Prop := listPlainUptoRow.holds Try.pinned (OpenSpec.upto listPlainSpec)

/-- 'linguisterlaw6.DecTwice', WHERE WHAT IT READS IS OF BULK AT MOST 1048576: true; the input reads as it did. -/
def decTwiceUptoRow : OpenClaim := { program := "ytbbafdhgoekdiaa", sum := "2831c9df66ae1e0426812e4b30636cc750b4fb597c30a351d345648871c9ece3", func := "linguister/linguisterlaw6.DecTwice", spec := "decTwice", apart := false, narrowed := true }
def DecTwiceUptoSaid : Prop := decTwiceUptoRow.holds Try.pinned (OpenSpec.upto decTwiceSpec)

end Rows
end Go.Proofs.Ytbbafdhgoekdiaa
