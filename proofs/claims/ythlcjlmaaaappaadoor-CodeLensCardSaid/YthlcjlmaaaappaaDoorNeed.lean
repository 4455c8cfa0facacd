/- What a message asks for, in plain terms. -/
import Derived.Test.YthlcjlmaaaappaaDoorTree
namespace Go.Proofs.YthlcjlmaaaappaaDoor

structure Need where
  name : ByteArray
  num : Bool
  text : Bool
def hasN (t : ByteArray) (n : Need) : Bool := n.name.toList == t.toList
def flagN (kd : Int) (n : Need) : Need := ⟨n.name, n.num || (decide (kd = 3) || decide (kd = 4)), n.text || decide (kd = 5)⟩
/-- a place for a name -/
def growN (l : List Need) (t : ByteArray) : List Need × Nat := match l.findIdx? (hasN t) with | none => (l ++ [Need.mk t false false], l.length) | some i => (l, i)
theorem growN_lt (l : List Need) (t : ByteArray) : (growN l t).2 < (growN l t).1.length := by
  unfold growN
  cases h : l.findIdx? (hasN t) with
  | none => simp
  | some i => exact (List.findIdx?_eq_some_iff_getElem.1 h).1
theorem growN_le (l : List Need) (t : ByteArray) : (growN l t).1.length ≤ l.length + 1 := by
  unfold growN
  split
  · simp
  · exact Nat.le_succ _
/-- names.add -/
def addN (l : List Need) (kd : Int) (t : ByteArray) : List Need :=
  if kd = 1 ∨ kd = 6 then l else
  (growN l t).1.modify (growN l t).2 (flagN kd)
/-- names.all -/
def allN : Nat → List Need → List Nd → List Need
  | 0, l, _ => l
  | f + 1, l, ms => ms.foldl (fun l x => (casesOf x).foldl (fun l c => allN f l c.2) (addN l x.kd x.t)) l
/-- names.of: the fault, the names -/
def namesP (f : Nat) (ms : List Nd) : Int := if msgP f ms = 0 then (if (allN f [] ms).any (fun n => n.num && n.text) then 7 else 0) else msgP f ms

/-- how many nodes, with those in cases -/
def cntP : Nat → List Nd → Nat
  | 0, _ => 0
  | f + 1, ms => ms.length + ((flatC ms).map fun c => cntP f c.2).sum
theorem addN_length (l : List Need) (kd : Int) (t : ByteArray) : (addN l kd t).length ≤ l.length + 1 := by
  unfold addN
  split
  · omega
  · rw [List.length_modify]; exact growN_le l t
end Go.Proofs.YthlcjlmaaaappaaDoor
