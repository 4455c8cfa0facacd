/- RulePlain, OpsPlain: texts put together. -/
import Derived.Lib.ItoaNum
import Derived.Lib.ItoaLen
import Derived.Lib.Join
import Derived.Lib.JoinLaws
import Derived.Lib.AtoiAll
import Derived.Lib.Split
import Derived.Test.YtplaohmdllindaaGreatDoorQn1
set_option linter.unusedVariables false
set_option linter.unusedSimpArgs false
/- Rules as plain data. No program stands here. -/
namespace Go.Proofs.YtplaohmdllindaaGreatDoor
open Go

/-- what a rel says -/
structure RelC where
  op : UInt8
  md : Int
  neg : Bool
  rs : List (Int × Int)

def opsL : List UInt8 := [110, 105, 118, 119, 102, 116]
def rngBad (p : Int × Int) : Bool := decide (p.1 < 0) || decide (p.2 < p.1) || decide (1000000 < p.2)
def RelC.headB (r : RelC) : Bool := opsL.contains r.op && !decide (r.md < 0) && !decide (1000000 < r.md) && !decide (r.rs.length = 0)
def RelC.fine (r : RelC) : Bool := r.headB && !r.rs.any rngBad

abbrev RuleC := List (List RelC)
def ruleCount (r : RuleC) : Nat := (r.map List.length).sum
def ruleErr (r : RuleC) : Int := if r.length = 0 then 3 else if r.all (fun p => !decide (p.length = 0) && p.all RelC.fine) then (if 20 < ruleCount r then 4 else 0) else 3

def rangedL (p : Int × Int) : List UInt8 := if p.1 = p.2 then Lib.itoa p.1 else Lib.itoa p.1 ++ [46, 46] ++ Lib.itoa p.2
def relatedL (r : RelC) : List UInt8 := [r.op] ++ (if r.md = 0 then [] else [32, 37, 32] ++ Lib.itoa r.md) ++ (if r.neg then [32, 33, 61, 32] else [32, 61, 32]) ++ Lib.join (r.rs.map rangedL) [44]
def partL (p : List RelC) : List UInt8 := Lib.join (p.map relatedL) [32, 97, 110, 100, 32]
def ruleL (r : RuleC) : List UInt8 := Lib.join (r.map partL) [32, 111, 114, 32]

/-- operands of a number -/
structure OpsC where
  i : Int
  v : Int
  w : Int
  f : Int
  t : Int
def OpsC.at (o : OpsC) (c : UInt8) : Int := if c = 110 then o.i else if c = 105 then o.i else if c = 118 then o.v else if c = 119 then o.w else if c = 102 then o.f else if c = 116 then o.t else 0
def inRng (x : Int) (p : Int × Int) : Bool := decide (p.1 ≤ x) && decide (x ≤ p.2)
def RelC.holds (r : RelC) (o : OpsC) : Bool :=
  let x := if r.md = 0 then o.at r.op else (o.at r.op).tmod r.md
  ((r.rs.any (inRng x)) && (!decide (r.op = 110) || decide (o.t = 0))) != r.neg
def ruleHolds (r : RuleC) (o : OpsC) : Bool := r.any fun p => p.all fun x => x.holds o

theorem fine_op {r : RelC} (h : r.fine = true) : r.op.toNat < 128 := by
  unfold RelC.fine RelC.headB at h
  simp [opsL] at h
  obtain ⟨⟨⟨⟨h1, _⟩, _⟩, _⟩, _⟩ := h
  rcases h1 with h1 | h1 | h1 | h1 | h1 | h1 <;> (rw [h1]; decide)
theorem fine_md {r : RelC} (h : r.fine = true) : 0 ≤ r.md ∧ r.md ≤ 1000000 := by
  unfold RelC.fine RelC.headB at h
  simp at h
  omega
theorem fine_head {r : RelC} (h : r.fine = true) : r.headB = true := by
  unfold RelC.fine at h
  rw [Bool.and_eq_true] at h
  exact h.1

theorem ruleErr_ok {r : RuleC} (h : ruleErr r = 0) : 0 < r.length ∧ (∀ p ∈ r, 0 < p.length ∧ ∀ x ∈ p, x.fine = true) ∧ ruleCount r ≤ 20 := by
  unfold ruleErr at h
  split at h
  · omega
  · rename_i h0
    split at h
    · rename_i h1
      split at h
      · omega
      · rename_i h2
        rw [List.all_eq_true] at h1
        refine ⟨by omega, fun p hp => ?_, by omega⟩
        have := h1 p hp
        rw [Bool.and_eq_true, Bool.not_eq_true', decide_eq_false_iff_not, List.all_eq_true] at this
        exact ⟨by omega, this.2⟩
    · omega
theorem count_cons (p : List RelC) (r : RuleC) : ruleCount (p :: r) = p.length + ruleCount r := by simp [ruleCount]
theorem count_append (a b : RuleC) : ruleCount (a ++ b) = ruleCount a + ruleCount b := by simp [ruleCount]
theorem count_take_succ (r : RuleC) (k : Nat) (p : List RelC) (h : r[k]? = some p) : ruleCount (r.take (k + 1)) = ruleCount (r.take k) + p.length := by
  rw [List.take_add_one, h, count_append]
  simp [ruleCount]
theorem count_take_le (r : RuleC) (k : Nat) : ruleCount (r.take k) ≤ ruleCount r := by
  have h := congrArg ruleCount (List.take_append_drop k r)
  rw [count_append] at h
  omega
end Go.Proofs.YtplaohmdllindaaGreatDoor

/- What rules ask of a number, as plain data. No program stands here. -/
namespace Go.Proofs.YtplaohmdllindaaGreatDoor
open Go

/-- without the noughts at the end, of so many digits -/
def strip : Nat → Int → Nat × Int
  | 0, t => (0, t)
  | n + 1, t => if t % 10 = 0 then strip n (t / 10) else (n + 1, t)
theorem strip_go {n : Nat} {t : Int} (h : t % 10 = 0) : strip (n + 1) t = strip n (t / 10) := by rw [strip, if_pos h]
theorem strip_end {n : Nat} {t : Int} (h : ¬ t % 10 = 0) : strip (n + 1) t = (n + 1, t) := by rw [strip, if_neg h]
theorem strip_le (n : Nat) : ∀ t : Int, 0 ≤ t → (strip n t).1 ≤ n ∧ 0 ≤ (strip n t).2 ∧ (strip n t).2 ≤ t := by
  induction n with
  | zero => intro t h; exact ⟨Nat.le_refl _, h, Int.le_refl _⟩
  | succ n ih =>
    intro t h
    by_cases h0 : t % 10 = 0
    · rw [strip_go h0]; have := ih (t / 10) (by omega); omega
    · rw [strip_end h0]; exact ⟨Nat.le_refl _, h, Int.le_refl _⟩

def absI (c : Int) : Int := if c < 0 then -c else c
def opsC (c : Int) (s : Nat) : OpsC := ⟨absI c / ten s, s, (strip s (absI c % ten s)).1, absI c % ten s, (strip s (absI c % ten s)).2⟩
end Go.Proofs.YtplaohmdllindaaGreatDoor
