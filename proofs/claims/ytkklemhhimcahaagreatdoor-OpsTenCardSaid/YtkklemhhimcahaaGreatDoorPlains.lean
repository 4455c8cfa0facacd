/- StrsPlain, RulePlain, DecPlain, OpsPlain, DigitsPlain, DigitsB, DecTextPlain: plain texts together. -/
import Derived.Test.YtkklemhhimcahaaGreatDoorBase
import Derived.Lib.Join
import Derived.Lib.ItoaNum
import Derived.Lib.ItoaLen
import Derived.Lib.JoinLaws
import Derived.Lib.AtoiAll
import Derived.Lib.Split
import Derived.Lib.IndexMore
import Derived.Lib.IndexBytes
import Derived.Lib.ItoaMem
import Derived.Lib.Strings
import Derived.Lib.Repeat
import GoSem.Op.String
/- Lists of texts in memory, and what joining makes of them. -/
namespace Go.Proofs.YtkklemhhimcahaaGreatDoor
open Go.RowKit

/-- The slice at A reads as these texts. -/
def StrsIn (w : World) (A : Option Addr) (xs : List ByteArray) : Prop :=
  xs = [] ∨ ∃ bk o, A = some ⟨bk, o, none⟩ ∧ ∀ (j : Nat) x, xs[j]? = some x → w.cell? ⟨bk, o + j, none⟩ = some (.string x)
theorem StrsIn.below {w w' : World} {A : Option Addr} {xs : List ByteArray} (h : StrsIn w A xs) (hb : Below w.heap.size w w') : StrsIn w' A xs := by
  rcases h with h | ⟨bk, o, hA, hc⟩
  · exact .inl h
  · exact .inr ⟨bk, o, hA, fun j x hx => carry hb (hc j x hx)⟩
theorem StrsIn.drewN {w : World} {A : Option Addr} {xs : List ByteArray} (h : StrsIn w A xs) (n : Nat) : StrsIn (w.drewN n) A xs := h

/-- what list.Join tells -/
def listJoin (xs : List (List UInt8)) (two sep last : List UInt8) : List UInt8 :=
  if xs.length < 2 then Lib.join xs []
  else if xs.length = 2 then xs.getD 0 [] ++ two ++ xs.getD 1 []
  else Lib.join (xs.take (xs.length - 1)) sep ++ last ++ xs.getD (xs.length - 1) []
def lensB (xs : List ByteArray) : Nat := (xs.map (·.size)).sum
theorem lens_map (xs : List ByteArray) : Lib.lens (xs.map (·.data.toList)) = lensB xs := by
  induction xs with
  | nil => rfl
  | cons x r ih =>
    simp only [List.map_cons, lensB, Lib.lens, List.sum_cons] at *
    rw [ih]
    simp
theorem join_len (xs : List (List UInt8)) (sep : List UInt8) : (Lib.join xs sep).length = sep.length * (xs.length - 1) + Lib.lens xs := by
  cases xs with
  | nil => rfl
  | cons x r => rw [Lib.join_length]; simp

theorem join_take_succ (xs : List (List UInt8)) (sep : List UInt8) (k : Nat) (y : List UInt8) (h : xs[k]? = some y) : Lib.join (xs.take (k + 1)) sep = if k = 0 then y else Lib.join (xs.take k) sep ++ sep ++ y := by
  cases xs with
  | nil => simp at h
  | cons x r =>
    cases k with
    | zero => simp at h; subst h; simp [Lib.join_one]
    | succ k =>
      simp only [List.getElem?_cons_succ] at h
      rw [if_neg (by omega), List.take_succ_cons, List.take_succ_cons, Lib.join_cons, Lib.join_cons, Lib.joinTail_take_succ _ _ _ _ h]
      simp [List.append_assoc]
theorem lensB_take_le (xs : List ByteArray) (k : Nat) : lensB (xs.take k) ≤ lensB xs := by
  rw [← lens_map, ← lens_map, List.map_take]
  exact Lib.lens_take_le _ _
theorem lensB_take_succ (xs : List ByteArray) (k : Nat) (y : ByteArray) (h : xs[k]? = some y) : lensB (xs.take (k + 1)) = lensB (xs.take k) + y.size := by
  rw [List.take_add_one, h]
  simp [lensB]
theorem size_le_lensB (xs : List ByteArray) (k : Nat) (y : ByteArray) (h : xs[k]? = some y) : y.size ≤ lensB xs := by
  have h1 := lensB_take_succ xs k y h
  have h2 := lensB_take_le xs (k + 1)
  omega
theorem listJoin_plain (xs : List (List UInt8)) : listJoin xs [] [] [] = Lib.join xs [] := by
  have flat : ∀ l : List (List UInt8), Lib.join l [] = l.flatten := by
    intro l
    cases l with
    | nil => rfl
    | cons x r => rw [Lib.join_cons]; simp [Lib.joinTail]
  unfold listJoin
  split
  · rfl
  · rename_i h
    split
    · rename_i h2
      match xs, h2 with
      | [a, b], _ => simp [flat]
    · rw [flat, flat, List.append_nil]
      have h3 : xs.length - 1 < xs.length := by omega
      have e : xs.getD (xs.length - 1) [] = xs[xs.length - 1] := by simp [List.getD_eq_getElem?_getD, List.getElem?_eq_getElem h3]
      rw [e]
      have := List.take_append_getElem h3
      rw [show xs.length - 1 + 1 = xs.length by omega, List.take_length] at this
      have t2 := congrArg List.flatten this
      rw [List.flatten_append] at t2
      rw [← t2]
      simp only [List.flatten_cons, List.flatten_nil, List.append_nil]
/-- as many bytes -/
def joinN (n : Nat) (sum two sep last : Nat) : Nat := sum + (if n = 2 then two else 0) + (if 2 < n then (n - 2) * sep + last else 0)
theorem listJoin_length (xs : List (List UInt8)) (two sep last : List UInt8) : (listJoin xs two sep last).length = joinN xs.length (Lib.lens xs) two.length sep.length last.length := by
  unfold listJoin joinN
  split
  · rename_i h
    rw [join_len, if_neg (by omega), if_neg (by omega)]
    simp
  · rename_i h
    split
    · rename_i h2
      match xs, h2 with
      | [a, b], _ => simp [Lib.lens]; omega
    · rename_i h2
      have h3 : xs.length - 1 < xs.length := by omega
      have hs := Lib.lens_take_succ xs (xs.length - 1) xs[xs.length - 1] (List.getElem?_eq_getElem h3)
      rw [show xs.length - 1 + 1 = xs.length by omega, List.take_length] at hs
      have e : xs.getD (xs.length - 1) [] = xs[xs.length - 1] := by simp [List.getD_eq_getElem?_getD, List.getElem?_eq_getElem h3]
      rw [e, if_pos (by omega), List.length_append, List.length_append, join_len, List.length_take, hs, Nat.min_eq_left (by omega), show xs.length - 1 - 1 = xs.length - 2 by omega, Nat.mul_comm]
      omega

end Go.Proofs.YtkklemhhimcahaaGreatDoor

/- Rules as plain data. No program stands here. -/
namespace Go.Proofs.YtkklemhhimcahaaGreatDoor
open Go

/-- what a rel says -/
structure RelC where
  op : UInt8
  md : Int
  neg : Bool
  rs : List (Int × Int)

def opsL : List UInt8 := [110, 105, 118, 119, 102, 116]
def rngBad (p : Int × Int) : Bool := decide (p.1 < 0) || decide (p.2 < p.1) || decide (1000000 < p.2)
def RelC.headB (r : RelC) : Bool := opsL.contains r.op && !decide (r.md < 0) && !decide (1000000 < r.md) && !decide (r.rs.length = 0)
def RelC.fine (r : RelC) : Bool := r.headB && !r.rs.any rngBad

abbrev RuleC := List (List RelC)
def ruleCount (r : RuleC) : Nat := (r.map List.length).sum
def ruleErr (r : RuleC) : Int := if r.length = 0 then 3 else if r.all (fun p => !decide (p.length = 0) && p.all RelC.fine) then (if 20 < ruleCount r then 4 else 0) else 3

def rangedL (p : Int × Int) : List UInt8 := if p.1 = p.2 then Lib.itoa p.1 else Lib.itoa p.1 ++ [46, 46] ++ Lib.itoa p.2
def relatedL (r : RelC) : List UInt8 := [r.op] ++ (if r.md = 0 then [] else [32, 37, 32] ++ Lib.itoa r.md) ++ (if r.neg then [32, 33, 61, 32] else [32, 61, 32]) ++ Lib.join (r.rs.map rangedL) [44]
def partL (p : List RelC) : List UInt8 := Lib.join (p.map relatedL) [32, 97, 110, 100, 32]
def ruleL (r : RuleC) : List UInt8 := Lib.join (r.map partL) [32, 111, 114, 32]

/-- operands of a number -/
structure OpsC where
  i : Int
  v : Int
  w : Int
  f : Int
  t : Int
def OpsC.at (o : OpsC) (c : UInt8) : Int := if c = 110 then o.i else if c = 105 then o.i else if c = 118 then o.v else if c = 119 then o.w else if c = 102 then o.f else if c = 116 then o.t else 0
def inRng (x : Int) (p : Int × Int) : Bool := decide (p.1 ≤ x) && decide (x ≤ p.2)
def RelC.holds (r : RelC) (o : OpsC) : Bool :=
  let x := if r.md = 0 then o.at r.op else (o.at r.op).tmod r.md
  ((r.rs.any (inRng x)) && (!decide (r.op = 110) || decide (o.t = 0))) != r.neg
def ruleHolds (r : RuleC) (o : OpsC) : Bool := r.any fun p => p.all fun x => x.holds o

theorem fine_len {r : RelC} (h : r.fine = true) : 0 < r.rs.length := by
  unfold RelC.fine RelC.headB at h
  simp at h
  rcases hl : r.rs with _ | ⟨x, l⟩
  · rw [hl] at h; simp at h
  · simp
theorem fine_op {r : RelC} (h : r.fine = true) : r.op.toNat < 128 := by
  unfold RelC.fine RelC.headB at h
  simp [opsL] at h
  obtain ⟨⟨⟨⟨h1, _⟩, _⟩, _⟩, _⟩ := h
  rcases h1 with h1 | h1 | h1 | h1 | h1 | h1 <;> (rw [h1]; decide)
theorem fine_md {r : RelC} (h : r.fine = true) : 0 ≤ r.md ∧ r.md ≤ 1000000 := by
  unfold RelC.fine RelC.headB at h
  simp at h
  omega
theorem fine_rng {r : RelC} (h : r.fine = true) : ∀ p ∈ r.rs, 0 ≤ p.1 ∧ p.1 ≤ p.2 ∧ p.2 ≤ 1000000 := by
  intro p hp
  unfold RelC.fine at h
  rw [Bool.and_eq_true] at h
  have h2 := h.2
  rw [Bool.not_eq_true', List.any_eq_false] at h2
  have := h2 p hp
  unfold rngBad at this
  simp at this
  omega
theorem fine_head {r : RelC} (h : r.fine = true) : r.headB = true := by
  unfold RelC.fine at h
  rw [Bool.and_eq_true] at h
  exact h.1

theorem ruleErr_cases (r : RuleC) : ruleErr r = 0 ∨ ruleErr r = 3 ∨ ruleErr r = 4 := by
  unfold ruleErr
  split
  · simp
  · split
    · split <;> simp
    · simp
theorem ruleErr_ok {r : RuleC} (h : ruleErr r = 0) : 0 < r.length ∧ (∀ p ∈ r, 0 < p.length ∧ ∀ x ∈ p, x.fine = true) ∧ ruleCount r ≤ 20 := by
  unfold ruleErr at h
  split at h
  · omega
  · rename_i h0
    split at h
    · rename_i h1
      split at h
      · omega
      · rename_i h2
        rw [List.all_eq_true] at h1
        refine ⟨by omega, fun p hp => ?_, by omega⟩
        have := h1 p hp
        rw [Bool.and_eq_true, Bool.not_eq_true', decide_eq_false_iff_not, List.all_eq_true] at this
        exact ⟨by omega, this.2⟩
    · omega
theorem count_cons (p : List RelC) (r : RuleC) : ruleCount (p :: r) = p.length + ruleCount r := by simp [ruleCount]
theorem count_append (a b : RuleC) : ruleCount (a ++ b) = ruleCount a + ruleCount b := by simp [ruleCount]
theorem count_take_succ (r : RuleC) (k : Nat) (p : List RelC) (h : r[k]? = some p) : ruleCount (r.take (k + 1)) = ruleCount (r.take k) + p.length := by
  rw [List.take_add_one, h, count_append]
  simp [ruleCount]
theorem count_take_le (r : RuleC) (k : Nat) : ruleCount (r.take k) ≤ ruleCount r := by
  have h := congrArg ruleCount (List.take_append_drop k r)
  rw [count_append] at h
  omega
end Go.Proofs.YtkklemhhimcahaaGreatDoor

/- The plain numbers of package dec: powers of ten, rounding. No program stands here. -/
namespace Go.Proofs.YtkklemhhimcahaaGreatDoor

def decOk (c s : Int) : Prop := 0 ≤ s ∧ s ≤ 9 ∧ -1000000000000000 ≤ c ∧ c ≤ 1000000000000000

def ten (n : Nat) : Int := 10 ^ n
theorem ten_succ (n : Nat) : ten (n + 1) = ten n * 10 := Int.pow_succ 10 n
theorem ten_bd (n : Nat) (h : n ≤ 18) : 1 ≤ ten n ∧ ten n ≤ 1000000000000000000 := by
  have : ∀ n, n ≤ 18 → 1 ≤ ten n ∧ ten n ≤ 1000000000000000000 := by unfold ten; decide +kernel
  exact this n h

theorem ten_bd9 (n : Nat) (h : n ≤ 9) : 1 ≤ ten n ∧ ten n ≤ 1000000000 := by
  have : ∀ n, n ≤ 9 → 1 ≤ ten n ∧ ten n ≤ 1000000000 := by unfold ten; decide +kernel
  exact this n h

theorem emod_le_self {a b : Int} (h : 0 ≤ a) : a % b ≤ a := by
  obtain ⟨n, rfl⟩ := Int.eq_ofNat_of_zero_le h
  rcases Int.natAbs_eq b with hb | hb <;> rw [hb]
  · have := Nat.mod_le n b.natAbs; exact_mod_cast this
  · rw [Int.emod_neg]; have := Nat.mod_le n b.natAbs; exact_mod_cast this

def nearB (way whole rest unit sign : Int) : Bool :=
  if way = 2 then decide (0 < rest) && decide (sign < 0)
  else if way = 3 then decide (0 < rest) && decide (0 < sign)
  else if way = 4 then decide (unit ≤ 2 * rest)
  else if way = 5 then decide (unit < 2 * rest) || ((2 * rest == unit) && (whole % 2 == 1))
  else false

def rnd (c s scale way : Int) : Int :=
  if s ≤ scale then c * ten (scale - s).toNat
  else if c < 0 then (-1) * ((-c) / ten (s - scale).toNat + if nearB way ((-c) / ten (s - scale).toNat) ((-c) % ten (s - scale).toNat) (ten (s - scale).toNat) (-1) then 1 else 0)
  else 1 * (c / ten (s - scale).toNat + if nearB way (c / ten (s - scale).toNat) (c % ten (s - scale).toNat) (ten (s - scale).toNat) 1 then 1 else 0)
def rndOk (c s scale way : Int) : Prop := decOk c s ∧ 0 ≤ scale ∧ scale ≤ 9 ∧ 1 ≤ way ∧ way ≤ 5 ∧ (s ≤ scale → -1000000000000000 ≤ c * ten (scale - s).toNat ∧ c * ten (scale - s).toNat ≤ 1000000000000000)

theorem dec_wide_parts (p : Int) (h : 0 ≤ p) : (p ≤ 1000000000000000 → p / 18446744073709551616 = 0 ∧ p % 18446744073709551616 = p ∧ 0 ≤ p) ∧ (1000000000000000 < p → (0 < p / 18446744073709551616 ∨ 1000000000000000 < p % 18446744073709551616) ∧ 0 ≤ p / 18446744073709551616 ∧ 0 ≤ p % 18446744073709551616) := by
  omega

theorem tdiv_facts (x u : Int) (hu : 1 ≤ u) (h1 : -1000000000000000 ≤ x) (h2 : x ≤ 1000000000000000) :
    -1000000000000000 ≤ x.tdiv u ∧ x.tdiv u ≤ 1000000000000000 ∧ -1000000000000000 ≤ x.tmod u ∧ x.tmod u ≤ 1000000000000000 ∧ x.tdiv u * u + x.tmod u = x ∧ x.tmod u < u ∧ -u < x.tmod u := by
  have e : x.tdiv u * u + x.tmod u = x := by rw [Int.mul_comm]; exact Int.mul_tdiv_add_tmod x u
  rcases Int.le_total 0 x with h | h
  · rw [Int.tdiv_eq_ediv_of_nonneg h, Int.tmod_eq_emod_of_nonneg h] at *
    have a := Int.ediv_le_self u h
    have b := Int.ediv_nonneg h (by omega : 0 ≤ u)
    have c := Int.emod_nonneg x (by omega : u ≠ 0)
    have d := Int.emod_lt_of_pos x (by omega : 0 < u)
    have f := emod_le_self (b := u) h
    omega
  · obtain ⟨y, rfl⟩ : ∃ y, x = -y := ⟨-x, by omega⟩
    rw [Int.neg_tdiv, Int.neg_tmod, Int.tdiv_eq_ediv_of_nonneg (by omega), Int.tmod_eq_emod_of_nonneg (by omega)] at *
    have a := Int.ediv_le_self u (by omega : 0 ≤ y)
    have b := Int.ediv_nonneg (by omega : 0 ≤ y) (by omega : 0 ≤ u)
    have c := Int.emod_nonneg y (by omega : u ≠ 0)
    have d := Int.emod_lt_of_pos y (by omega : 0 < u)
    have f := emod_le_self (b := u) (by omega : 0 ≤ y)
    omega

theorem add_v (c1 c2 u : Int) (h : c2.tdiv u * u + c2.tmod u = c2) : (c1 + c2.tdiv u) * u + c2.tmod u = c1 * u + c2 := by
  rw [Int.add_mul]; omega

theorem add_bound (m r u : Int) (hu : 1 ≤ u) (hu2 : u ≤ 1000000000) (r1 : -1000000000000000 ≤ r) (r2 : r ≤ 1000000000000000) :
    0 ≤ 2000000000000000 / u ∧ 2000000000000000 / u ≤ 2000000000000000 ∧ (2000000000000000 / u + 1 < m → 1000000000000000 < m * u + r) ∧ (m < -(2000000000000000 / u) - 1 → m * u + r < -1000000000000000) ∧
    (m ≤ 2000000000000000 / u + 1 → m * u ≤ 2001000000000000) ∧ (-(2000000000000000 / u) - 1 ≤ m → -2001000000000000 ≤ m * u) := by
  have k0 : 0 ≤ 2000000000000000 / u := Int.ediv_nonneg (by omega) (by omega)
  have k1 : 2000000000000000 / u ≤ 2000000000000000 := Int.ediv_le_self _ (by omega)
  have k2 := Int.ediv_mul_le 2000000000000000 (by omega : u ≠ 0)
  have k3 := Int.lt_ediv_add_one_mul_self 2000000000000000 (by omega : 0 < u)
  generalize 2000000000000000 / u = k at *
  have e1 : (k + 1) * u = k * u + u := by rw [Int.add_mul]; omega
  refine ⟨k0, k1, fun h => ?_, fun h => ?_, fun h => ?_, fun h => ?_⟩
  · have := Int.mul_le_mul_of_nonneg_right (show k + 1 ≤ m by omega) (show 0 ≤ u by omega); omega
  · have := Int.mul_le_mul_of_nonneg_right (show m ≤ -(k + 1) by omega) (show 0 ≤ u by omega); rw [Int.neg_mul] at this; omega
  · have := Int.mul_le_mul_of_nonneg_right (show m ≤ k + 1 by omega) (show 0 ≤ u by omega); omega
  · have := Int.mul_le_mul_of_nonneg_right (show -(k + 1) ≤ m by omega) (show 0 ≤ u by omega); rw [Int.neg_mul] at this; omega

theorem ten_add (a b : Nat) : ten (a + b) = ten a * ten b := Int.pow_add 10 a b

/-- Rounding down, to the lesser, to the greater one, as divisions. -/
def rr (c u way : Int) : Int := if way = 1 then c.tdiv u else if way = 2 then c / u else -((-c) / u)

theorem neg_ediv_of (m u : Int) (hu : 1 ≤ u) : -m / u = -(m / u + if 0 < m % u then 1 else 0) := by
  have e := Int.mul_ediv_add_emod m u
  have h1 := Int.emod_nonneg m (by omega : u ≠ 0)
  have h2 := Int.emod_lt_of_pos m (by omega : 0 < u)
  generalize m / u = q at *
  generalize m % u = r at *
  subst e
  split
  · rename_i hr
    have : -(u * q + r) = (u - r) + u * (-(q + 1)) := by rw [Int.mul_neg, Int.mul_add]; omega
    rw [this, Int.add_mul_ediv_left _ _ (by omega), Int.ediv_eq_zero_of_lt (by omega) (by omega)]
    omega
  · have : r = 0 := by omega
    subst this
    have : -(u * q + 0) = 0 + u * (-q) := by rw [Int.mul_neg]; omega
    rw [this, Int.add_mul_ediv_left _ _ (by omega)]
    simp

theorem rnd_rr (c s scale way : Int) (hs : scale < s) (h9 : s - scale ≤ 9) (hw : 1 ≤ way) (hw3 : way ≤ 3) : rnd c s scale way = rr c (ten (s - scale).toNat) way := by
  have hu := ten_bd9 (s - scale).toNat (by omega)
  unfold rnd
  rw [if_neg (by omega)]
  generalize ten (s - scale).toNat = u at *
  have hw' : way = 1 ∨ way = 2 ∨ way = 3 := by omega
  by_cases hc : c < 0
  · rw [if_pos hc]
    obtain ⟨m, rfl⟩ : ∃ m, c = -m := ⟨-c, by omega⟩
    rw [Int.neg_neg]
    rcases hw' with rfl | rfl | rfl
    · simp [nearB, rr, Int.neg_tdiv, Int.tdiv_eq_ediv_of_nonneg (by omega : 0 ≤ m)]
    · simp only [nearB, rr]
      rw [neg_ediv_of m u hu.1]
      simp
    · simp [nearB, rr]
  · rw [if_neg hc]
    rcases hw' with rfl | rfl | rfl
    · simp [nearB, rr, Int.tdiv_eq_ediv_of_nonneg (by omega : 0 ≤ c)]
    · simp [nearB, rr]
    · simp only [nearB, rr]
      rw [neg_ediv_of c u hu.1]
      simp

theorem rr_mul (c a u way : Int) (ha : 1 ≤ a) : rr (c * a) (u * a) way = rr c u way := by
  unfold rr
  split
  · exact Int.mul_tdiv_mul_of_pos_left c u (by omega)
  · split
    · exact Int.mul_ediv_mul_of_pos_left c u (by omega)
    · rw [← Int.neg_mul, Int.mul_ediv_mul_of_pos_left (-c) u (by omega)]

theorem rr_exact (c a way : Int) (ha : 1 ≤ a) : rr (c * a) a way = c := by
  unfold rr
  split
  · exact Int.mul_tdiv_cancel c (by omega)
  · split
    · exact Int.mul_ediv_cancel c (by omega)
    · rw [← Int.neg_mul, Int.mul_ediv_cancel _ (by omega), Int.neg_neg]

theorem tdiv_tdiv (c a b : Int) (ha : 1 ≤ a) (hb : 1 ≤ b) : (c.tdiv a).tdiv b = c.tdiv (a * b) := by
  have key : ∀ m : Int, 0 ≤ m → (m.tdiv a).tdiv b = m.tdiv (a * b) := by
    intro m hm
    have h1 : 0 ≤ m / a := Int.ediv_nonneg hm (by omega)
    rw [Int.tdiv_eq_ediv_of_nonneg hm, Int.tdiv_eq_ediv_of_nonneg h1, Int.tdiv_eq_ediv_of_nonneg hm, Int.ediv_ediv_of_nonneg (by omega)]
  rcases Int.le_total 0 c with h | h
  · exact key c h
  · obtain ⟨m, rfl⟩ : ∃ m, c = -m := ⟨-c, by omega⟩
    rw [Int.neg_tdiv, Int.neg_tdiv, Int.neg_tdiv, key m (by omega)]

theorem rr_rr (c a b way : Int) (ha : 1 ≤ a) (hb : 1 ≤ b) : rr (rr c a way) b way = rr c (a * b) way := by
  unfold rr
  split
  · exact tdiv_tdiv c a b ha hb
  · split
    · exact Int.ediv_ediv_of_nonneg (by omega)
    · rw [Int.neg_neg, Int.ediv_ediv_of_nonneg (by omega)]

theorem rr_bd (c u way : Int) (hu : 1 ≤ u) (h1 : -1000000000000000 ≤ c) (h2 : c ≤ 1000000000000000) : -1000000000000000 ≤ rr c u way ∧ rr c u way ≤ 1000000000000000 := by
  have key : ∀ m : Int, -1000000000000000 ≤ m → m ≤ 1000000000000000 → -1000000000000000 ≤ m / u ∧ m / u ≤ 1000000000000000 := by
    intro m a b
    constructor
    · exact Int.le_ediv_of_mul_le (by omega) (by have := Int.mul_le_mul_of_nonpos_left (show (-1000000000000000 : Int) ≤ 0 by omega) hu; omega)
    · rcases Int.le_total 0 m with h | h
      · have := Int.ediv_le_self u h; omega
      · have : m / u < 1 := Int.ediv_lt_of_lt_mul (by omega) (by omega)
        omega
  unfold rr
  split
  · have := tdiv_facts c u hu h1 h2; omega
  · split
    · exact key c h1 h2
    · have := key (-c) (by omega) (by omega); omega

/-- ONCE OR TWICE. -/
theorem twice (c s scale more way : Int) (hx : rndOk c s scale way) (hy : rndOk c s more way) (hm : scale ≤ more) (hw : way ≤ 3) :
    rndOk (rnd c s more way) more scale way ∧ rnd (rnd c s more way) more scale way = rnd c s scale way := by
  obtain ⟨⟨s0, s9, c1, c2⟩, x1, x2, w1, w5, xb⟩ := hx
  obtain ⟨_, y1, y2, _, _, yb⟩ := hy
  have yv : -1000000000000000 ≤ rnd c s more way ∧ rnd c s more way ≤ 1000000000000000 := by
    by_cases h : s ≤ more
    · have e : rnd c s more way = c * ten (more - s).toNat := by unfold rnd; rw [if_pos h]
      rw [e]; exact yb h
    · rw [rnd_rr c s more way (by omega) (by omega) w1 hw]
      exact rr_bd _ _ _ (ten_bd9 _ (by omega)).1 c1 c2
  have t0 : ten 0 = 1 := rfl
  refine ⟨⟨⟨y1, y2, yv.1, yv.2⟩, x1, x2, w1, w5, fun h => ?_⟩, ?_⟩
  · obtain rfl : scale = more := by omega
    simpa [t0] using yv
  · by_cases e : scale = more
    · subst e
      have : ∀ y : Int, rnd y scale scale way = y := by intro y; unfold rnd; simp [t0]
      rw [this]
    · rw [rnd_rr _ more scale way (by omega) (by omega) w1 hw]
      by_cases h : s ≤ more
      · have ey : rnd c s more way = c * ten (more - s).toNat := by unfold rnd; rw [if_pos h]
        rw [ey]
        by_cases h' : s ≤ scale
        · have ez : rnd c s scale way = c * ten (scale - s).toNat := by unfold rnd; rw [if_pos h']
          rw [ez, show (more - s).toNat = (scale - s).toNat + (more - scale).toNat by omega, ten_add, ← Int.mul_assoc]
          exact rr_exact _ _ _ (ten_bd9 _ (by omega)).1
        · rw [rnd_rr c s scale way (by omega) (by omega) w1 hw, show (more - scale).toNat = (s - scale).toNat + (more - s).toNat by omega, ten_add]
          exact rr_mul _ _ _ _ (ten_bd9 _ (by omega)).1
      · rw [rnd_rr c s more way (by omega) (by omega) w1 hw, rnd_rr c s scale way (by omega) (by omega) w1 hw, rr_rr _ _ _ _ (ten_bd9 _ (by omega)).1 (ten_bd9 _ (by omega)).1, ← ten_add]
        congr 2
        omega

end Go.Proofs.YtkklemhhimcahaaGreatDoor

/- What rules ask of a number, as plain data. No program stands here. -/
namespace Go.Proofs.YtkklemhhimcahaaGreatDoor
open Go

/-- without the noughts at the end, of so many digits -/
def strip : Nat → Int → Nat × Int
  | 0, t => (0, t)
  | n + 1, t => if t % 10 = 0 then strip n (t / 10) else (n + 1, t)
theorem strip_zero {t : Int} : strip 0 t = (0, t) := rfl
theorem strip_go {n : Nat} {t : Int} (h : t % 10 = 0) : strip (n + 1) t = strip n (t / 10) := by rw [strip, if_pos h]
theorem strip_end {n : Nat} {t : Int} (h : ¬ t % 10 = 0) : strip (n + 1) t = (n + 1, t) := by rw [strip, if_neg h]
theorem strip_ten (n : Nat) (t : Int) : strip (n + 1) (t * 10) = strip n t := by
  rw [strip_go (by omega)]
  congr 1
  omega
theorem strip_nz (n : Nat) : ∀ t : Int, t ≠ 0 → (strip n t).2 ≠ 0 := by
  induction n with
  | zero => intro t h; exact h
  | succ n ih =>
    intro t h
    by_cases h0 : t % 10 = 0
    · rw [strip_go h0]; exact ih _ (by omega)
    · rw [strip_end h0]; exact h
theorem strip_le (n : Nat) : ∀ t : Int, 0 ≤ t → (strip n t).1 ≤ n ∧ 0 ≤ (strip n t).2 ∧ (strip n t).2 ≤ t := by
  induction n with
  | zero => intro t h; exact ⟨Nat.le_refl _, h, Int.le_refl _⟩
  | succ n ih =>
    intro t h
    by_cases h0 : t % 10 = 0
    · rw [strip_go h0]; have := ih (t / 10) (by omega); omega
    · rw [strip_end h0]; exact ⟨Nat.le_refl _, h, Int.le_refl _⟩

def absI (c : Int) : Int := if c < 0 then -c else c
def opsC (c : Int) (s : Nat) : OpsC := ⟨absI c / ten s, s, (strip s (absI c % ten s)).1, absI c % ten s, (strip s (absI c % ten s)).2⟩
end Go.Proofs.YtkklemhhimcahaaGreatDoor

/- The digits of a number: which signs they are; what Cut and CutPrefix tell of them. No program stands here. -/
namespace Go.Proofs.YtkklemhhimcahaaGreatDoor
open Go

theorem dd_signs : ∀ (k m : Nat), m ≤ k → ∀ x ∈ Lib.decDigits m, 48 ≤ x.toNat ∧ x.toNat ≤ 57 := by
  intro k
  induction k with
  | zero =>
    intro m h x hx
    obtain rfl : m = 0 := by omega
    rw [Lib.decDigits, dif_pos (by omega)] at hx
    simp at hx
    subst hx
    decide
  | succ k ih =>
    intro m h x hx
    rw [Lib.decDigits] at hx
    split at hx
    · simp only [List.mem_singleton] at hx
      subst hx
      simp
      omega
    · rcases List.mem_append.1 hx with h1 | h1
      · exact ih (m / 10) (by omega) x h1
      · simp only [List.mem_singleton] at h1
        subst h1
        simp
        omega
theorem dd_not (m : Nat) (c : UInt8) (h : ¬ (48 ≤ c.toNat ∧ c.toNat ≤ 57)) : c ∉ Lib.decDigits m := fun hc => h (dd_signs m m (Nat.le_refl _) c hc)
theorem dd_one (m : Nat) : 1 ≤ (Lib.decDigits m).length := by
  rw [Lib.decDigits]
  split <;> simp

theorem indexByte_none : ∀ (l : List UInt8) (c : UInt8), c ∉ l → Lib.indexByte l c = -1
  | [], _, _ => rfl
  | b :: l, c, h => by
    have h1 : (b == c) = false := by
      rw [beq_eq_false_iff_ne]
      intro e
      exact h (by simp [e])
    have h2 := indexByte_none l c (fun hc => h (List.mem_cons_of_mem _ hc))
    rw [Lib.indexByte, h1, h2]
    rfl
theorem cut_none (l : List UInt8) (c : UInt8) (h : c ∉ l) : Lib.cut l [c] = (l, [], false) := by
  unfold Lib.cut
  rw [Lib.index_one, indexByte_none l c h]
  rfl

theorem itoa_neg' (n : Int) (h : n < 0) : Lib.itoa n = 45 :: Lib.decDigits n.natAbs := by unfold Lib.itoa; rw [if_pos h]
theorem itoa_pos' (n : Int) (h : ¬ n < 0) : Lib.itoa n = Lib.decDigits n.natAbs := by unfold Lib.itoa; rw [if_neg h, show n.toNat = n.natAbs by omega]
theorem itoa_cut (n : Int) : Lib.cut (Lib.itoa n) [46] = (Lib.itoa n, [], false) := by
  apply cut_none
  by_cases h : n < 0
  · rw [itoa_neg' n h]
    intro hc
    rcases List.mem_cons.1 hc with h1 | h1
    · exact absurd h1 (by decide)
    · exact dd_not _ _ (by decide) h1
  · rw [itoa_pos' n h]
    exact dd_not _ _ (by decide)
theorem itoa_prefix (n : Int) : Lib.hasPrefix (Lib.itoa n) [45] = decide (n < 0) ∧ Lib.trimPrefix (Lib.itoa n) [45] = Lib.decDigits n.natAbs := by
  by_cases h : n < 0
  · rw [itoa_neg' n h, decide_eq_true h]
    have h1 : Lib.hasPrefix (45 :: Lib.decDigits n.natAbs) [45] = true := by simp [Lib.hasPrefix, List.isPrefixOf]
    refine ⟨h1, ?_⟩
    unfold Lib.trimPrefix
    rw [if_pos h1]
    rfl
  · rw [itoa_pos' n h, decide_eq_false h]
    have h1 : Lib.hasPrefix (Lib.decDigits n.natAbs) [45] = false := by
      cases hd : Lib.decDigits n.natAbs with
      | nil => rfl
      | cons x l =>
        have hx : (45 : UInt8) ≠ x := fun e => dd_not n.natAbs 45 (by decide) (by rw [hd, e]; simp)
        simp [Lib.hasPrefix, List.isPrefixOf, hx]
    refine ⟨h1, ?_⟩
    unfold Lib.trimPrefix
    rw [h1]
    rfl
end Go.Proofs.YtkklemhhimcahaaGreatDoor

/- The digits of a number as bytes; how many. No program stands here. -/
namespace Go.Proofs.YtkklemhhimcahaaGreatDoor
open Go

theorem decDigits_size : ∀ (k m : Nat), m < 10 ^ k → 1 ≤ k → (Lib.decDigits m).length ≤ k := by
  intro k
  induction k with
  | zero => intro m _ h; omega
  | succ k ih =>
    intro m h _
    rw [Lib.decDigits]
    split
    · simp
    · rename_i h10
      have hk : 1 ≤ k := by
        rcases Nat.eq_zero_or_pos k with rfl | h0
        · simp at h; omega
        · exact h0
      have := ih (m / 10) (by rw [Nat.pow_succ] at h; omega) hk
      rw [List.length_append]
      simp
      omega

/-- The digits of a number's size. -/
def ddB (n : Int) : ByteArray := ⟨(Lib.decDigits n.natAbs).toArray⟩
def itB (n : Int) : ByteArray := ⟨(Lib.itoa n).toArray⟩
theorem ddB_size (n : Int) (h : decOk n 0) : 1 ≤ (ddB n).size ∧ (ddB n).size ≤ 16 := by
  obtain ⟨_, _, h1, h2⟩ := h
  exact ⟨dd_one _, decDigits_size 16 _ (by omega) (by omega)⟩
theorem itB_neg (n : Int) (h : n < 0) : itB n = ⟨#[45]⟩ ++ ddB n := by
  unfold itB ddB
  rw [itoa_neg' n h]
  apply ByteArray.ext
  apply Array.ext'
  simp
theorem itB_pos (n : Int) (h : ¬ n < 0) : itB n = ⟨#[]⟩ ++ ddB n := by
  unfold itB ddB
  rw [itoa_pos' n h]
  apply ByteArray.ext
  apply Array.ext'
  simp
end Go.Proofs.YtkklemhhimcahaaGreatDoor

/- What dec.Text tells. No program stands here. -/
namespace Go.Proofs.YtkklemhhimcahaaGreatDoor
open Go

theorem bsize (b : ByteArray) : b.data.toList.length = b.size := by rw [Array.length_toList]; rfl
def signB (c : Int) : ByteArray := if c < 0 then ⟨#[45]⟩ else ⟨#[]⟩
/-- the digits, one more than those behind the point at least -/
def padB (c : Int) (s : Nat) : ByteArray := ⟨(Lib.repeatL [48] (s + 1 - (ddB c).size) ++ (ddB c).data.toList).toArray⟩
def decT (c : Int) (s : Nat) : ByteArray :=
  if s = 0 then signB c ++ ddB c else signB c ++ (padB c s).extract 0 ((padB c s).size - s) ++ ⟨#[46]⟩ ++ (padB c s).extract ((padB c s).size - s) (padB c s).size
theorem padB_size (c : Int) (s : Nat) : (padB c s).size = max (s + 1) (ddB c).size := by
  unfold padB
  show (Lib.repeatL [48] (s + 1 - (ddB c).size) ++ (ddB c).data.toList).length = _
  rw [List.length_append, Lib.repeatL_length]
  have : (ddB c).data.toList.length = (ddB c).size := bsize _
  rw [this]
  simp
  omega
theorem itB_sign (c : Int) : itB c = signB c ++ ddB c := by
  unfold signB
  split
  · exact itB_neg c (by assumption)
  · exact itB_pos c (by assumption)

/-! one nought more -/
theorem dd_ten (n : Nat) (h : n ≠ 0) : Lib.decDigits (10 * n) = Lib.decDigits n ++ [48] := by
  rw [Lib.decDigits, dif_neg (by omega), show 10 * n / 10 = n by omega, show 10 * n % 10 = 0 by omega]
  rfl
theorem rep_snoc (k : Nat) : Lib.repeatL [48] (k + 1) = Lib.repeatL [48] k ++ [48] := by
  rw [Lib.repeatL_add]
  rfl
theorem padB_ten (c : Int) (s : Nat) : padB (10 * c) (s + 1) = padB c s ++ ⟨#[48]⟩ := by
  apply ByteArray.ext
  apply Array.ext'
  have hz : Lib.decDigits 0 = [48] := by rw [Lib.decDigits]; rfl
  by_cases h : c = 0
  · subst h
    have e : ddB 0 = ⟨#[48]⟩ := by unfold ddB; rw [show (0 : Int).natAbs = 0 from rfl, hz]
    unfold padB
    rw [show (10 : Int) * 0 = 0 by omega, e]
    simp only [ByteArray.data_append, Array.toList_append]
    show Lib.repeatL [48] (s + 1 + 1 - 1) ++ [48] = Lib.repeatL [48] (s + 1 - 1) ++ [48] ++ [48]
    rw [show s + 1 + 1 - 1 = s + 1 by omega, show s + 1 - 1 = s by omega, rep_snoc]
  · have e : (ddB (10 * c)).data.toList = (ddB c).data.toList ++ [48] := by
      unfold ddB
      simp only
      rw [show (10 * c).natAbs = 10 * c.natAbs by omega, dd_ten _ (by omega)]
    have hl : (ddB (10 * c)).size = (ddB c).size + 1 := by
      have := congrArg List.length e
      rw [List.length_append, bsize, bsize] at this
      exact this
    unfold padB
    rw [hl, e]
    simp only [ByteArray.data_append, Array.toList_append]
    rw [show s + 1 + 1 - ((ddB c).size + 1) = s + 1 - (ddB c).size by omega, List.append_assoc]
theorem signB_ten (c : Int) : signB (10 * c) = signB c := by
  unfold signB
  by_cases h : c < 0
  · rw [if_pos h, if_pos (by omega)]
  · rw [if_neg h, if_neg (by omega)]
theorem padB_zero (c : Int) : padB c 0 = ddB c := by
  have h1 : 1 ≤ (ddB c).size := by
    have := dd_one c.natAbs
    rw [← bsize]
    simpa [ddB] using this
  unfold padB
  rw [show 0 + 1 - (ddB c).size = 0 by omega]
  apply ByteArray.ext
  apply Array.ext'
  simp [Lib.repeatL]
/-- one nought more behind the point -/
theorem decT_ten (c : Int) (s : Nat) : decT (10 * c) (s + 1) = (if s = 0 then decT c s ++ ⟨#[46]⟩ else decT c s) ++ ⟨#[48]⟩ := by
  have hsz := padB_size c s
  have hle : s ≤ (padB c s).size := by omega
  have e : decT (10 * c) (s + 1) = signB c ++ (padB c s).extract 0 ((padB c s).size - s) ++ ⟨#[46]⟩ ++ ((padB c s).extract ((padB c s).size - s) (padB c s).size ++ ⟨#[48]⟩) := by
    unfold decT
    rw [if_neg (by omega), padB_ten, signB_ten]
    have h1 : (padB c s ++ ⟨#[48]⟩).size = (padB c s).size + 1 := by rw [ByteArray.size_append]; rfl
    rw [h1, show (padB c s).size + 1 - (s + 1) = (padB c s).size - s by omega]
    generalize padB c s = P at *
    apply ByteArray.ext
    apply Array.ext'
    simp only [ByteArray.data_append, ByteArray.data_extract, Array.toList_append, Array.toList_extract, List.extract_eq_take_drop]
    have hP : P.data.toList.length = P.size := bsize _
    generalize P.data.toList = L at *
    rw [← hP]
    rw [← hP] at hle
    simp only [List.drop_zero, List.append_assoc, Nat.sub_zero]
    rw [List.take_append_of_le_length (by omega), List.drop_append_of_le_length (by omega)]
    congr 3
    rw [show L.length + 1 - (L.length - s) = s + 1 by omega, show L.length - (L.length - s) = s by omega, List.take_of_length_le (by simp; omega), List.take_of_length_le (by simp; omega)]
  rw [e]
  split
  · rename_i h0
    subst h0
    unfold decT
    rw [if_pos rfl, padB_zero]
    apply ByteArray.ext
    apply Array.ext'
    have hP : (ddB c).data.toList.length = (ddB c).size := bsize _
    simp only [ByteArray.data_append, ByteArray.data_extract, Array.toList_append, Array.toList_extract, List.extract_eq_take_drop, Nat.sub_zero, List.drop_zero]
    rw [List.take_of_length_le (by omega), List.drop_of_length_le (by omega)]
    simp
  · rename_i h0
    unfold decT
    rw [if_neg h0]
    apply ByteArray.ext
    apply Array.ext'
    simp only [ByteArray.data_append, Array.toList_append, List.append_assoc]
theorem decT_size (c : Int) (s : Nat) (h : decOk c s) : (decT c s).size ≤ 100 := by
  obtain ⟨h1, h2, h3, h4⟩ := h
  have hd := ddB_size c ⟨by omega, by omega, h3, h4⟩
  have hp := padB_size c s
  have hs : (signB c).size ≤ 1 := by unfold signB; split <;> decide
  unfold decT
  split
  · rw [ByteArray.size_append]; omega
  · rw [ByteArray.size_append, ByteArray.size_append, ByteArray.size_append, ByteArray.size_extract, ByteArray.size_extract]
    have : (⟨#[46]⟩ : ByteArray).size = 1 := rfl
    omega
end Go.Proofs.YtkklemhhimcahaaGreatDoor
