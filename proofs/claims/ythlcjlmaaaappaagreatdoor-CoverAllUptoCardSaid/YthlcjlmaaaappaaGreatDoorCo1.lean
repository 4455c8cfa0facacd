/- Base, MaxL, OnlyPlain, DecPlain, Off, Err: texts put together. -/
import Derived.WalkKit
import Derived.WalkSpells
import Derived.Lib.Hide
import Derived.Deep.QuietTactic
import Derived.BigQuiet
set_option linter.unusedVariables false
set_option linter.unusedSimpArgs false
/- Small lemmas that all walks of this seat use: what 'Below' gives of old cells. No program stands here. -/
namespace Go.Proofs.YthlcjlmaaaappaaGreatDoor
open Go.RowKit

theorem bcell {W w1 : World} (hb : Below W.heap.size W w1) : (∀ b o, b < W.heap.size → w1.cell? ⟨b, o, none⟩ = W.cell? ⟨b, o, none⟩) ∧ (∀ b o, b < W.heap.size → w1.frozen? ⟨b, o, none⟩ = W.frozen? ⟨b, o, none⟩) :=
  ⟨fun b o h => hb.cell (p := ⟨b, o, none⟩) h, fun b o h => hb.frozen (p := ⟨b, o, none⟩) h⟩

theorem ret_int {k : IntKind} {a b : Int} (h : a = b) : Ending.returned (.int k a) = .returned (.int k b) := by rw [h]
theorem ret_bool {a b : Bool} (h : a = b) : Ending.returned (.bool a) = .returned (.bool b) := by rw [h]

theorem bel_set {B : Nat} {a w : World} {p : Addr} {u : Value} (k : Below B a w) (h : B ≤ p.block) : Below B a (w.setCell p u) := k.setCell h u
theorem bel_alloc {B : Nat} {a w : World} {o : Obj} (k : Below B a w) (h : B ≤ w.heap.size) : Below B a (w.alloc o) := k.alloc h o
theorem bel_call {B C : Nat} {a w w1 : World} (k : Below B a w) (hb : Below C w w1) (h : B ≤ C) : Below B a w1 := k.trans (hb.mono h)
theorem bel_drewN {B : Nat} {a w : World} (n : Nat) (k : Below B a w) : Below B a (w.drewN n) := ⟨k.os, k.tape, k.output, k.size, k.block⟩

/-- A cell that was there is there behind a call. -/
theorem carry {W w1 : World} {b o : Nat} {v : Value} (hb : Below W.heap.size W w1) (h : W.cell? ⟨b, o, none⟩ = some v) : w1.cell? ⟨b, o, none⟩ = some v := by
  rcases Nat.lt_or_ge b W.heap.size with hlt | hge
  · rw [hb.cell (p := ⟨b, o, none⟩) hlt]; exact h
  · exfalso
    simp [World.cell?, Array.getElem?_eq_none hge] at h
theorem carryF {W w1 : World} {b o : Nat} {c : Bool} (hb : Below W.heap.size W w1) (hlt : b < W.heap.size) (h : W.frozen? ⟨b, o, none⟩ = c) : w1.frozen? ⟨b, o, none⟩ = c := by
  rw [hb.frozen (p := ⟨b, o, none⟩) hlt]; exact h

theorem lt_of_cell {w : World} {b o : Nat} {v : Value} (h : w.cell? ⟨b, o, none⟩ = some v) : b < w.heap.size := by
  rcases Nat.lt_or_ge b w.heap.size with hlt | hge
  · exact hlt
  · exfalso
    simp [World.cell?, Array.getElem?_eq_none hge] at h

theorem Calls.quiet_left {P : Program} {f : FuncId} {args : Array Value} {w : World} {n : Nat} {v : Value}
    (h : Calls P f args (w.drewN n) fun e w' => e = .returned v ∧ w.drewN n = w') : Calls P f args (w.drewN n) fun e w'' => e = .returned v ∧ ∃ m, w'' = w.drewN m :=
  h.mono fun _ _ ⟨he, hm⟩ => ⟨he, n, hm.symm⟩
theorem Calls.quiet_add_left {P : Program} {f : FuncId} {args : Array Value} {w : World} {a n : Nat} {v : Value}
    (h : Calls P f args (w.drewN (a + n)) fun e w' => e = .returned v ∧ w.drewN (a + n) = w') :
    Calls P f args (w.drewN (a + n)) fun e w'' => e = .returned v ∧ ∃ m, w'' = w.drewN (a + m) :=
  h.mono fun _ _ ⟨he, hm⟩ => ⟨he, n, hm.symm⟩

end Go.Proofs.YthlcjlmaaaappaaGreatDoor

/- The library's bytealg.MaxLen. -/
namespace Go.Proofs.YthlcjlmaaaappaaGreatDoor
open Go.RowKit

def MaxL (w : World) : Prop := ∃ m : Int, w.cell? ⟨5, 0, none⟩ = some (.int .i64 m)
theorem MaxL.below {w w' : World} (h : MaxL w) (hb : Below w.heap.size w w') : MaxL w' := by
  obtain ⟨m, hm⟩ := h
  exact ⟨m, carry hb hm⟩
end Go.Proofs.YthlcjlmaaaappaaGreatDoor

/- R.Only, R.In on lists of bytes. No program stands here. -/
namespace Go.Proofs.YthlcjlmaaaappaaGreatDoor

def onlyB (s of : List UInt8) (a b : Int) : Bool := s.all (of.contains ·) && decide (a ≤ s.length) && decide ((s.length : Int) ≤ b)

theorem contains_take_succ (l : List UInt8) (c : UInt8) (j : Nat) (h : j < l.length) : (l.take (j + 1)).contains c = ((l.take j).contains c || c == l[j]) := by
  rw [List.take_succ_eq_append_getElem h, Bool.eq_iff_iff]
  simp only [List.contains_iff_mem, Bool.or_eq_true, List.mem_append, List.mem_singleton, beq_iff_eq]
theorem allp_take_succ (l : List UInt8) (p : UInt8 → Bool) (k : Nat) (h : k < l.length) : (l.take (k + 1)).all p = ((l.take k).all p && p l[k]) := by
  rw [List.take_succ_eq_append_getElem h, List.all_append]
  simp
theorem allp_false_of (l : List UInt8) (p : UInt8 → Bool) (k : Nat) (h : k < l.length) (hp : p l[k] = false) : l.all p = false := by
  rw [List.all_eq_false]
  exact ⟨l[k], List.getElem_mem h, by simp [hp]⟩

end Go.Proofs.YthlcjlmaaaappaaGreatDoor

/- The plain numbers of package dec: powers of ten, rounding. No program stands here. -/
namespace Go.Proofs.YthlcjlmaaaappaaGreatDoor

def decOk (c s : Int) : Prop := 0 ≤ s ∧ s ≤ 9 ∧ -1000000000000000 ≤ c ∧ c ≤ 1000000000000000

def ten (n : Nat) : Int := 10 ^ n
theorem ten_succ (n : Nat) : ten (n + 1) = ten n * 10 := Int.pow_succ 10 n
theorem ten_bd (n : Nat) (h : n ≤ 18) : 1 ≤ ten n ∧ ten n ≤ 1000000000000000000 := by
  have : ∀ n, n ≤ 18 → 1 ≤ ten n ∧ ten n ≤ 1000000000000000000 := by unfold ten; decide +kernel
  exact this n h

theorem ten_bd9 (n : Nat) (h : n ≤ 9) : 1 ≤ ten n ∧ ten n ≤ 1000000000 := by
  have : ∀ n, n ≤ 9 → 1 ≤ ten n ∧ ten n ≤ 1000000000 := by unfold ten; decide +kernel
  exact this n h

theorem emod_le_self {a b : Int} (h : 0 ≤ a) : a % b ≤ a := by
  obtain ⟨n, rfl⟩ := Int.eq_ofNat_of_zero_le h
  rcases Int.natAbs_eq b with hb | hb <;> rw [hb]
  · have := Nat.mod_le n b.natAbs; exact_mod_cast this
  · rw [Int.emod_neg]; have := Nat.mod_le n b.natAbs; exact_mod_cast this

def nearB (way whole rest unit sign : Int) : Bool :=
  if way = 2 then decide (0 < rest) && decide (sign < 0)
  else if way = 3 then decide (0 < rest) && decide (0 < sign)
  else if way = 4 then decide (unit ≤ 2 * rest)
  else if way = 5 then decide (unit < 2 * rest) || ((2 * rest == unit) && (whole % 2 == 1))
  else false

def rnd (c s scale way : Int) : Int :=
  if s ≤ scale then c * ten (scale - s).toNat
  else if c < 0 then (-1) * ((-c) / ten (s - scale).toNat + if nearB way ((-c) / ten (s - scale).toNat) ((-c) % ten (s - scale).toNat) (ten (s - scale).toNat) (-1) then 1 else 0)
  else 1 * (c / ten (s - scale).toNat + if nearB way (c / ten (s - scale).toNat) (c % ten (s - scale).toNat) (ten (s - scale).toNat) 1 then 1 else 0)
def rndOk (c s scale way : Int) : Prop := decOk c s ∧ 0 ≤ scale ∧ scale ≤ 9 ∧ 1 ≤ way ∧ way ≤ 5 ∧ (s ≤ scale → -1000000000000000 ≤ c * ten (scale - s).toNat ∧ c * ten (scale - s).toNat ≤ 1000000000000000)

theorem dec_wide_parts (p : Int) (h : 0 ≤ p) : (p ≤ 1000000000000000 → p / 18446744073709551616 = 0 ∧ p % 18446744073709551616 = p ∧ 0 ≤ p) ∧ (1000000000000000 < p → (0 < p / 18446744073709551616 ∨ 1000000000000000 < p % 18446744073709551616) ∧ 0 ≤ p / 18446744073709551616 ∧ 0 ≤ p % 18446744073709551616) := by
  omega

theorem tdiv_facts (x u : Int) (hu : 1 ≤ u) (h1 : -1000000000000000 ≤ x) (h2 : x ≤ 1000000000000000) :
    -1000000000000000 ≤ x.tdiv u ∧ x.tdiv u ≤ 1000000000000000 ∧ -1000000000000000 ≤ x.tmod u ∧ x.tmod u ≤ 1000000000000000 ∧ x.tdiv u * u + x.tmod u = x ∧ x.tmod u < u ∧ -u < x.tmod u := by
  have e : x.tdiv u * u + x.tmod u = x := by rw [Int.mul_comm]; exact Int.mul_tdiv_add_tmod x u
  rcases Int.le_total 0 x with h | h
  · rw [Int.tdiv_eq_ediv_of_nonneg h, Int.tmod_eq_emod_of_nonneg h] at *
    have a := Int.ediv_le_self u h
    have b := Int.ediv_nonneg h (by omega : 0 ≤ u)
    have c := Int.emod_nonneg x (by omega : u ≠ 0)
    have d := Int.emod_lt_of_pos x (by omega : 0 < u)
    have f := emod_le_self (b := u) h
    omega
  · obtain ⟨y, rfl⟩ : ∃ y, x = -y := ⟨-x, by omega⟩
    rw [Int.neg_tdiv, Int.neg_tmod, Int.tdiv_eq_ediv_of_nonneg (by omega), Int.tmod_eq_emod_of_nonneg (by omega)] at *
    have a := Int.ediv_le_self u (by omega : 0 ≤ y)
    have b := Int.ediv_nonneg (by omega : 0 ≤ y) (by omega : 0 ≤ u)
    have c := Int.emod_nonneg y (by omega : u ≠ 0)
    have d := Int.emod_lt_of_pos y (by omega : 0 < u)
    have f := emod_le_self (b := u) (by omega : 0 ≤ y)
    omega

theorem add_v (c1 c2 u : Int) (h : c2.tdiv u * u + c2.tmod u = c2) : (c1 + c2.tdiv u) * u + c2.tmod u = c1 * u + c2 := by
  rw [Int.add_mul]; omega

theorem add_bound (m r u : Int) (hu : 1 ≤ u) (hu2 : u ≤ 1000000000) (r1 : -1000000000000000 ≤ r) (r2 : r ≤ 1000000000000000) :
    0 ≤ 2000000000000000 / u ∧ 2000000000000000 / u ≤ 2000000000000000 ∧ (2000000000000000 / u + 1 < m → 1000000000000000 < m * u + r) ∧ (m < -(2000000000000000 / u) - 1 → m * u + r < -1000000000000000) ∧
    (m ≤ 2000000000000000 / u + 1 → m * u ≤ 2001000000000000) ∧ (-(2000000000000000 / u) - 1 ≤ m → -2001000000000000 ≤ m * u) := by
  have k0 : 0 ≤ 2000000000000000 / u := Int.ediv_nonneg (by omega) (by omega)
  have k1 : 2000000000000000 / u ≤ 2000000000000000 := Int.ediv_le_self _ (by omega)
  have k2 := Int.ediv_mul_le 2000000000000000 (by omega : u ≠ 0)
  have k3 := Int.lt_ediv_add_one_mul_self 2000000000000000 (by omega : 0 < u)
  generalize 2000000000000000 / u = k at *
  have e1 : (k + 1) * u = k * u + u := by rw [Int.add_mul]; omega
  refine ⟨k0, k1, fun h => ?_, fun h => ?_, fun h => ?_, fun h => ?_⟩
  · have := Int.mul_le_mul_of_nonneg_right (show k + 1 ≤ m by omega) (show 0 ≤ u by omega); omega
  · have := Int.mul_le_mul_of_nonneg_right (show m ≤ -(k + 1) by omega) (show 0 ≤ u by omega); rw [Int.neg_mul] at this; omega
  · have := Int.mul_le_mul_of_nonneg_right (show m ≤ k + 1 by omega) (show 0 ≤ u by omega); omega
  · have := Int.mul_le_mul_of_nonneg_right (show -(k + 1) ≤ m by omega) (show 0 ≤ u by omega); rw [Int.neg_mul] at this; omega

theorem ten_add (a b : Nat) : ten (a + b) = ten a * ten b := Int.pow_add 10 a b

/-- Rounding down, to the lesser, to the greater one, as divisions. -/
def rr (c u way : Int) : Int := if way = 1 then c.tdiv u else if way = 2 then c / u else -((-c) / u)

theorem neg_ediv_of (m u : Int) (hu : 1 ≤ u) : -m / u = -(m / u + if 0 < m % u then 1 else 0) := by
  have e := Int.mul_ediv_add_emod m u
  have h1 := Int.emod_nonneg m (by omega : u ≠ 0)
  have h2 := Int.emod_lt_of_pos m (by omega : 0 < u)
  generalize m / u = q at *
  generalize m % u = r at *
  subst e
  split
  · rename_i hr
    have : -(u * q + r) = (u - r) + u * (-(q + 1)) := by rw [Int.mul_neg, Int.mul_add]; omega
    rw [this, Int.add_mul_ediv_left _ _ (by omega), Int.ediv_eq_zero_of_lt (by omega) (by omega)]
    omega
  · have : r = 0 := by omega
    subst this
    have : -(u * q + 0) = 0 + u * (-q) := by rw [Int.mul_neg]; omega
    rw [this, Int.add_mul_ediv_left _ _ (by omega)]
    simp

theorem rnd_rr (c s scale way : Int) (hs : scale < s) (h9 : s - scale ≤ 9) (hw : 1 ≤ way) (hw3 : way ≤ 3) : rnd c s scale way = rr c (ten (s - scale).toNat) way := by
  have hu := ten_bd9 (s - scale).toNat (by omega)
  unfold rnd
  rw [if_neg (by omega)]
  generalize ten (s - scale).toNat = u at *
  have hw' : way = 1 ∨ way = 2 ∨ way = 3 := by omega
  by_cases hc : c < 0
  · rw [if_pos hc]
    obtain ⟨m, rfl⟩ : ∃ m, c = -m := ⟨-c, by omega⟩
    rw [Int.neg_neg]
    rcases hw' with rfl | rfl | rfl
    · simp [nearB, rr, Int.neg_tdiv, Int.tdiv_eq_ediv_of_nonneg (by omega : 0 ≤ m)]
    · simp only [nearB, rr]
      rw [neg_ediv_of m u hu.1]
      simp
    · simp [nearB, rr]
  · rw [if_neg hc]
    rcases hw' with rfl | rfl | rfl
    · simp [nearB, rr, Int.tdiv_eq_ediv_of_nonneg (by omega : 0 ≤ c)]
    · simp [nearB, rr]
    · simp only [nearB, rr]
      rw [neg_ediv_of c u hu.1]
      simp

theorem rr_mul (c a u way : Int) (ha : 1 ≤ a) : rr (c * a) (u * a) way = rr c u way := by
  unfold rr
  split
  · exact Int.mul_tdiv_mul_of_pos_left c u (by omega)
  · split
    · exact Int.mul_ediv_mul_of_pos_left c u (by omega)
    · rw [← Int.neg_mul, Int.mul_ediv_mul_of_pos_left (-c) u (by omega)]

theorem rr_exact (c a way : Int) (ha : 1 ≤ a) : rr (c * a) a way = c := by
  unfold rr
  split
  · exact Int.mul_tdiv_cancel c (by omega)
  · split
    · exact Int.mul_ediv_cancel c (by omega)
    · rw [← Int.neg_mul, Int.mul_ediv_cancel _ (by omega), Int.neg_neg]

theorem tdiv_tdiv (c a b : Int) (ha : 1 ≤ a) (hb : 1 ≤ b) : (c.tdiv a).tdiv b = c.tdiv (a * b) := by
  have key : ∀ m : Int, 0 ≤ m → (m.tdiv a).tdiv b = m.tdiv (a * b) := by
    intro m hm
    have h1 : 0 ≤ m / a := Int.ediv_nonneg hm (by omega)
    rw [Int.tdiv_eq_ediv_of_nonneg hm, Int.tdiv_eq_ediv_of_nonneg h1, Int.tdiv_eq_ediv_of_nonneg hm, Int.ediv_ediv_of_nonneg (by omega)]
  rcases Int.le_total 0 c with h | h
  · exact key c h
  · obtain ⟨m, rfl⟩ : ∃ m, c = -m := ⟨-c, by omega⟩
    rw [Int.neg_tdiv, Int.neg_tdiv, Int.neg_tdiv, key m (by omega)]

theorem rr_rr (c a b way : Int) (ha : 1 ≤ a) (hb : 1 ≤ b) : rr (rr c a way) b way = rr c (a * b) way := by
  unfold rr
  split
  · exact tdiv_tdiv c a b ha hb
  · split
    · exact Int.ediv_ediv_of_nonneg (by omega)
    · rw [Int.neg_neg, Int.ediv_ediv_of_nonneg (by omega)]

theorem rr_bd (c u way : Int) (hu : 1 ≤ u) (h1 : -1000000000000000 ≤ c) (h2 : c ≤ 1000000000000000) : -1000000000000000 ≤ rr c u way ∧ rr c u way ≤ 1000000000000000 := by
  have key : ∀ m : Int, -1000000000000000 ≤ m → m ≤ 1000000000000000 → -1000000000000000 ≤ m / u ∧ m / u ≤ 1000000000000000 := by
    intro m a b
    constructor
    · exact Int.le_ediv_of_mul_le (by omega) (by have := Int.mul_le_mul_of_nonpos_left (show (-1000000000000000 : Int) ≤ 0 by omega) hu; omega)
    · rcases Int.le_total 0 m with h | h
      · have := Int.ediv_le_self u h; omega
      · have : m / u < 1 := Int.ediv_lt_of_lt_mul (by omega) (by omega)
        omega
  unfold rr
  split
  · have := tdiv_facts c u hu h1 h2; omega
  · split
    · exact key c h1 h2
    · have := key (-c) (by omega) (by omega); omega

/-- ONCE OR TWICE. -/
theorem twice (c s scale more way : Int) (hx : rndOk c s scale way) (hy : rndOk c s more way) (hm : scale ≤ more) (hw : way ≤ 3) :
    rndOk (rnd c s more way) more scale way ∧ rnd (rnd c s more way) more scale way = rnd c s scale way := by
  obtain ⟨⟨s0, s9, c1, c2⟩, x1, x2, w1, w5, xb⟩ := hx
  obtain ⟨_, y1, y2, _, _, yb⟩ := hy
  have yv : -1000000000000000 ≤ rnd c s more way ∧ rnd c s more way ≤ 1000000000000000 := by
    by_cases h : s ≤ more
    · have e : rnd c s more way = c * ten (more - s).toNat := by unfold rnd; rw [if_pos h]
      rw [e]; exact yb h
    · rw [rnd_rr c s more way (by omega) (by omega) w1 hw]
      exact rr_bd _ _ _ (ten_bd9 _ (by omega)).1 c1 c2
  have t0 : ten 0 = 1 := rfl
  refine ⟨⟨⟨y1, y2, yv.1, yv.2⟩, x1, x2, w1, w5, fun h => ?_⟩, ?_⟩
  · obtain rfl : scale = more := by omega
    simpa [t0] using yv
  · by_cases e : scale = more
    · subst e
      have : ∀ y : Int, rnd y scale scale way = y := by intro y; unfold rnd; simp [t0]
      rw [this]
    · rw [rnd_rr _ more scale way (by omega) (by omega) w1 hw]
      by_cases h : s ≤ more
      · have ey : rnd c s more way = c * ten (more - s).toNat := by unfold rnd; rw [if_pos h]
        rw [ey]
        by_cases h' : s ≤ scale
        · have ez : rnd c s scale way = c * ten (scale - s).toNat := by unfold rnd; rw [if_pos h']
          rw [ez, show (more - s).toNat = (scale - s).toNat + (more - scale).toNat by omega, ten_add, ← Int.mul_assoc]
          exact rr_exact _ _ _ (ten_bd9 _ (by omega)).1
        · rw [rnd_rr c s scale way (by omega) (by omega) w1 hw, show (more - scale).toNat = (s - scale).toNat + (more - s).toNat by omega, ten_add]
          exact rr_mul _ _ _ _ (ten_bd9 _ (by omega)).1
      · rw [rnd_rr c s more way (by omega) (by omega) w1 hw, rnd_rr c s scale way (by omega) (by omega) w1 hw, rr_rr _ _ _ _ (ten_bd9 _ (by omega)).1 (ten_bd9 _ (by omega)).1, ← ten_add]
        congr 2
        omega

end Go.Proofs.YthlcjlmaaaappaaGreatDoor

/- What stands when only a few blocks of one's own are written. -/
namespace Go.Proofs.YthlcjlmaaaappaaGreatDoor
open Go.RowKit

/-- All blocks of before stand, but those of the list. -/
structure Off (l : List Nat) (w w' : World) : Prop where
  os : w'.os = w.os
  tape : w'.tape = w.tape
  output : w'.output = w.output
  size : w.heap.size ≤ w'.heap.size
  block : ∀ k, k < w.heap.size → k ∉ l → w'.heap[k]? = w.heap[k]?

theorem Off.refl (l : List Nat) (w : World) : Off l w w := ⟨rfl, rfl, rfl, Nat.le_refl _, fun _ _ _ => rfl⟩
theorem Off.trans {l : List Nat} {a b c : World} (h : Off l a b) (k : Off l b c) : Off l a c :=
  ⟨k.os.trans h.os, k.tape.trans h.tape, k.output.trans h.output, Nat.le_trans h.size k.size, fun i hi hl => (k.block i (Nat.lt_of_lt_of_le hi h.size) hl).trans (h.block i hi hl)⟩
theorem Off.below {l : List Nat} {a b c : World} (h : Off l a b) {C : Nat} (k : Below C b c) (hC : a.heap.size ≤ C) : Off l a c :=
  ⟨k.os.trans h.os, k.tape.trans h.tape, k.output.trans h.output, Nat.le_trans h.size k.size, fun i hi hl => (k.block i (Nat.lt_of_lt_of_le hi hC)).trans (h.block i hi hl)⟩
theorem Off.toBelow {l : List Nat} {a b : World} (h : Off l a b) {B : Nat} (hl : ∀ k ∈ l, B ≤ k) (hB : B ≤ a.heap.size) : Below B a b :=
  ⟨h.os, h.tape, h.output, h.size, fun k hk => h.block k (Nat.lt_of_lt_of_le hk hB) (fun hm => by have := hl k hm; omega)⟩
theorem Off.more {l m : List Nat} {a b : World} (h : Off l a b) (hl : ∀ k ∈ l, k ∈ m) : Off m a b :=
  ⟨h.os, h.tape, h.output, h.size, fun k hk hm => h.block k hk (fun h' => hm (hl k h'))⟩
theorem Off.less {l m : List Nat} {a b : World} (h : Off l a b) (hl : ∀ k ∈ l, k ∈ m ∨ a.heap.size ≤ k) : Off m a b :=
  ⟨h.os, h.tape, h.output, h.size, fun k hk hm => h.block k hk (fun h' => by
    rcases hl k h' with h1 | h1
    · exact hm h1
    · omega)⟩
theorem Off.drewN {l : List Nat} {a b : World} (h : Off l a b) (n : Nat) : Off l a (b.drewN n) := ⟨h.os, h.tape, h.output, h.size, h.block⟩
theorem Off.alloc {l : List Nat} {a b : World} (h : Off l a b) (o : Obj) : Off l a (b.alloc o) :=
  h.below (C := b.heap.size) ((Below.refl _ _).alloc (Nat.le_refl _) o) h.size
theorem Off.setCell {l : List Nat} {a b : World} (h : Off l a b) (p : Addr) (v : Value) (hp : p.block ∈ l) : Off l a (b.setCell p v) := by
  refine ⟨h.os, h.tape, h.output, ?_, fun k hk hl => ?_⟩
  · have := h.size; simpa using this
  · have hne : k ≠ p.block := fun e => hl (e ▸ hp)
    rw [← h.block k hk hl]
    exact Below.heap_setCell _ _ _ _ (fun e => hne e)

theorem Off.cell {l : List Nat} {w w1 : World} {b o : Nat} {v : Value} (hb : Off l w w1) (h : w.cell? ⟨b, o, none⟩ = some v) (hl : b ∉ l) : w1.cell? ⟨b, o, none⟩ = some v := by
  have hlt := lt_of_cell h
  rw [← h]
  simp only [World.cell?, hb.block b hlt hl]
theorem Off.frozen {l : List Nat} {w w1 : World} {b o : Nat} (hb : Off l w w1) (hlt : b < w.heap.size) (hl : b ∉ l) : w1.frozen? ⟨b, o, none⟩ = w.frozen? ⟨b, o, none⟩ := by
  simp only [World.frozen?, hb.block b hlt hl]

theorem cell_other {w : World} {a b : Addr} {v u : Value} (h : w.cell? b = some u) (hne : a ≠ b) : (w.setCell a v).cell? b = some u := (World.cell?_setCell_other _ _ _ _ hne).trans h
theorem cell_same {w : World} {a : Addr} {v u : Value} (h : w.cell? a = some u) : (w.setCell a v).cell? a = some v := World.cell?_setCell_same _ _ _ h

end Go.Proofs.YthlcjlmaaaappaaGreatDoor

/- An Errno as an error. -/
namespace Go.Proofs.YthlcjlmaaaappaaGreatDoor
open Go.RowKit
abbrev errT (k : Int) : Value := .iface 31 (.int .i64 k)
def errOf (k : Int) : Value := if k = 0 then .nilIface else errT k
end Go.Proofs.YthlcjlmaaaappaaGreatDoor
