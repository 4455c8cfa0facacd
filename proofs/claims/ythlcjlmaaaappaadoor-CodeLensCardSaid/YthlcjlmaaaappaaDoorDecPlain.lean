/- The plain numbers of package dec: powers of ten, rounding. No program stands here. -/
namespace Go.Proofs.YthlcjlmaaaappaaDoor

def decOk (c s : Int) : Prop := 0 ≤ s ∧ s ≤ 9 ∧ -1000000000000000 ≤ c ∧ c ≤ 1000000000000000

def ten (n : Nat) : Int := 10 ^ n
theorem ten_succ (n : Nat) : ten (n + 1) = ten n * 10 := Int.pow_succ 10 n
theorem ten_bd (n : Nat) (h : n ≤ 18) : 1 ≤ ten n ∧ ten n ≤ 1000000000000000000 := by
  have : ∀ n, n ≤ 18 → 1 ≤ ten n ∧ ten n ≤ 1000000000000000000 := by unfold ten; decide +kernel
  exact this n h

theorem ten_bd9 (n : Nat) (h : n ≤ 9) : 1 ≤ ten n ∧ ten n ≤ 1000000000 := by
  have : ∀ n, n ≤ 9 → 1 ≤ ten n ∧ ten n ≤ 1000000000 := by unfold ten; decide +kernel
  exact this n h

theorem emod_le_self {a b : Int} (h : 0 ≤ a) : a % b ≤ a := by
  obtain ⟨n, rfl⟩ := Int.eq_ofNat_of_zero_le h
  rcases Int.natAbs_eq b with hb | hb <;> rw [hb]
  · have := Nat.mod_le n b.natAbs; exact_mod_cast this
  · rw [Int.emod_neg]; have := Nat.mod_le n b.natAbs; exact_mod_cast this

def nearB (way whole rest unit sign : Int) : Bool :=
  if way = 2 then decide (0 < rest) && decide (sign < 0)
  else if way = 3 then decide (0 < rest) && decide (0 < sign)
  else if way = 4 then decide (unit ≤ 2 * rest)
  else if way = 5 then decide (unit < 2 * rest) || ((2 * rest == unit) && (whole % 2 == 1))
  else false

def rnd (c s scale way : Int) : Int :=
  if s ≤ scale then c * ten (scale - s).toNat
  else if c < 0 then (-1) * ((-c) / ten (s - scale).toNat + if nearB way ((-c) / ten (s - scale).toNat) ((-c) % ten (s - scale).toNat) (ten (s - scale).toNat) (-1) then 1 else 0)
  else 1 * (c / ten (s - scale).toNat + if nearB way (c / ten (s - scale).toNat) (c % ten (s - scale).toNat) (ten (s - scale).toNat) 1 then 1 else 0)
def rndOk (c s scale way : Int) : Prop := decOk c s ∧ 0 ≤ scale ∧ scale ≤ 9 ∧ 1 ≤ way ∧ way ≤ 5 ∧ (s ≤ scale → -1000000000000000 ≤ c * ten (scale - s).toNat ∧ c * ten (scale - s).toNat ≤ 1000000000000000)

theorem dec_wide_parts (p : Int) (h : 0 ≤ p) : (p ≤ 1000000000000000 → p / 18446744073709551616 = 0 ∧ p % 18446744073709551616 = p ∧ 0 ≤ p) ∧ (1000000000000000 < p → (0 < p / 18446744073709551616 ∨ 1000000000000000 < p % 18446744073709551616) ∧ 0 ≤ p / 18446744073709551616 ∧ 0 ≤ p % 18446744073709551616) := by
  omega

theorem tdiv_facts (x u : Int) (hu : 1 ≤ u) (h1 : -1000000000000000 ≤ x) (h2 : x ≤ 1000000000000000) :
    -1000000000000000 ≤ x.tdiv u ∧ x.tdiv u ≤ 1000000000000000 ∧ -1000000000000000 ≤ x.tmod u ∧ x.tmod u ≤ 1000000000000000 ∧ x.tdiv u * u + x.tmod u = x ∧ x.tmod u < u ∧ -u < x.tmod u := by
  have e : x.tdiv u * u + x.tmod u = x := by rw [Int.mul_comm]; exact Int.mul_tdiv_add_tmod x u
  rcases Int.le_total 0 x with h | h
  · rw [Int.tdiv_eq_ediv_of_nonneg h, Int.tmod_eq_emod_of_nonneg h] at *
    have a := Int.ediv_le_self u h
    have b := Int.ediv_nonneg h (by omega : 0 ≤ u)
    have c := Int.emod_nonneg x (by omega : u ≠ 0)
    have d := Int.emod_lt_of_pos x (by omega : 0 < u)
    have f := emod_le_self (b := u) h
    omega
  · obtain ⟨y, rfl⟩ : ∃ y, x = -y := ⟨-x, by omega⟩
    rw [Int.neg_tdiv, Int.neg_tmod, Int.tdiv_eq_ediv_of_nonneg (by omega), Int.tmod_eq_emod_of_nonneg (by omega)] at *
    have a := Int.ediv_le_self u (by omega : 0 ≤ y)
    have b := Int.ediv_nonneg (by omega : 0 ≤ y) (by omega : 0 ≤ u)
    have c := Int.emod_nonneg y (by omega : u ≠ 0)
    have d := Int.emod_lt_of_pos y (by omega : 0 < u)
    have f := emod_le_self (b := u) (by omega : 0 ≤ y)
    omega

theorem add_v (c1 c2 u : Int) (h : c2.tdiv u * u + c2.tmod u = c2) : (c1 + c2.tdiv u) * u + c2.tmod u = c1 * u + c2 := by
  rw [Int.add_mul]; omega

theorem add_bound (m r u : Int) (hu : 1 ≤ u) (hu2 : u ≤ 1000000000) (r1 : -1000000000000000 ≤ r) (r2 : r ≤ 1000000000000000) :
    0 ≤ 2000000000000000 / u ∧ 2000000000000000 / u ≤ 2000000000000000 ∧ (2000000000000000 / u + 1 < m → 1000000000000000 < m * u + r) ∧ (m < -(2000000000000000 / u) - 1 → m * u + r < -1000000000000000) ∧
    (m ≤ 2000000000000000 / u + 1 → m * u ≤ 2001000000000000) ∧ (-(2000000000000000 / u) - 1 ≤ m → -2001000000000000 ≤ m * u) := by
  have k0 : 0 ≤ 2000000000000000 / u := Int.ediv_nonneg (by omega) (by omega)
  have k1 : 2000000000000000 / u ≤ 2000000000000000 := Int.ediv_le_self _ (by omega)
  have k2 := Int.ediv_mul_le 2000000000000000 (by omega : u ≠ 0)
  have k3 := Int.lt_ediv_add_one_mul_self 2000000000000000 (by omega : 0 < u)
  generalize 2000000000000000 / u = k at *
  have e1 : (k + 1) * u = k * u + u := by rw [Int.add_mul]; omega
  refine ⟨k0, k1, fun h => ?_, fun h => ?_, fun h => ?_, fun h => ?_⟩
  · have := Int.mul_le_mul_of_nonneg_right (show k + 1 ≤ m by omega) (show 0 ≤ u by omega); omega
  · have := Int.mul_le_mul_of_nonneg_right (show m ≤ -(k + 1) by omega) (show 0 ≤ u by omega); rw [Int.neg_mul] at this; omega
  · have := Int.mul_le_mul_of_nonneg_right (show m ≤ k + 1 by omega) (show 0 ≤ u by omega); omega
  · have := Int.mul_le_mul_of_nonneg_right (show -(k + 1) ≤ m by omega) (show 0 ≤ u by omega); rw [Int.neg_mul] at this; omega

theorem ten_add (a b : Nat) : ten (a + b) = ten a * ten b := Int.pow_add 10 a b

/-- Rounding down, to the lesser, to the greater one, as divisions. -/
def rr (c u way : Int) : Int := if way = 1 then c.tdiv u else if way = 2 then c / u else -((-c) / u)

theorem neg_ediv_of (m u : Int) (hu : 1 ≤ u) : -m / u = -(m / u + if 0 < m % u then 1 else 0) := by
  have e := Int.mul_ediv_add_emod m u
  have h1 := Int.emod_nonneg m (by omega : u ≠ 0)
  have h2 := Int.emod_lt_of_pos m (by omega : 0 < u)
  generalize m / u = q at *
  generalize m % u = r at *
  subst e
  split
  · rename_i hr
    have : -(u * q + r) = (u - r) + u * (-(q + 1)) := by rw [Int.mul_neg, Int.mul_add]; omega
    rw [this, Int.add_mul_ediv_left _ _ (by omega), Int.ediv_eq_zero_of_lt (by omega) (by omega)]
    omega
  · have : r = 0 := by omega
    subst this
    have : -(u * q + 0) = 0 + u * (-q) := by rw [Int.mul_neg]; omega
    rw [this, Int.add_mul_ediv_left _ _ (by omega)]
    simp

theorem rnd_rr (c s scale way : Int) (hs : scale < s) (h9 : s - scale ≤ 9) (hw : 1 ≤ way) (hw3 : way ≤ 3) : rnd c s scale way = rr c (ten (s - scale).toNat) way := by
  have hu := ten_bd9 (s - scale).toNat (by omega)
  unfold rnd
  rw [if_neg (by omega)]
  generalize ten (s - scale).toNat = u at *
  have hw' : way = 1 ∨ way = 2 ∨ way = 3 := by omega
  by_cases hc : c < 0
  · rw [if_pos hc]
    obtain ⟨m, rfl⟩ : ∃ m, c = -m := ⟨-c, by omega⟩
    rw [Int.neg_neg]
    rcases hw' with rfl | rfl | rfl
    · simp [nearB, rr, Int.neg_tdiv, Int.tdiv_eq_ediv_of_nonneg (by omega : 0 ≤ m)]
    · simp only [nearB, rr]
      rw [neg_ediv_of m u hu.1]
      simp
    · simp [nearB, rr]
  · rw [if_neg hc]
    rcases hw' with rfl | rfl | rfl
    · simp [nearB, rr, Int.tdiv_eq_ediv_of_nonneg (by omega : 0 ≤ c)]
    · simp [nearB, rr]
    · simp only [nearB, rr]
      rw [neg_ediv_of c u hu.1]
      simp

theorem rr_mul (c a u way : Int) (ha : 1 ≤ a) : rr (c * a) (u * a) way = rr c u way := by
  unfold rr
  split
  · exact Int.mul_tdiv_mul_of_pos_left c u (by omega)
  · split
    · exact Int.mul_ediv_mul_of_pos_left c u (by omega)
    · rw [← Int.neg_mul, Int.mul_ediv_mul_of_pos_left (-c) u (by omega)]

theorem rr_exact (c a way : Int) (ha : 1 ≤ a) : rr (c * a) a way = c := by
  unfold rr
  split
  · exact Int.mul_tdiv_cancel c (by omega)
  · split
    · exact Int.mul_ediv_cancel c (by omega)
    · rw [← Int.neg_mul, Int.mul_ediv_cancel _ (by omega), Int.neg_neg]

theorem tdiv_tdiv (c a b : Int) (ha : 1 ≤ a) (hb : 1 ≤ b) : (c.tdiv a).tdiv b = c.tdiv (a * b) := by
  have key : ∀ m : Int, 0 ≤ m → (m.tdiv a).tdiv b = m.tdiv (a * b) := by
    intro m hm
    have h1 : 0 ≤ m / a := Int.ediv_nonneg hm (by omega)
    rw [Int.tdiv_eq_ediv_of_nonneg hm, Int.tdiv_eq_ediv_of_nonneg h1, Int.tdiv_eq_ediv_of_nonneg hm, Int.ediv_ediv_of_nonneg (by omega)]
  rcases Int.le_total 0 c with h | h
  · exact key c h
  · obtain ⟨m, rfl⟩ : ∃ m, c = -m := ⟨-c, by omega⟩
    rw [Int.neg_tdiv, Int.neg_tdiv, Int.neg_tdiv, key m (by omega)]

theorem rr_rr (c a b way : Int) (ha : 1 ≤ a) (hb : 1 ≤ b) : rr (rr c a way) b way = rr c (a * b) way := by
  unfold rr
  split
  · exact tdiv_tdiv c a b ha hb
  · split
    · exact Int.ediv_ediv_of_nonneg (by omega)
    · rw [Int.neg_neg, Int.ediv_ediv_of_nonneg (by omega)]

theorem rr_bd (c u way : Int) (hu : 1 ≤ u) (h1 : -1000000000000000 ≤ c) (h2 : c ≤ 1000000000000000) : -1000000000000000 ≤ rr c u way ∧ rr c u way ≤ 1000000000000000 := by
  have key : ∀ m : Int, -1000000000000000 ≤ m → m ≤ 1000000000000000 → -1000000000000000 ≤ m / u ∧ m / u ≤ 1000000000000000 := by
    intro m a b
    constructor
    · exact Int.le_ediv_of_mul_le (by omega) (by have := Int.mul_le_mul_of_nonpos_left (show (-1000000000000000 : Int) ≤ 0 by omega) hu; omega)
    · rcases Int.le_total 0 m with h | h
      · have := Int.ediv_le_self u h; omega
      · have : m / u < 1 := Int.ediv_lt_of_lt_mul (by omega) (by omega)
        omega
  unfold rr
  split
  · have := tdiv_facts c u hu h1 h2; omega
  · split
    · exact key c h1 h2
    · have := key (-c) (by omega) (by omega); omega

/-- ONCE OR TWICE. -/
theorem twice (c s scale more way : Int) (hx : rndOk c s scale way) (hy : rndOk c s more way) (hm : scale ≤ more) (hw : way ≤ 3) :
    rndOk (rnd c s more way) more scale way ∧ rnd (rnd c s more way) more scale way = rnd c s scale way := by
  obtain ⟨⟨s0, s9, c1, c2⟩, x1, x2, w1, w5, xb⟩ := hx
  obtain ⟨_, y1, y2, _, _, yb⟩ := hy
  have yv : -1000000000000000 ≤ rnd c s more way ∧ rnd c s more way ≤ 1000000000000000 := by
    by_cases h : s ≤ more
    · have e : rnd c s more way = c * ten (more - s).toNat := by unfold rnd; rw [if_pos h]
      rw [e]; exact yb h
    · rw [rnd_rr c s more way (by omega) (by omega) w1 hw]
      exact rr_bd _ _ _ (ten_bd9 _ (by omega)).1 c1 c2
  have t0 : ten 0 = 1 := rfl
  refine ⟨⟨⟨y1, y2, yv.1, yv.2⟩, x1, x2, w1, w5, fun h => ?_⟩, ?_⟩
  · obtain rfl : scale = more := by omega
    simpa [t0] using yv
  · by_cases e : scale = more
    · subst e
      have : ∀ y : Int, rnd y scale scale way = y := by intro y; unfold rnd; simp [t0]
      rw [this]
    · rw [rnd_rr _ more scale way (by omega) (by omega) w1 hw]
      by_cases h : s ≤ more
      · have ey : rnd c s more way = c * ten (more - s).toNat := by unfold rnd; rw [if_pos h]
        rw [ey]
        by_cases h' : s ≤ scale
        · have ez : rnd c s scale way = c * ten (scale - s).toNat := by unfold rnd; rw [if_pos h']
          rw [ez, show (more - s).toNat = (scale - s).toNat + (more - scale).toNat by omega, ten_add, ← Int.mul_assoc]
          exact rr_exact _ _ _ (ten_bd9 _ (by omega)).1
        · rw [rnd_rr c s scale way (by omega) (by omega) w1 hw, show (more - scale).toNat = (s - scale).toNat + (more - s).toNat by omega, ten_add]
          exact rr_mul _ _ _ _ (ten_bd9 _ (by omega)).1
      · rw [rnd_rr c s more way (by omega) (by omega) w1 hw, rnd_rr c s scale way (by omega) (by omega) w1 hw, rr_rr _ _ _ _ (ten_bd9 _ (by omega)).1 (ten_bd9 _ (by omega)).1, ← ten_add]
        congr 2
        omega

end Go.Proofs.YthlcjlmaaaappaaDoor
