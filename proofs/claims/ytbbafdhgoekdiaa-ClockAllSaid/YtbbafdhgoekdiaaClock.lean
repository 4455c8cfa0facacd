/- clock.Cache. -/
import Derived.Test.YtbbafdhgoekdiaaOff
import Derived.Test.YtbbafdhgoekdiaaShelf
import Derived.WalkLawsBesides
import Derived.Laws.MakeOwn
namespace Go.Proofs.Ytbbafdhgoekdiaa
open Go.RowKit

abbrev errC (k : Int) : Value := .iface 48 (.int .i64 k)

/-- The places of a cache. -/
structure Cch where
  K : Nat → ByteArray
  V : Nat → ByteArray
  U : Nat → Bool
  M : Nat → Bool

/-- A cache at block cb, its places at block pb. -/
structure CacheAt (w : World) (cb pb n : Nat) (S : Cch) (h : Nat) : Prop where
  n0 : 1 ≤ n
  n1 : n ≤ 50
  hh : h < n
  ne : cb ≠ pb
  head : w.cell? ⟨cb, 0, none⟩ = some (.slice (some ⟨pb, 0, none⟩) n n)
  hand : w.cell? ⟨cb, 1, none⟩ = some (.int .i64 h)
  k : ∀ i, i < n → w.cell? ⟨pb, i * 4, none⟩ = some (.string (S.K i))
  v : ∀ i, i < n → w.cell? ⟨pb, i * 4 + 1, none⟩ = some (.string (S.V i))
  u : ∀ i, i < n → w.cell? ⟨pb, i * 4 + 2, none⟩ = some (.bool (S.U i))
  m : ∀ i, i < n → w.cell? ⟨pb, i * 4 + 3, none⟩ = some (.bool (S.M i))
  fc : ∀ o, w.frozen? ⟨cb, o, none⟩ = false
  fp : ∀ o, w.frozen? ⟨pb, o, none⟩ = false

theorem CacheAt.below {w w1 : World} {cb pb n h : Nat} {S : Cch} (c : CacheAt w cb pb n S h) (hb : Below w.heap.size w w1) : CacheAt w1 cb pb n S h :=
  ⟨c.n0, c.n1, c.hh, c.ne, carry hb c.head, carry hb c.hand, fun i hi => carry hb (c.k i hi), fun i hi => carry hb (c.v i hi), fun i hi => carry hb (c.u i hi), fun i hi => carry hb (c.m i hi),
    fun o => carryF hb (lt_of_cell c.head) (c.fc o), fun o => carryF hb (lt_of_cell (c.k 0 c.n0)) (c.fp o)⟩
theorem CacheAt.drewN {w : World} {cb pb n h : Nat} {S : Cch} (c : CacheAt w cb pb n S h) (k : Nat) : CacheAt (w.drewN k) cb pb n S h :=
  ⟨c.n0, c.n1, c.hh, c.ne, c.head, c.hand, c.k, c.v, c.u, c.m, c.fc, c.fp⟩
theorem CacheAt.lcb {w : World} {cb pb n h : Nat} {S : Cch} (c : CacheAt w cb pb n S h) : cb < w.heap.size := lt_of_cell c.head
theorem CacheAt.lpb {w : World} {cb pb n h : Nat} {S : Cch} (c : CacheAt w cb pb n S h) : pb < w.heap.size := lt_of_cell (c.k 0 c.n0)

/-- The first index of those that hold, if there is one. -/
theorem least (n : Nat) (p : Nat → Bool) : (∃ i, i < n ∧ p i = true ∧ ∀ j, j < i → p j = false) ∨ ∀ j, j < n → p j = false := by
  induction n with
  | zero => exact .inr fun j hj => by omega
  | succ n ih =>
    rcases ih with ⟨i, hi, h1, h2⟩ | h
    · exact .inl ⟨i, by omega, h1, h2⟩
    · cases hp : p n with
      | true => exact .inl ⟨n, by omega, hp, h⟩
      | false => exact .inr fun j hj => by rcases (show j < n ∨ j = n by omega) with h1 | rfl <;> first | exact h j h1 | exact hp

theorem new_no (n : Int) (w : World) (h : ¬ (1 ≤ n ∧ n ≤ 50)) :
    Calls Try.prog 10 #[.int .i64 n] w fun e w' => e = .returned (.tuple #[.pointer none, errC 1]) ∧ w = w' := by
  go_enter Try.func10, Try.ntmps10
  go_wp2_with fail
  all_goals go_ret2
  all_goals exact ⟨rfl, rfl⟩

/-- What 'at' finds. -/
def isAt (S : Cch) (key : ByteArray) (i : Nat) : Bool := S.U i && ((S.K i).toList == key.toList)

theorem at_gen (r : Int) (key : ByteArray) (cb pb n h : Nat) (S : Cch) (w : World) (hc : CacheAt w cb pb n S h)
    (hr : (∃ i : Nat, i < n ∧ r = i ∧ isAt S key i = true ∧ ∀ j, j < i → isAt S key j = false) ∨ (r = -1 ∧ ∀ j, j < n → isAt S key j = false)) :
    Calls Try.prog 22 #[.pointer (some ⟨cb, 0, none⟩), .string key] w fun e w' => e = .returned (.int .i64 r) ∧ Below w.heap.size w w' := by
  have H := Lib.hid hc
  have n0 := hc.n0
  have n1 := hc.n1
  have c0 := hc.head
  have lc := hc.lcb
  have lp := hc.lpb
  have HR := Lib.hid hr
  clear hc hr
  go_enter Try.func22, Try.ntmps22
  go_wp2_with fail
  go_loopw [5, 6, 12] (fun _ _ i wr => ∃ k : Nat, k ≤ n ∧ i = .int .i64 k ∧ Hid (∀ j, j < k → isAt S key j = false) ∧ Below w.heap.size w wr) (fun _ _ i _ => 100 - (intOf i).toNat)
  case atStart => exact ⟨0, by omega, rfl, Lib.hid fun j hj => absurd hj (by omega), Below.refl _ _⟩
  case round =>
    obtain ⟨k, hk, rfl, hno, hbr⟩ := hrel
    have sr := hbr.size
    by_cases hlt : k < n
    · have ck : wr.cell? ⟨pb, k * 4, none⟩ = some (.string (S.K k)) := carry hbr (H.out.k k hlt)
      have cv : wr.cell? ⟨pb, k * 4 + 1, none⟩ = some (.string (S.V k)) := carry hbr (H.out.v k hlt)
      have cu : wr.cell? ⟨pb, k * 4 + 2, none⟩ = some (.bool (S.U k)) := carry hbr (H.out.u k hlt)
      have cm : wr.cell? ⟨pb, k * 4 + 3, none⟩ = some (.bool (S.M k)) := carry hbr (H.out.m k hlt)
      have i1 : (0 : Int) ≤ (k : Int) := by omega
      have i2 : (k : Int) < (n : Int) := by omega
      have hne := h
      cases hU : S.U k
      · have hat : isAt S key k = false := by simp [isAt, hU]
        rw [hU] at cu
        go_wp2_with fail
        go_roundw
        case rel => exact ⟨k + 1, by omega, by go_num, Lib.hid fun j hj => by rcases (show j < k ∨ j = k by omega) with h1 | rfl <;> first | exact hno.out j h1 | exact hat, (by (repeat (first | with_reducible exact Below.refl _ _ | with_reducible refine bel_set ?_ ?_ | with_reducible refine bel_alloc ?_ ?_ | with_reducible refine Below.drew ?_ | with_reducible refine bel_drewN _ ?_ | with_reducible refine bel_call ?_ (by assumption) ?_)); all_goals (first | (simp; done) | omega | (simp; omega)))⟩
        case measure => simp [intOf]; omega
      · rw [hU] at cu
        cases he : ((S.K k).toList == key.toList)
        · have hat : isAt S key k = false := by simp [isAt, hU, he]
          have HE := Lib.hid he
          go_wp2_with fail
          go_roundw
          case rel => exact ⟨k + 1, by omega, by go_num, Lib.hid fun j hj => by rcases (show j < k ∨ j = k by omega) with h1 | rfl <;> first | exact hno.out j h1 | exact hat, (by (repeat (first | with_reducible exact Below.refl _ _ | with_reducible refine bel_set ?_ ?_ | with_reducible refine bel_alloc ?_ ?_ | with_reducible refine Below.drew ?_ | with_reducible refine bel_drewN _ ?_ | with_reducible refine bel_call ?_ (by assumption) ?_)); all_goals (first | (simp; done) | omega | (simp; omega)))⟩
          case measure => simp [intOf]; omega
        · have hat : isAt S key k = true := by simp [isAt, hU, he]
          have hrk : r = (k : Int) := by
            rcases HR.out with ⟨i, hi, rfl, h1, h2⟩ | ⟨_, h2⟩
            · rcases Nat.lt_trichotomy i k with h3 | h3 | h3
              · rw [hno.out i h3] at h1; cases h1
              · rw [h3]
              · rw [h2 k h3] at hat; cases hat
            · rw [h2 k hlt] at hat; cases hat
          go_wp2_with fail
          go_ret
          exact ⟨ret_int hrk.symm, (by (repeat (first | with_reducible exact Below.refl _ _ | with_reducible refine bel_set ?_ ?_ | with_reducible refine bel_alloc ?_ ?_ | with_reducible refine Below.drew ?_ | with_reducible refine bel_drewN _ ?_ | with_reducible refine bel_call ?_ (by assumption) ?_)); all_goals (first | (simp; done) | omega | (simp; omega)))⟩
    · obtain rfl : k = n := by omega
      have hrk : r = -1 := by
        rcases HR.out with ⟨i, hi, rfl, h1, h2⟩ | ⟨h2, _⟩
        · rw [hno.out i hi] at h1; cases h1
        · exact h2
      go_wp2_with fail
      go_ret
      exact ⟨ret_int hrk.symm, (by (repeat (first | with_reducible exact Below.refl _ _ | with_reducible refine bel_set ?_ ?_ | with_reducible refine bel_alloc ?_ ?_ | with_reducible refine Below.drew ?_ | with_reducible refine bel_drewN _ ?_ | with_reducible refine bel_call ?_ (by assumption) ?_)); all_goals (first | (simp; done) | omega | (simp; omega)))⟩

def isFree (S : Cch) (i : Nat) : Bool := !S.U i

theorem free_gen (r : Int) (cb pb n h : Nat) (S : Cch) (w : World) (hc : CacheAt w cb pb n S h)
    (hr : (∃ i : Nat, i < n ∧ r = i ∧ isFree S i = true ∧ ∀ j, j < i → isFree S j = false) ∨ (r = -1 ∧ ∀ j, j < n → isFree S j = false)) :
    Calls Try.prog 23 #[.pointer (some ⟨cb, 0, none⟩)] w fun e w' => e = .returned (.int .i64 r) ∧ Below w.heap.size w w' := by
  have H := Lib.hid hc
  have n0 := hc.n0
  have n1 := hc.n1
  have c0 := hc.head
  have lc := hc.lcb
  have lp := hc.lpb
  have HR := Lib.hid hr
  clear hc hr
  go_enter Try.func23, Try.ntmps23
  go_wp2_with fail
  go_loopw [3, 4, 10] (fun _ _ i wr => ∃ k : Nat, k ≤ n ∧ i = .int .i64 k ∧ Hid (∀ j, j < k → isFree S j = false) ∧ Below w.heap.size w wr) (fun _ _ i _ => 100 - (intOf i).toNat)
  case atStart => exact ⟨0, by omega, rfl, Lib.hid fun j hj => absurd hj (by omega), Below.refl _ _⟩
  case round =>
    obtain ⟨k, hk, rfl, hno, hbr⟩ := hrel
    have sr := hbr.size
    by_cases hlt : k < n
    · have ck : wr.cell? ⟨pb, k * 4, none⟩ = some (.string (S.K k)) := carry hbr (H.out.k k hlt)
      have cv : wr.cell? ⟨pb, k * 4 + 1, none⟩ = some (.string (S.V k)) := carry hbr (H.out.v k hlt)
      have cu : wr.cell? ⟨pb, k * 4 + 2, none⟩ = some (.bool (S.U k)) := carry hbr (H.out.u k hlt)
      have cm : wr.cell? ⟨pb, k * 4 + 3, none⟩ = some (.bool (S.M k)) := carry hbr (H.out.m k hlt)
      have i1 : (0 : Int) ≤ (k : Int) := by omega
      have i2 : (k : Int) < (n : Int) := by omega
      cases hU : S.U k
      · have hat : isFree S k = true := by simp [isFree, hU]
        rw [hU] at cu
        have hrk : r = (k : Int) := by
          rcases HR.out with ⟨i, hi, rfl, h1, h2⟩ | ⟨_, h2⟩
          · rcases Nat.lt_trichotomy i k with h3 | h3 | h3
            · rw [hno.out i h3] at h1; cases h1
            · rw [h3]
            · rw [h2 k h3] at hat; cases hat
          · rw [h2 k hlt] at hat; cases hat
        go_wp2_with fail
        go_ret
        exact ⟨ret_int hrk.symm, (by (repeat (first | with_reducible exact Below.refl _ _ | with_reducible refine bel_set ?_ ?_ | with_reducible refine bel_alloc ?_ ?_ | with_reducible refine Below.drew ?_ | with_reducible refine bel_drewN _ ?_ | with_reducible refine bel_call ?_ (by assumption) ?_)); all_goals (first | (simp; done) | omega | (simp; omega)))⟩
      · have hat : isFree S k = false := by simp [isFree, hU]
        rw [hU] at cu
        go_wp2_with fail
        go_roundw
        case rel => exact ⟨k + 1, by omega, by go_num, Lib.hid fun j hj => by rcases (show j < k ∨ j = k by omega) with h1 | rfl <;> first | exact hno.out j h1 | exact hat, (by (repeat (first | with_reducible exact Below.refl _ _ | with_reducible refine bel_set ?_ ?_ | with_reducible refine bel_alloc ?_ ?_ | with_reducible refine Below.drew ?_ | with_reducible refine bel_drewN _ ?_ | with_reducible refine bel_call ?_ (by assumption) ?_)); all_goals (first | (simp; done) | omega | (simp; omega)))⟩
        case measure => simp [intOf]; omega
    · obtain rfl : k = n := by omega
      have hrk : r = -1 := by
        rcases HR.out with ⟨i, hi, rfl, h1, h2⟩ | ⟨h2, _⟩
        · rw [hno.out i hi] at h1; cases h1
        · exact h2
      go_wp2_with fail
      go_ret
      exact ⟨ret_int hrk.symm, (by (repeat (first | with_reducible exact Below.refl _ _ | with_reducible refine bel_set ?_ ?_ | with_reducible refine bel_alloc ?_ ?_ | with_reducible refine Below.drew ?_ | with_reducible refine bel_drewN _ ?_ | with_reducible refine bel_call ?_ (by assumption) ?_)); all_goals (first | (simp; done) | omega | (simp; omega)))⟩
end Go.Proofs.Ytbbafdhgoekdiaa
