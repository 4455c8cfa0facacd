/- rank of a text's letter. -/
import Derived.Test.YtbbafdhgoekdiaaDoorItoa
import Derived.WalkLawsBesides
namespace Go.Proofs.YtbbafdhgoekdiaaDoor
open Go.RowKit

def rankC (c : UInt8) : Int := if c = 75 then 1 else if c = 77 then 2 else if c = 66 then 3 else if c = 84 then 4 else 0
theorem rankC_bd (c : UInt8) : 0 ≤ rankC c ∧ rankC c ≤ 4 := by
  unfold rankC
  repeat (split <;> try omega)

theorem byte_is (c d : UInt8) (h : c = d) : ((c.toNat : Int) == (d.toNat : Int)) = true := by rw [h]; simp
theorem byte_not (c d : UInt8) (h : c ≠ d) : ((c.toNat : Int) == (d.toNat : Int)) = false := by
  rw [beq_eq_false_iff_ne]
  intro e
  exact h (UInt8.toNat_inj.1 (by omega))

set_option maxHeartbeats 1000000 in
theorem rank_0 (s : ByteArray) (c : UInt8) (w : World) (hs : 0 < s.size) (hsz : s.size ≤ 1048576) (hc : s[s.size - 1] = c) (y : ((c.toNat : Int) == (((⟨#[75, 77, 66, 84]⟩ : ByteArray)[0]).toNat : Int)) = true) :
    Calls Tryd.prog 18 #[.string s] w fun e w' => e = .returned (.int .i64 1) ∧ ∃ n, w' = w.drewN n := by
  have i1 : (0 : Int) ≤ (s.size : Int) - 1 := by omega
  have i2 : (s.size : Int) - 1 < (s.size : Int) := by omega
  have i3 : IntKind.i64.wrap ((s.size : Int) - 1) = (s.size : Int) - 1 := IntWalk.i64_in _ (by omega)
  have i4 : ((s.size : Int) - 1).toNat = s.size - 1 := by omega
  have e1 : (!s.toList.isEmpty) = true := by
    have : s.toList.length = s.size := by rw [Lib.toList_data]; simp
    cases h : s.toList with
    | nil => rw [h] at this; simp at this; omega
    | cons a l => rfl
  have e2 : (s.toList == []) = false := by
    have : s.toList.length = s.size := by rw [Lib.toList_data]; simp
    cases h : s.toList with
    | nil => rw [h] at this; simp at this; omega
    | cons a l => rfl
  go_enter Tryd.func18, Tryd.ntmps18
  go_wp2_with fail
  refine wp_loop_rounds 1 ?_
  rw [rounds_succ]
  go_wp2_with fail
  go_quiet (fail)
  go_wp2_with fail
  go_ret
  exact ⟨rfl, _, rfl⟩

set_option maxHeartbeats 1000000 in
theorem rank_1 (s : ByteArray) (c : UInt8) (w : World) (hs : 0 < s.size) (hsz : s.size ≤ 1048576) (hc : s[s.size - 1] = c) (n0 : ((c.toNat : Int) == (((⟨#[75, 77, 66, 84]⟩ : ByteArray)[0]).toNat : Int)) = false) (y : ((c.toNat : Int) == (((⟨#[75, 77, 66, 84]⟩ : ByteArray)[1]).toNat : Int)) = true) :
    Calls Tryd.prog 18 #[.string s] w fun e w' => e = .returned (.int .i64 2) ∧ ∃ n, w' = w.drewN n := by
  have i1 : (0 : Int) ≤ (s.size : Int) - 1 := by omega
  have i2 : (s.size : Int) - 1 < (s.size : Int) := by omega
  have i3 : IntKind.i64.wrap ((s.size : Int) - 1) = (s.size : Int) - 1 := IntWalk.i64_in _ (by omega)
  have i4 : ((s.size : Int) - 1).toNat = s.size - 1 := by omega
  have e1 : (!s.toList.isEmpty) = true := by
    have : s.toList.length = s.size := by rw [Lib.toList_data]; simp
    cases h : s.toList with
    | nil => rw [h] at this; simp at this; omega
    | cons a l => rfl
  have e2 : (s.toList == []) = false := by
    have : s.toList.length = s.size := by rw [Lib.toList_data]; simp
    cases h : s.toList with
    | nil => rw [h] at this; simp at this; omega
    | cons a l => rfl
  go_enter Tryd.func18, Tryd.ntmps18
  go_wp2_with fail
  refine wp_loop_rounds 2 ?_
  rw [rounds_succ]
  go_wp2_with fail
  go_quiet (fail)
  go_wp2_with fail
  rw [rounds_succ]
  go_wp2_with fail
  go_quiet (fail)
  go_wp2_with fail
  go_ret
  exact ⟨rfl, _, rfl⟩

set_option maxHeartbeats 1000000 in
theorem rank_2 (s : ByteArray) (c : UInt8) (w : World) (hs : 0 < s.size) (hsz : s.size ≤ 1048576) (hc : s[s.size - 1] = c) (n0 : ((c.toNat : Int) == (((⟨#[75, 77, 66, 84]⟩ : ByteArray)[0]).toNat : Int)) = false) (n1 : ((c.toNat : Int) == (((⟨#[75, 77, 66, 84]⟩ : ByteArray)[1]).toNat : Int)) = false) (y : ((c.toNat : Int) == (((⟨#[75, 77, 66, 84]⟩ : ByteArray)[2]).toNat : Int)) = true) :
    Calls Tryd.prog 18 #[.string s] w fun e w' => e = .returned (.int .i64 3) ∧ ∃ n, w' = w.drewN n := by
  have i1 : (0 : Int) ≤ (s.size : Int) - 1 := by omega
  have i2 : (s.size : Int) - 1 < (s.size : Int) := by omega
  have i3 : IntKind.i64.wrap ((s.size : Int) - 1) = (s.size : Int) - 1 := IntWalk.i64_in _ (by omega)
  have i4 : ((s.size : Int) - 1).toNat = s.size - 1 := by omega
  have e1 : (!s.toList.isEmpty) = true := by
    have : s.toList.length = s.size := by rw [Lib.toList_data]; simp
    cases h : s.toList with
    | nil => rw [h] at this; simp at this; omega
    | cons a l => rfl
  have e2 : (s.toList == []) = false := by
    have : s.toList.length = s.size := by rw [Lib.toList_data]; simp
    cases h : s.toList with
    | nil => rw [h] at this; simp at this; omega
    | cons a l => rfl
  go_enter Tryd.func18, Tryd.ntmps18
  go_wp2_with fail
  refine wp_loop_rounds 3 ?_
  rw [rounds_succ]
  go_wp2_with fail
  go_quiet (fail)
  go_wp2_with fail
  rw [rounds_succ]
  go_wp2_with fail
  go_quiet (fail)
  go_wp2_with fail
  rw [rounds_succ]
  go_wp2_with fail
  go_quiet (fail)
  go_wp2_with fail
  go_ret
  exact ⟨rfl, _, rfl⟩

set_option maxHeartbeats 1000000 in
theorem rank_3 (s : ByteArray) (c : UInt8) (w : World) (hs : 0 < s.size) (hsz : s.size ≤ 1048576) (hc : s[s.size - 1] = c) (n0 : ((c.toNat : Int) == (((⟨#[75, 77, 66, 84]⟩ : ByteArray)[0]).toNat : Int)) = false) (n1 : ((c.toNat : Int) == (((⟨#[75, 77, 66, 84]⟩ : ByteArray)[1]).toNat : Int)) = false) (n2 : ((c.toNat : Int) == (((⟨#[75, 77, 66, 84]⟩ : ByteArray)[2]).toNat : Int)) = false) (y : ((c.toNat : Int) == (((⟨#[75, 77, 66, 84]⟩ : ByteArray)[3]).toNat : Int)) = true) :
    Calls Tryd.prog 18 #[.string s] w fun e w' => e = .returned (.int .i64 4) ∧ ∃ n, w' = w.drewN n := by
  have i1 : (0 : Int) ≤ (s.size : Int) - 1 := by omega
  have i2 : (s.size : Int) - 1 < (s.size : Int) := by omega
  have i3 : IntKind.i64.wrap ((s.size : Int) - 1) = (s.size : Int) - 1 := IntWalk.i64_in _ (by omega)
  have i4 : ((s.size : Int) - 1).toNat = s.size - 1 := by omega
  have e1 : (!s.toList.isEmpty) = true := by
    have : s.toList.length = s.size := by rw [Lib.toList_data]; simp
    cases h : s.toList with
    | nil => rw [h] at this; simp at this; omega
    | cons a l => rfl
  have e2 : (s.toList == []) = false := by
    have : s.toList.length = s.size := by rw [Lib.toList_data]; simp
    cases h : s.toList with
    | nil => rw [h] at this; simp at this; omega
    | cons a l => rfl
  go_enter Tryd.func18, Tryd.ntmps18
  go_wp2_with fail
  refine wp_loop_rounds 4 ?_
  rw [rounds_succ]
  go_wp2_with fail
  go_quiet (fail)
  go_wp2_with fail
  rw [rounds_succ]
  go_wp2_with fail
  go_quiet (fail)
  go_wp2_with fail
  rw [rounds_succ]
  go_wp2_with fail
  go_quiet (fail)
  go_wp2_with fail
  rw [rounds_succ]
  go_wp2_with fail
  go_quiet (fail)
  go_wp2_with fail
  go_ret
  exact ⟨rfl, _, rfl⟩

set_option maxHeartbeats 1000000 in
theorem rank_4 (s : ByteArray) (c : UInt8) (w : World) (hs : 0 < s.size) (hsz : s.size ≤ 1048576) (hc : s[s.size - 1] = c) (n0 : ((c.toNat : Int) == (((⟨#[75, 77, 66, 84]⟩ : ByteArray)[0]).toNat : Int)) = false) (n1 : ((c.toNat : Int) == (((⟨#[75, 77, 66, 84]⟩ : ByteArray)[1]).toNat : Int)) = false) (n2 : ((c.toNat : Int) == (((⟨#[75, 77, 66, 84]⟩ : ByteArray)[2]).toNat : Int)) = false) (n3 : ((c.toNat : Int) == (((⟨#[75, 77, 66, 84]⟩ : ByteArray)[3]).toNat : Int)) = false) :
    Calls Tryd.prog 18 #[.string s] w fun e w' => e = .returned (.int .i64 0) ∧ ∃ n, w' = w.drewN n := by
  have i1 : (0 : Int) ≤ (s.size : Int) - 1 := by omega
  have i2 : (s.size : Int) - 1 < (s.size : Int) := by omega
  have i3 : IntKind.i64.wrap ((s.size : Int) - 1) = (s.size : Int) - 1 := IntWalk.i64_in _ (by omega)
  have i4 : ((s.size : Int) - 1).toNat = s.size - 1 := by omega
  have e1 : (!s.toList.isEmpty) = true := by
    have : s.toList.length = s.size := by rw [Lib.toList_data]; simp
    cases h : s.toList with
    | nil => rw [h] at this; simp at this; omega
    | cons a l => rfl
  have e2 : (s.toList == []) = false := by
    have : s.toList.length = s.size := by rw [Lib.toList_data]; simp
    cases h : s.toList with
    | nil => rw [h] at this; simp at this; omega
    | cons a l => rfl
  go_enter Tryd.func18, Tryd.ntmps18
  go_wp2_with fail
  refine wp_loop_rounds 5 ?_
  rw [rounds_succ]
  go_wp2_with fail
  go_quiet (fail)
  go_wp2_with fail
  rw [rounds_succ]
  go_wp2_with fail
  go_quiet (fail)
  go_wp2_with fail
  rw [rounds_succ]
  go_wp2_with fail
  go_quiet (fail)
  go_wp2_with fail
  rw [rounds_succ]
  go_wp2_with fail
  go_quiet (fail)
  go_wp2_with fail
  rw [rounds_succ]
  go_wp2_with fail
  go_ret
  exact ⟨rfl, _, rfl⟩

theorem rank_any (s : ByteArray) (c : UInt8) (w : World) (hs : 0 < s.size) (hsz : s.size ≤ 1048576) (hc : s[s.size - 1] = c) :
    Calls Tryd.prog 18 #[.string s] w fun e w' => e = .returned (.int .i64 (rankC c)) ∧ ∃ n, w' = w.drewN n := by
  by_cases h0 : c = 75
  · rw [show rankC c = 1 by unfold rankC; rw [if_pos h0]]
    exact rank_0 s c w hs hsz hc (byte_is c 75 h0)
  by_cases h1 : c = 77
  · rw [show rankC c = 2 by unfold rankC; rw [if_neg h0, if_pos h1]]
    exact rank_1 s c w hs hsz hc (byte_not c 75 h0) (byte_is c 77 h1)
  by_cases h2 : c = 66
  · rw [show rankC c = 3 by unfold rankC; rw [if_neg h0, if_neg h1, if_pos h2]]
    exact rank_2 s c w hs hsz hc (byte_not c 75 h0) (byte_not c 77 h1) (byte_is c 66 h2)
  by_cases h3 : c = 84
  · rw [show rankC c = 4 by unfold rankC; rw [if_neg h0, if_neg h1, if_neg h2, if_pos h3]]
    exact rank_3 s c w hs hsz hc (byte_not c 75 h0) (byte_not c 77 h1) (byte_not c 66 h2) (byte_is c 84 h3)
  · rw [show rankC c = 0 by unfold rankC; rw [if_neg h0, if_neg h1, if_neg h2, if_neg h3]]
    exact rank_4 s c w hs hsz hc (byte_not c 75 h0) (byte_not c 77 h1) (byte_not c 66 h2) (byte_not c 84 h3)

end Go.Proofs.YtbbafdhgoekdiaaDoor
