/- dec.Check, dec.power. -/
import Derived.Test.YtdpdnanjanceeaaDoorRows
import Derived.Test.YtdpdnanjanceeaaDoorBase
import Derived.Test.YtdpdnanjanceeaaDoorDecPlain
import Derived.WalkKit
import Derived.WalkSpells
import Derived.WalkLawsBesides
import Derived.Deep.QuietTactic
import Derived.BigQuiet
import Derived.Lib.Hide
namespace Go.Proofs.YtdpdnanjanceeaaDoor
open Go.RowKit

abbrev errV (k : Int) : Value := .iface 40 (.int .i64 k)

theorem dec_check_ok (c s : Int) (w : World) (h : decOk c s) :
    Calls Tryd.prog 57 #[.agg #[.int .i64 c, .int .i64 s]] w fun e w' => e = .returned .nilIface ∧ Below w.heap.size w w' := by
  obtain ⟨h1, h2, h3, h4⟩ := h
  go_enter Tryd.func57, Tryd.ntmps57
  go_wp2
  go_ret
  exact ⟨rfl, (Below.refl _ _).alloc (Nat.le_refl _) _⟩

theorem dec_check_no (c s : Int) (w : World) (h : ¬ decOk c s) :
    Calls Tryd.prog 57 #[.agg #[.int .i64 c, .int .i64 s]] w fun e w' => e = .returned (errV 1) ∧ Below w.heap.size w w' := by
  unfold decOk at h
  go_enter Tryd.func57, Tryd.ntmps57
  go_wp2
  all_goals go_ret
  all_goals exact ⟨rfl, (Below.refl _ _).alloc (Nat.le_refl _) _⟩

set_option maxHeartbeats 400000 in
theorem dec_power (n : Int) (w : World) (h0 : 0 ≤ n) (h1 : n ≤ 18) :
    Calls Tryd.prog 87 #[.int .i64 n] w fun e w' => e = .returned (.int .i64 (ten n.toNat)) ∧ w = w' := by
  obtain ⟨m, rfl⟩ := Int.eq_ofNat_of_zero_le h0
  rw [Int.toNat_natCast]
  have hm : m ≤ 18 := by omega
  go_enter Tryd.func87, Tryd.ntmps87
  go_wp2
  go_loop [3, 5] (fun t i => ∃ k : Nat, k ≤ m ∧ i = .int .i64 k ∧ t = .int .i64 (ten k)) (fun _ i => m - (intOf i).toNat)
  case atStart => exact ⟨0, Nat.zero_le _, rfl, rfl⟩
  case round =>
    obtain ⟨k, hk, rfl, rfl⟩ := hrel
    have hb := ten_bd k (by omega)
    by_cases hlt : k < m
    · have hb2 := ten_bd (k + 1) (by omega)
      have hs := ten_succ k
      have hx : ten k * 10 ≤ 1000000000000000000 := by omega
      have H := Lib.hid hs
      clear hs
      go_wp2
      go_round
      case rel => exact ⟨k + 1, by omega, by go_num, by rw [H.out]⟩
      case measure => simp [intOf]; omega
    · go_wp2
      go_ret
      obtain rfl : k = m := by omega
      exact ⟨rfl, rfl⟩

abbrev decV (c s : Int) : Value := .agg #[.int .i64 c, .int .i64 s]
end Go.Proofs.YtdpdnanjanceeaaDoor
