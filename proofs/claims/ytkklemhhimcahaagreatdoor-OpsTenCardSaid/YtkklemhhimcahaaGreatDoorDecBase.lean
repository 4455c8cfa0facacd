/- dec.power. -/
import Derived.Test.YtkklemhhimcahaaGreatDoorDecCheck
namespace Go.Proofs.YtkklemhhimcahaaGreatDoor
open Go.RowKit

set_option maxHeartbeats 400000 in
theorem dec_power (n : Int) (w : World) (h0 : 0 ≤ n) (h1 : n ≤ 18) :
    Calls Tryz.prog 99 #[.int .i64 n] w fun e w' => e = .returned (.int .i64 (ten n.toNat)) ∧ w = w' := by
  obtain ⟨m, rfl⟩ := Int.eq_ofNat_of_zero_le h0
  rw [Int.toNat_natCast]
  have hm : m ≤ 18 := by omega
  go_enter Tryz.func99, Tryz.ntmps99
  go_wp2
  go_loop [3, 5] (fun t i => ∃ k : Nat, k ≤ m ∧ i = .int .i64 k ∧ t = .int .i64 (ten k)) (fun _ i => m - (intOf i).toNat)
  case atStart => exact ⟨0, Nat.zero_le _, rfl, rfl⟩
  case round =>
    obtain ⟨k, hk, rfl, rfl⟩ := hrel
    have hb := ten_bd k (by omega)
    by_cases hlt : k < m
    · have hb2 := ten_bd (k + 1) (by omega)
      have hs := ten_succ k
      have hx : ten k * 10 ≤ 1000000000000000000 := by omega
      have H := Lib.hid hs
      clear hs
      go_wp2
      go_round
      case rel => exact ⟨k + 1, by omega, by go_num, by rw [H.out]⟩
      case measure => simp [intOf]; omega
    · go_wp2
      go_ret
      obtain rfl : k = m := by omega
      exact ⟨rfl, rfl⟩

end Go.Proofs.YtkklemhhimcahaaGreatDoor
