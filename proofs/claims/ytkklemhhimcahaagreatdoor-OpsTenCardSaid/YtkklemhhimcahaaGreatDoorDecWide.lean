/- dec.wide. -/
import Derived.Test.YtkklemhhimcahaaGreatDoorShelf
import Derived.Test.YtkklemhhimcahaaGreatDoorDecBase
namespace Go.Proofs.YtkklemhhimcahaaGreatDoor
open Go.RowKit

/-- wide: the product as two words. -/
theorem dec_wide (n k : Int) (w : World) (hn : 0 ≤ n) (hn2 : n ≤ 1000000000000000) (h0 : 0 ≤ k) (h1 : k ≤ 9) :
    Calls Tryz.prog 67 #[.int .i64 n, .int .i64 k] w fun e w' => e = .returned (.tuple #[.int .u64 (n * ten k.toNat / 18446744073709551616), .int .u64 (n * ten k.toNat % 18446744073709551616)]) ∧ w = w' := by
  obtain ⟨m, rfl⟩ := Int.eq_ofNat_of_zero_le hn
  have hb := ten_bd k.toNat (by omega)
  obtain ⟨t, ht⟩ : ∃ t : Nat, ten k.toNat = t := ⟨(ten k.toNat).toNat, by omega⟩
  have ht2 : t ≤ 1000000000000000000 := by omega
  go_enter Tryz.func67, Tryz.ntmps67
  go_wp2_with fail
  refine (dec_power _ _ (by omega) (by omega)).mono ?_
  rintro e w' ⟨rfl, rfl⟩
  simp only [ht]
  have H := Lib.hid ht
  clear hb ht
  go_wp2_with fail
  refine (Tryz.bits_Mul64 _ _ (by omega) (by omega) _).mono ?_
  rintro e w' ⟨rfl, rfl⟩
  go_wp2
  go_ret2
  exact ⟨by rw [H.out]; simp, rfl⟩

end Go.Proofs.YtkklemhhimcahaaGreatDoor
