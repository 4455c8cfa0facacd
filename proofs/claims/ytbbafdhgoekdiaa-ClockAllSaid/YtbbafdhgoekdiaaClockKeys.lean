/- clock.Cache: Keys. -/
import Derived.Test.YtbbafdhgoekdiaaClockPut
import Derived.Test.YtbbafdhgoekdiaaRowsS
namespace Go.Proofs.Ytbbafdhgoekdiaa
open Go.RowKit

/-- The keys of the first k places. -/
def keysOf (S : Cch) (k : Nat) : List ByteArray := ((List.range k).filter S.U).map S.K
theorem keysOf_succ_on (S : Cch) (k : Nat) (h : S.U k = true) : keysOf S (k + 1) = keysOf S k ++ [S.K k] := by
  unfold keysOf
  rw [List.range_succ, List.filter_append, List.map_append]
  simp [h]
theorem keysOf_succ_off (S : Cch) (k : Nat) (h : S.U k = false) : keysOf S (k + 1) = keysOf S k := by
  unfold keysOf
  rw [List.range_succ, List.filter_append, List.map_append]
  simp [h]
theorem keysOf_len (S : Cch) (k : Nat) : (keysOf S k).length ≤ k := by
  unfold keysOf
  rw [List.length_map]
  exact Nat.le_trans (List.length_filter_le _ _) (by simp)

theorem keys_ok (cb pb n h : Nat) (S : Cch) (w : World) (hc : CacheAt w cb pb n S h) :
    Calls Try.prog 12 #[.pointer (some ⟨cb, 0, none⟩)] w fun e w' => ∃ v, e = .returned v ∧ OwnsS w' w.heap.size v (keysOf S n) ∧ Below w.heap.size w w' := by
  have H := Lib.hid hc
  have n0 := hc.n0
  have n1 := hc.n1
  have c0 := hc.head
  have lc := hc.lcb
  have lp := hc.lpb
  clear hc
  go_enter Try.func12, Try.ntmps12
  go_wp2_with fail
  go_loopw [3, 5, 11] (fun v _ i wr => ∃ k : Nat, k ≤ n ∧ i = .int .i64 k ∧ Hid (OwnsS wr w.heap.size v (keysOf S k)) ∧ Below w.heap.size w wr) (fun _ _ i _ => 100 - (intOf i).toNat)
  case atStart => exact ⟨0, by omega, rfl, Lib.hid (OwnsS.nil _ _), Below.refl _ _⟩
  case round =>
    obtain ⟨k, hk, rfl, hown, hbr⟩ := hrel
    have sr := hbr.size
    by_cases hlt : k < n
    · have ck : wr.cell? ⟨pb, k * 4, none⟩ = some (.string (S.K k)) := carry hbr (H.out.k k hlt)
      have cv : wr.cell? ⟨pb, k * 4 + 1, none⟩ = some (.string (S.V k)) := carry hbr (H.out.v k hlt)
      have cu : wr.cell? ⟨pb, k * 4 + 2, none⟩ = some (.bool (S.U k)) := carry hbr (H.out.u k hlt)
      have cm : wr.cell? ⟨pb, k * 4 + 3, none⟩ = some (.bool (S.M k)) := carry hbr (H.out.m k hlt)
      have i1 : (0 : Int) ≤ (k : Int) := by omega
      have i2 : (k : Int) < (n : Int) := by omega
      cases hU : S.U k
      · rw [hU] at cu
        have hs := Lib.hid (keysOf_succ_off S k hU)
        go_wp2_with fail
        go_roundw
        case rel => exact ⟨k + 1, by omega, by go_num, Lib.hid (by rw [hs.out]; exact hown.out.alloc _), (by (repeat (first | with_reducible exact Below.refl _ _ | with_reducible refine bel_set ?_ ?_ | with_reducible refine bel_alloc ?_ ?_ | with_reducible refine Below.drew ?_ | with_reducible refine bel_drewN _ ?_ | with_reducible refine bel_call ?_ (by assumption) ?_)); all_goals (first | (simp; done) | omega | (simp; omega)))⟩
        case measure => simp [intOf]; omega
      · rw [hU] at cu
        have hs := Lib.hid (keysOf_succ_on S k hU)
        go_wp2_with (at_builtin; refine wpList_append_one rfl _ _ rfl (S.K k) rfl rfl ((hown.out.alloc _).alloc _) (by go_simp) (by simp; omega) (by have := keysOf_len S k; omega) ?_; intro v' w' ho hoff)
        have hbl : Below w.heap.size _ w' := OwnsS.grown ((hown.out.alloc (.cells #[.string (S.K k), .string (S.V k), .bool true, .bool (S.M k)] 55)).alloc (.cells #[.string (S.K k)] 9)) hoff (by simp; omega)
        have hb2 : Below w.heap.size w w' := ((hbr.alloc sr _).alloc (by simp; omega) _).trans hbl
        clear hoff hbl hbr hown
        go_roundw
        case rel => exact ⟨k + 1, by omega, by go_num, Lib.hid (by rw [hs.out]; exact ho), hb2⟩
        case measure => simp [intOf]; omega
    · obtain rfl : k = n := by omega
      go_wp2_with fail
      go_ret
      exact ⟨_, rfl, hown.out, (by (repeat (first | with_reducible exact Below.refl _ _ | with_reducible refine bel_set ?_ ?_ | with_reducible refine bel_alloc ?_ ?_ | with_reducible refine Below.drew ?_ | with_reducible refine bel_drewN _ ?_ | with_reducible refine bel_call ?_ (by assumption) ?_)); all_goals (first | (simp; done) | omega | (simp; omega)))⟩
end Go.Proofs.Ytbbafdhgoekdiaa
