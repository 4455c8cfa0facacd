/- OpsTen: the law's walk. -/
import Derived.Test.YtkklemhhimcahaaGreatDoorOpsTenPlain
import Derived.Test.YtkklemhhimcahaaGreatDoorLangRules
import Derived.Test.YtkklemhhimcahaaGreatDoorDecCmp
import Derived.Test.YtkklemhhimcahaaGreatDoorDecText
import Derived.Test.YtkklemhhimcahaaGreatDoorRefSize
namespace Go.Proofs.YtkklemhhimcahaaGreatDoor
open Go.RowKit

theorem ar_rules (W : World) : Calls Tryz.prog 9 #[.string ⟨#[97, 114]⟩] W fun e w' => e = .returned (.tuple #[.agg #[.string ⟨#[110, 32, 61, 32, 48]⟩, .string ⟨#[110, 32, 61, 32, 49]⟩, .string ⟨#[110, 32, 61, 32, 50]⟩, .string ⟨#[110, 32, 37, 32, 49, 48, 48, 32, 61, 32, 51, 46, 46, 49, 48]⟩, .string ⟨#[110, 32, 37, 32, 49, 48, 48, 32, 61, 32, 49, 49, 46, 46, 57, 57]⟩], .nilIface]) ∧ Below W.heap.size W w' := lang_known ⟨#[97, 114]⟩ arS W (by decide) (by kernel_rfl)
theorem ar_small : arS.small := small_set arS (by decide) (by decide) (by decide) (by decide) (by decide)
theorem ar_ok : arS.ok = true := langs_ok.2.2.2.2.2.1

set_option maxRecDepth 100000 in
set_option maxHeartbeats 4000000 in
theorem ten_bad1 (c s : Int) (w : World) (h : ¬ decOk c s) :
    Calls Tryz.prog 4 #[decV c s] w fun e w' => e = .returned (.bool true) ∧ Below w.heap.size w w' := by
  have KC := Lib.hid (fun W => dec_check_no c s W h)
  clear h
  go_enter Tryz.func4, Tryz.ntmps4
  go_wp2_with fail
  refine (ar_rules _).mono ?_
  rintro e w1 ⟨rfl, hb⟩
  have w1d0 : w1.cell? ⟨w.heap.size, 0, none⟩ = some (.int .i64 c) := carry hb (by go_simp)
  have w1d1 : w1.cell? ⟨w.heap.size, 1, none⟩ = some (.int .i64 s) := carry hb (by go_simp)
  have HB1 : Hid (Below w.heap.size w w1) := Lib.hid (by (repeat (first | with_reducible exact Below.refl _ _ | with_reducible refine bel_set ?_ ?_ | with_reducible refine bel_alloc ?_ ?_ | with_reducible refine Below.drew ?_ | with_reducible refine bel_drewN _ ?_ | with_reducible refine bel_call ?_ (by assumption) ?_)); all_goals (first | (simp; done) | omega | (simp; omega)))
  have q1 := lt_of_cell w1d0
  clear hb
  go_wp2_with fail
  refine (KC.out _).mono ?_
  rintro e w2 ⟨rfl, hb⟩
  have HB2 : Hid (Below w.heap.size w w2) := Lib.hid (((HB1.out.alloc HB1.out.size _).alloc (by have := HB1.out.size; simp; omega) _).trans (hb.mono (by have := HB1.out.size; simp; omega)))
  clear hb
  go_wp2_with fail
  go_ret
  exact ⟨rfl, HB2.out⟩

set_option maxRecDepth 100000 in
set_option maxHeartbeats 4000000 in
theorem ten_bad2 (c s : Int) (w : World) (h : decOk c s) (h2 : ¬ decOk (10 * c) (s + 1)) :
    Calls Tryz.prog 4 #[decV c s] w fun e w' => e = .returned (.bool true) ∧ Below w.heap.size w w' := by
  have KC := Lib.hid (fun W => dec_check_ok c s W h)
  have KD := Lib.hid (fun W => dec_check_no (10 * c) (s + 1) W h2)
  obtain ⟨d1, d2, d3, d4⟩ := h
  clear h2
  go_enter Tryz.func4, Tryz.ntmps4
  go_wp2_with fail
  refine (ar_rules _).mono ?_
  rintro e w1 ⟨rfl, hb⟩
  have w1d0 : w1.cell? ⟨w.heap.size, 0, none⟩ = some (.int .i64 c) := carry hb (by go_simp)
  have w1d1 : w1.cell? ⟨w.heap.size, 1, none⟩ = some (.int .i64 s) := carry hb (by go_simp)
  have HB1 : Hid (Below w.heap.size w w1) := Lib.hid (by (repeat (first | with_reducible exact Below.refl _ _ | with_reducible refine bel_set ?_ ?_ | with_reducible refine bel_alloc ?_ ?_ | with_reducible refine Below.drew ?_ | with_reducible refine bel_drewN _ ?_ | with_reducible refine bel_call ?_ (by assumption) ?_)); all_goals (first | (simp; done) | omega | (simp; omega)))
  have q1 := lt_of_cell w1d0
  clear hb
  go_wp2_with fail
  refine (KC.out _).mono ?_
  rintro e w2 ⟨rfl, hb⟩
  have w2d0 := carry hb (carry (((Below.refl _ _).alloc (Nat.le_refl _) _).alloc (by simp) _) w1d0)
  have w2d1 := carry hb (carry (((Below.refl _ _).alloc (Nat.le_refl _) _).alloc (by simp) _) w1d1)
  have w2a0 : w2.cell? ⟨w1.heap.size, 0, none⟩ = some (.string ⟨#[110, 32, 61, 32, 48]⟩) := carry hb (by go_simp)
  have w2a1 : w2.cell? ⟨w1.heap.size, 1, none⟩ = some (.string ⟨#[110, 32, 61, 32, 49]⟩) := carry hb (by go_simp)
  have w2a2 : w2.cell? ⟨w1.heap.size, 2, none⟩ = some (.string ⟨#[110, 32, 61, 32, 50]⟩) := carry hb (by go_simp)
  have w2a3 : w2.cell? ⟨w1.heap.size, 3, none⟩ = some (.string ⟨#[110, 32, 37, 32, 49, 48, 48, 32, 61, 32, 51, 46, 46, 49, 48]⟩) := carry hb (by go_simp)
  have w2a4 : w2.cell? ⟨w1.heap.size, 4, none⟩ = some (.string ⟨#[110, 32, 37, 32, 49, 48, 48, 32, 61, 32, 49, 49, 46, 46, 57, 57]⟩) := carry hb (by go_simp)
  have w2e0 : w2.cell? ⟨w1.heap.size + 1, 0, none⟩ = some (.int .i64 (10 * c)) := carry hb (by go_simp)
  have w2e1 : w2.cell? ⟨w1.heap.size + 1, 1, none⟩ = some (.int .i64 (s + 1)) := carry hb (by go_simp)
  have HB2 : Hid (Below w.heap.size w w2) := Lib.hid (((HB1.out.alloc HB1.out.size _).alloc (by have := HB1.out.size; simp; omega) _).trans (hb.mono (by have := HB1.out.size; simp; omega)))
  have q2 := lt_of_cell w2e0
  clear hb w1d0 w1d1
  go_wp2_with fail
  refine (KD.out _).mono ?_
  rintro e w3 ⟨rfl, hb⟩
  have HB3 : Hid (Below w.heap.size w w3) := Lib.hid (HB2.out.trans (hb.mono HB2.out.size))
  clear hb
  go_wp2_with fail
  go_ret
  exact ⟨rfl, HB3.out⟩

set_option maxRecDepth 100000 in
set_option maxHeartbeats 8000000 in
theorem ten_main (c : Int) (s : Nat) (w : World) (hE : RuleEnv w) (hK : KindsAt w) (h : decOk c s) (h2 : decOk (10 * c) (s + 1)) :
    Calls Tryz.prog 4 #[decV c s] w fun e w' => e = .returned (.bool true) ∧ Below w.heap.size w w' := by
  have KC := Lib.hid (fun W => dec_check_ok c s W h)
  have KD := Lib.hid (fun W => dec_check_ok (10 * c) (s + 1) W h2)
  have hk := ops_ten c s (by have := h.2.1; omega)
  have KA := Lib.hid (fun W (hb : Below w.heap.size w W) => kind_ok arS c s W (hE.below hb) (hK.below hb) ar_small ar_ok h)
  have KB : Hid (∀ W, Below w.heap.size w W → Calls Tryz.prog 12 #[.agg #[.string ⟨#[110, 32, 61, 32, 48]⟩, .string ⟨#[110, 32, 61, 32, 49]⟩, .string ⟨#[110, 32, 61, 32, 50]⟩, .string ⟨#[110, 32, 37, 32, 49, 48, 48, 32, 61, 32, 51, 46, 46, 49, 48]⟩, .string ⟨#[110, 32, 37, 32, 49, 48, 48, 32, 61, 32, 49, 49, 46, 46, 57, 57]⟩], .agg #[.int .i64 (10 * c), .int .i64 ((s : Int) + 1)]] W fun e w' => e = .returned (.tuple #[.string (kindT (arS.kind (opsC c s))), .nilIface]) ∧ Below W.heap.size W w') := Lib.hid (fun W hb => by
    have := kind_ok arS (10 * c) (s + 1) W (hE.below hb) (hK.below hb) ar_small ar_ok (by push_cast; exact h2)
    rw [ar_kind _ _ hk.1 hk.2] at this
    push_cast at this
    exact this)
  have KS := Lib.hid (fun W => ref_size c W (by have := h.2.2.1; omega) (by have := h.2.2.2; omega))
  have KT := Lib.hid (fun W (hb : Below w.heap.size w W) => dec_text c s W (hE.below hb).pow h)
  have KU : Hid (∀ W, Below w.heap.size w W → Calls Tryz.prog 13 #[.agg #[.int .i64 (10 * c), .int .i64 ((s : Int) + 1)]] W fun e w' => e = .returned (.string ((if s = 0 then decT c s ++ ⟨#[46]⟩ else decT c s) ++ ⟨#[48]⟩)) ∧ Below W.heap.size W w') := Lib.hid (fun W hb => by
    have := dec_text (10 * c) (s + 1) W (hE.below hb).pow (by push_cast; exact h2)
    rw [decT_ten] at this
    push_cast at this
    exact this)
  have KQ : Hid (∀ W, Calls Tryz.prog 14 #[.agg #[.int .i64 c, .int .i64 s], .agg #[.int .i64 (10 * c), .int .i64 ((s : Int) + 1)]] W fun e w' => e = .returned (.bool true) ∧ Below W.heap.size W w') := Lib.hid (fun W => by
    have := dec_same c s (10 * c) (s + 1) W h h2
    rw [decide_eq_true (by
      rw [show ((s : Int) + 1).toNat = s + 1 by omega, Int.toNat_natCast, ten_succ, Int.mul_comm (ten s) 10, ← Int.mul_assoc, Int.mul_comm c 10])] at this
    exact this)
  have hsz := decT_size c s h
  have hcm : ¬ (100000000000000 : Int) < (c.natAbs : Int) := by have := h2.2.2; omega
  obtain ⟨d1, d2, d3, d4⟩ := h
  clear h2 hE hK hk
  generalize kindT (arS.kind (opsC c s)) = G at *
  generalize decT c s = T at *
  go_enter Tryz.func4, Tryz.ntmps4
  go_wp2_with fail
  refine (ar_rules _).mono ?_
  rintro e w1 ⟨rfl, hb⟩
  have w1d0 : w1.cell? ⟨w.heap.size, 0, none⟩ = some (.int .i64 c) := carry hb (by go_simp)
  have w1d1 : w1.cell? ⟨w.heap.size, 1, none⟩ = some (.int .i64 s) := carry hb (by go_simp)
  have HB1 : Hid (Below w.heap.size w w1) := Lib.hid (by (repeat (first | with_reducible exact Below.refl _ _ | with_reducible refine bel_set ?_ ?_ | with_reducible refine bel_alloc ?_ ?_ | with_reducible refine Below.drew ?_ | with_reducible refine bel_drewN _ ?_ | with_reducible refine bel_call ?_ (by assumption) ?_)); all_goals (first | (simp; done) | omega | (simp; omega)))
  have q1 := lt_of_cell w1d0
  clear hb
  go_wp2_with fail
  refine (KC.out _).mono ?_
  rintro e w2 ⟨rfl, hb⟩
  have w2d0 := carry hb (carry (((Below.refl _ _).alloc (Nat.le_refl _) _).alloc (by simp) _) w1d0)
  have w2d1 := carry hb (carry (((Below.refl _ _).alloc (Nat.le_refl _) _).alloc (by simp) _) w1d1)
  have w2a0 : w2.cell? ⟨w1.heap.size, 0, none⟩ = some (.string ⟨#[110, 32, 61, 32, 48]⟩) := carry hb (by go_simp)
  have w2a1 : w2.cell? ⟨w1.heap.size, 1, none⟩ = some (.string ⟨#[110, 32, 61, 32, 49]⟩) := carry hb (by go_simp)
  have w2a2 : w2.cell? ⟨w1.heap.size, 2, none⟩ = some (.string ⟨#[110, 32, 61, 32, 50]⟩) := carry hb (by go_simp)
  have w2a3 : w2.cell? ⟨w1.heap.size, 3, none⟩ = some (.string ⟨#[110, 32, 37, 32, 49, 48, 48, 32, 61, 32, 51, 46, 46, 49, 48]⟩) := carry hb (by go_simp)
  have w2a4 : w2.cell? ⟨w1.heap.size, 4, none⟩ = some (.string ⟨#[110, 32, 37, 32, 49, 48, 48, 32, 61, 32, 49, 49, 46, 46, 57, 57]⟩) := carry hb (by go_simp)
  have w2e0 : w2.cell? ⟨w1.heap.size + 1, 0, none⟩ = some (.int .i64 (10 * c)) := carry hb (by go_simp)
  have w2e1 : w2.cell? ⟨w1.heap.size + 1, 1, none⟩ = some (.int .i64 ((s : Int) + 1)) := carry hb (by go_simp)
  have HB2 : Hid (Below w.heap.size w w2) := Lib.hid (((HB1.out.alloc HB1.out.size _).alloc (by have := HB1.out.size; simp; omega) _).trans (hb.mono (by have := HB1.out.size; simp; omega)))
  have q2 := lt_of_cell w2e0
  clear hb w1d0 w1d1
  go_wp2_with fail
  refine (KD.out _).mono ?_
  rintro e w3 ⟨rfl, hb⟩
  have w3d0 := carry hb w2d0
  have w3d1 := carry hb w2d1
  have w3a0 := carry hb w2a0
  have w3a1 := carry hb w2a1
  have w3a2 := carry hb w2a2
  have w3a3 := carry hb w2a3
  have w3a4 := carry hb w2a4
  have w3e0 := carry hb w2e0
  have w3e1 := carry hb w2e1
  clear w2d0 w2d1 w2a0 w2a1 w2a2 w2a3 w2a4 w2e0 w2e1
  have HB3 : Hid (Below w.heap.size w w3) := Lib.hid (HB2.out.trans (hb.mono HB2.out.size))
  clear hb
  go_wp2_with fail
  refine (KS.out _).mono ?_
  rintro e w4 ⟨rfl, rfl⟩
  go_wp2_with fail
  refine (KA.out _ HB3.out).mono ?_
  rintro e w4 ⟨rfl, hb⟩
  have w4d0 := carry hb w3d0
  have w4d1 := carry hb w3d1
  have w4a0 := carry hb w3a0
  have w4a1 := carry hb w3a1
  have w4a2 := carry hb w3a2
  have w4a3 := carry hb w3a3
  have w4a4 := carry hb w3a4
  have w4e0 := carry hb w3e0
  have w4e1 := carry hb w3e1
  clear w3d0 w3d1 w3a0 w3a1 w3a2 w3a3 w3a4 w3e0 w3e1
  have HB4 : Hid (Below w.heap.size w w4) := Lib.hid (HB3.out.trans (hb.mono HB3.out.size))
  clear hb
  go_wp2_with fail
  refine (KB.out _ HB4.out).mono ?_
  rintro e w5 ⟨rfl, hb⟩
  have w5d0 := carry hb w4d0
  have w5d1 := carry hb w4d1
  have w5a0 := carry hb w4a0
  have w5a1 := carry hb w4a1
  have w5a2 := carry hb w4a2
  have w5a3 := carry hb w4a3
  have w5a4 := carry hb w4a4
  have w5e0 := carry hb w4e0
  have w5e1 := carry hb w4e1
  clear w4d0 w4d1 w4a0 w4a1 w4a2 w4a3 w4a4 w4e0 w4e1
  have HB5 : Hid (Below w.heap.size w w5) := Lib.hid (HB4.out.trans (hb.mono HB4.out.size))
  clear hb
  go_wp2_with fail
  refine (KT.out _ HB5.out).mono ?_
  rintro e w6 ⟨rfl, hb⟩
  have w6d0 := carry hb w5d0
  have w6d1 := carry hb w5d1
  have w6a0 := carry hb w5a0
  have w6a1 := carry hb w5a1
  have w6a2 := carry hb w5a2
  have w6a3 := carry hb w5a3
  have w6a4 := carry hb w5a4
  have w6e0 := carry hb w5e0
  have w6e1 := carry hb w5e1
  clear w5d0 w5d1 w5a0 w5a1 w5a2 w5a3 w5a4 w5e0 w5e1
  have HB6 : Hid (Below w.heap.size w w6) := Lib.hid (HB5.out.trans (hb.mono HB5.out.size))
  clear hb
  by_cases h0 : s = 0
  · have hs0 : ((s : Int) == 0) = true := by rw [h0]; rfl
    have KU2 := Lib.hid (by have := KU.out; rw [if_pos h0] at this; exact this)
    clear KU h0
    go_wp2_with fail
    refine (KQ.out _).mono ?_
    rintro e w7 ⟨rfl, hb⟩
    have w7d0 := carry hb w6d0
    have w7d1 := carry hb w6d1
    have w7a0 := carry hb w6a0
    have w7a1 := carry hb w6a1
    have w7a2 := carry hb w6a2
    have w7a3 := carry hb w6a3
    have w7a4 := carry hb w6a4
    have w7e0 := carry hb w6e0
    have w7e1 := carry hb w6e1
    clear w6d0 w6d1 w6a0 w6a1 w6a2 w6a3 w6a4 w6e0 w6e1
    have HB7 : Hid (Below w.heap.size w w7) := Lib.hid (HB6.out.trans (hb.mono HB6.out.size))
    clear hb
    go_wp2_with fail
    refine (KU2.out _ HB7.out).mono ?_
    rintro e w8 ⟨rfl, hb⟩
    have w8d0 := carry hb w7d0
    have w8d1 := carry hb w7d1
    have w8a0 := carry hb w7a0
    have w8a1 := carry hb w7a1
    have w8a2 := carry hb w7a2
    have w8a3 := carry hb w7a3
    have w8a4 := carry hb w7a4
    have w8e0 := carry hb w7e0
    have w8e1 := carry hb w7e1
    clear w7d0 w7d1 w7a0 w7a1 w7a2 w7a3 w7a4 w7e0 w7e1
    have HB8 : Hid (Below w.heap.size w w8) := Lib.hid (HB7.out.trans (hb.mono HB7.out.size))
    clear hb
    go_wp2_with fail
    go_ret
    exact ⟨rfl, HB8.out⟩
  · have hs0 : ((s : Int) == 0) = false := by rw [beq_eq_false_iff_ne]; omega
    have KU2 := Lib.hid (by have := KU.out; rw [if_neg h0] at this; exact this)
    have hs1 : ¬ ((s : Int) = 0) := by omega
    clear KU
    go_wp2_with fail
    refine (KQ.out _).mono ?_
    rintro e w7 ⟨rfl, hb⟩
    have w7d0 := carry hb w6d0
    have w7d1 := carry hb w6d1
    have w7a0 := carry hb w6a0
    have w7a1 := carry hb w6a1
    have w7a2 := carry hb w6a2
    have w7a3 := carry hb w6a3
    have w7a4 := carry hb w6a4
    have w7e0 := carry hb w6e0
    have w7e1 := carry hb w6e1
    clear w6d0 w6d1 w6a0 w6a1 w6a2 w6a3 w6a4 w6e0 w6e1
    have HB7 : Hid (Below w.heap.size w w7) := Lib.hid (HB6.out.trans (hb.mono HB6.out.size))
    clear hb
    go_wp2_with fail
    refine (KU2.out _ HB7.out).mono ?_
    rintro e w8 ⟨rfl, hb⟩
    have w8d0 := carry hb w7d0
    have w8d1 := carry hb w7d1
    have w8a0 := carry hb w7a0
    have w8a1 := carry hb w7a1
    have w8a2 := carry hb w7a2
    have w8a3 := carry hb w7a3
    have w8a4 := carry hb w7a4
    have w8e0 := carry hb w7e0
    have w8e1 := carry hb w7e1
    clear w7d0 w7d1 w7a0 w7a1 w7a2 w7a3 w7a4 w7e0 w7e1
    have HB8 : Hid (Below w.heap.size w w8) := Lib.hid (HB7.out.trans (hb.mono HB7.out.size))
    clear hb
    go_wp2_with fail
    go_ret
    exact ⟨rfl, HB8.out⟩

theorem walk38 (c s : Int) (w : World) (hE : RuleEnv w) (hK : KindsAt w) :
    Calls Tryz.prog 4 #[decV c s] w fun e w' => e = .returned (.bool true) ∧ Below w.heap.size w w' := by
  by_cases h : decOk c s
  · by_cases h2 : decOk (10 * c) (s + 1)
    · obtain ⟨e, rfl⟩ : ∃ e : Nat, s = e := ⟨s.toNat, by have := h.1; omega⟩
      exact ten_main c e w hE hK h h2
    · exact ten_bad2 c s w h h2
  · exact ten_bad1 c s w h
end Go.Proofs.YtkklemhhimcahaaGreatDoor
