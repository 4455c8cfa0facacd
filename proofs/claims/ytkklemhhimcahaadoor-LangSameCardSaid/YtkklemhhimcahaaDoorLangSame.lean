/- LangSame: the law's walk. -/
import Derived.Test.YtkklemhhimcahaaDoorLangRules
import Derived.Test.YtkklemhhimcahaaDoorLangSamePlain
import Derived.Test.YtkklemhhimcahaaDoorPluralKind
import Derived.Test.YtkklemhhimcahaaDoorRefTen
import Derived.Deep.QuietTactic
import Derived.BigQuiet
namespace Go.Proofs.YtkklemhhimcahaaDoor
open Go.RowKit

theorem en_rules (W : World) : Calls Tryd.prog 11 #[.string ⟨#[101, 110]⟩] W fun e w' => e = .returned (.tuple #[.agg #[.string ⟨#[]⟩, .string ⟨#[105, 32, 61, 32, 49, 32, 97, 110, 100, 32, 118, 32, 61, 32, 48]⟩, .string ⟨#[]⟩, .string ⟨#[]⟩, .string ⟨#[]⟩], .nilIface]) ∧ Below W.heap.size W w' := lang_known ⟨#[101, 110]⟩ enS W (by decide) (by kernel_rfl)
theorem de_rules (W : World) : Calls Tryd.prog 11 #[.string ⟨#[100, 101]⟩] W fun e w' => e = .returned (.tuple #[.agg #[.string ⟨#[]⟩, .string ⟨#[105, 32, 61, 32, 49, 32, 97, 110, 100, 32, 118, 32, 61, 32, 48]⟩, .string ⟨#[]⟩, .string ⟨#[]⟩, .string ⟨#[]⟩], .nilIface]) ∧ Below W.heap.size W w' := lang_known ⟨#[100, 101]⟩ deS W (by decide) (by kernel_rfl)


set_option maxRecDepth 100000 in
set_option maxHeartbeats 4000000 in
theorem same_none (s x0 x1 x2 x3 x4 : ByteArray) (c d : Int) (w : World) (t : ByteArray) (z : Value)
    (hR : ∀ W, Calls Tryd.prog 11 #[.string s] W fun e w' => e = .returned (.tuple #[setV x0 x1 x2 x3 x4, .iface 61 (.int .i64 2)]) ∧ Below W.heap.size W w')
    (hK : ∀ W, Below w.heap.size w W → Calls Tryd.prog 10 #[setV x0 x1 x2 x3 x4, decV c d] W fun e w' => e = .returned (.tuple #[.string t, z]) ∧ Below W.heap.size W w') :
    Calls Tryd.prog 5 #[.string s, decV c d] w fun e w' => e = .returned (.bool true) ∧ Below w.heap.size w w' := by
  have KE := Lib.hid en_rules
  have KD := Lib.hid de_rules
  have KR := Lib.hid hR
  have KK := Lib.hid hK
  clear hR hK
  go_enter Tryd.func5, Tryd.ntmps5
  go_wp2_with fail
  refine (KE.out _).mono ?_
  rintro e w1 ⟨rfl, hb⟩
  have w1d0 : w1.cell? ⟨w.heap.size, 0, none⟩ = some (.int .i64 c) := carry hb (by go_simp)
  have w1d1 : w1.cell? ⟨w.heap.size, 1, none⟩ = some (.int .i64 d) := carry hb (by go_simp)
  have HB1 : Hid (Below w.heap.size w w1) := Lib.hid (by (repeat (first | with_reducible exact Below.refl _ _ | with_reducible refine bel_set ?_ ?_ | with_reducible refine bel_alloc ?_ ?_ | with_reducible refine Below.drew ?_ | with_reducible refine bel_drewN _ ?_ | with_reducible refine bel_call ?_ (by assumption) ?_)); all_goals (first | (simp; done) | omega | (simp; omega)))
  have q1 := lt_of_cell w1d0
  clear hb
  go_wp2_with fail
  refine (KD.out _).mono ?_
  rintro e w2 ⟨rfl, hb⟩
  have w2d0 := carry hb (carry ((Below.refl _ _).alloc (Nat.le_refl _) _) w1d0)
  have w2d1 := carry hb (carry ((Below.refl _ _).alloc (Nat.le_refl _) _) w1d1)
  have w2e0 : w2.cell? ⟨w1.heap.size, 0, none⟩ = some (.string ⟨#[]⟩) := carry hb (by go_simp)
  have w2e1 : w2.cell? ⟨w1.heap.size, 1, none⟩ = some (.string ⟨#[105, 32, 61, 32, 49, 32, 97, 110, 100, 32, 118, 32, 61, 32, 48]⟩) := carry hb (by go_simp)
  have w2e2 : w2.cell? ⟨w1.heap.size, 2, none⟩ = some (.string ⟨#[]⟩) := carry hb (by go_simp)
  have w2e3 : w2.cell? ⟨w1.heap.size, 3, none⟩ = some (.string ⟨#[]⟩) := carry hb (by go_simp)
  have w2e4 : w2.cell? ⟨w1.heap.size, 4, none⟩ = some (.string ⟨#[]⟩) := carry hb (by go_simp)
  have HB2 : Hid (Below w.heap.size w w2) := Lib.hid ((HB1.out.alloc HB1.out.size _).trans (hb.mono (by have := HB1.out.size; simp; omega)))
  have q2 := lt_of_cell w2e0
  clear hb w1d0 w1d1
  go_wp2_with fail
  refine (KR.out _).mono ?_
  rintro e w3 ⟨rfl, hb⟩
  have w3d0 := carry hb (carry ((Below.refl _ _).alloc (Nat.le_refl _) _) w2d0)
  have w3d1 := carry hb (carry ((Below.refl _ _).alloc (Nat.le_refl _) _) w2d1)
  have w3e0 := carry hb (carry ((Below.refl _ _).alloc (Nat.le_refl _) _) w2e0)
  have w3e1 := carry hb (carry ((Below.refl _ _).alloc (Nat.le_refl _) _) w2e1)
  have w3e2 := carry hb (carry ((Below.refl _ _).alloc (Nat.le_refl _) _) w2e2)
  have w3e3 := carry hb (carry ((Below.refl _ _).alloc (Nat.le_refl _) _) w2e3)
  have w3e4 := carry hb (carry ((Below.refl _ _).alloc (Nat.le_refl _) _) w2e4)
  have w3g0 : w3.cell? ⟨w2.heap.size, 0, none⟩ = some (.string ⟨#[]⟩) := carry hb (by go_simp)
  have w3g1 : w3.cell? ⟨w2.heap.size, 1, none⟩ = some (.string ⟨#[105, 32, 61, 32, 49, 32, 97, 110, 100, 32, 118, 32, 61, 32, 48]⟩) := carry hb (by go_simp)
  have w3g2 : w3.cell? ⟨w2.heap.size, 2, none⟩ = some (.string ⟨#[]⟩) := carry hb (by go_simp)
  have w3g3 : w3.cell? ⟨w2.heap.size, 3, none⟩ = some (.string ⟨#[]⟩) := carry hb (by go_simp)
  have w3g4 : w3.cell? ⟨w2.heap.size, 4, none⟩ = some (.string ⟨#[]⟩) := carry hb (by go_simp)
  have HB3 : Hid (Below w.heap.size w w3) := Lib.hid ((HB2.out.alloc HB2.out.size _).trans (hb.mono (by have := HB2.out.size; simp; omega)))
  have q3 := lt_of_cell w3g0
  have q13 : w1.heap.size < w3.heap.size := by omega
  have q03 : w.heap.size < w3.heap.size := by omega
  clear hb w2d0 w2d1 w2e0 w2e1 w2e2 w2e3 w2e4
  go_wp2_with fail
  refine (KK.out _ (HB3.out.alloc HB3.out.size _)).mono ?_
  rintro e w4 ⟨rfl, hb⟩
  have w4d0 := carry hb (carry ((Below.refl _ _).alloc (Nat.le_refl _) _) w3d0)
  have w4d1 := carry hb (carry ((Below.refl _ _).alloc (Nat.le_refl _) _) w3d1)
  have HB4 : Hid (Below w.heap.size w w4) := Lib.hid ((HB3.out.alloc HB3.out.size _).trans (hb.mono (by have := HB3.out.size; simp; omega)))
  clear hb w3d0 w3d1 w3e0 w3g0 w3e1 w3g1 w3e2 w3g2 w3e3 w3g3 w3e4 w3g4
  go_wp2_with fail
  go_ret
  exact ⟨rfl, HB4.out⟩


set_option maxRecDepth 100000 in
set_option maxHeartbeats 4000000 in
theorem same_err (s x0 x1 x2 x3 x4 : ByteArray) (c d : Int) (w : World) (t : ByteArray) (E : Int)
    (hR : ∀ W, Calls Tryd.prog 11 #[.string s] W fun e w' => e = .returned (.tuple #[setV x0 x1 x2 x3 x4, .nilIface]) ∧ Below W.heap.size W w')
    (hK : ∀ W, Below w.heap.size w W → Calls Tryd.prog 10 #[setV x0 x1 x2 x3 x4, decV c d] W fun e w' => e = .returned (.tuple #[.string t, .iface 61 (.int .i64 E)]) ∧ Below W.heap.size W w') :
    Calls Tryd.prog 5 #[.string s, decV c d] w fun e w' => e = .returned (.bool true) ∧ Below w.heap.size w w' := by
  have KE := Lib.hid en_rules
  have KD := Lib.hid de_rules
  have KR := Lib.hid hR
  have KK := Lib.hid hK
  clear hR hK
  go_enter Tryd.func5, Tryd.ntmps5
  go_wp2_with fail
  refine (KE.out _).mono ?_
  rintro e w1 ⟨rfl, hb⟩
  have w1d0 : w1.cell? ⟨w.heap.size, 0, none⟩ = some (.int .i64 c) := carry hb (by go_simp)
  have w1d1 : w1.cell? ⟨w.heap.size, 1, none⟩ = some (.int .i64 d) := carry hb (by go_simp)
  have HB1 : Hid (Below w.heap.size w w1) := Lib.hid (by (repeat (first | with_reducible exact Below.refl _ _ | with_reducible refine bel_set ?_ ?_ | with_reducible refine bel_alloc ?_ ?_ | with_reducible refine Below.drew ?_ | with_reducible refine bel_drewN _ ?_ | with_reducible refine bel_call ?_ (by assumption) ?_)); all_goals (first | (simp; done) | omega | (simp; omega)))
  have q1 := lt_of_cell w1d0
  clear hb
  go_wp2_with fail
  refine (KD.out _).mono ?_
  rintro e w2 ⟨rfl, hb⟩
  have w2d0 := carry hb (carry ((Below.refl _ _).alloc (Nat.le_refl _) _) w1d0)
  have w2d1 := carry hb (carry ((Below.refl _ _).alloc (Nat.le_refl _) _) w1d1)
  have w2e0 : w2.cell? ⟨w1.heap.size, 0, none⟩ = some (.string ⟨#[]⟩) := carry hb (by go_simp)
  have w2e1 : w2.cell? ⟨w1.heap.size, 1, none⟩ = some (.string ⟨#[105, 32, 61, 32, 49, 32, 97, 110, 100, 32, 118, 32, 61, 32, 48]⟩) := carry hb (by go_simp)
  have w2e2 : w2.cell? ⟨w1.heap.size, 2, none⟩ = some (.string ⟨#[]⟩) := carry hb (by go_simp)
  have w2e3 : w2.cell? ⟨w1.heap.size, 3, none⟩ = some (.string ⟨#[]⟩) := carry hb (by go_simp)
  have w2e4 : w2.cell? ⟨w1.heap.size, 4, none⟩ = some (.string ⟨#[]⟩) := carry hb (by go_simp)
  have HB2 : Hid (Below w.heap.size w w2) := Lib.hid ((HB1.out.alloc HB1.out.size _).trans (hb.mono (by have := HB1.out.size; simp; omega)))
  have q2 := lt_of_cell w2e0
  clear hb w1d0 w1d1
  go_wp2_with fail
  refine (KR.out _).mono ?_
  rintro e w3 ⟨rfl, hb⟩
  have w3d0 := carry hb (carry ((Below.refl _ _).alloc (Nat.le_refl _) _) w2d0)
  have w3d1 := carry hb (carry ((Below.refl _ _).alloc (Nat.le_refl _) _) w2d1)
  have w3e0 := carry hb (carry ((Below.refl _ _).alloc (Nat.le_refl _) _) w2e0)
  have w3e1 := carry hb (carry ((Below.refl _ _).alloc (Nat.le_refl _) _) w2e1)
  have w3e2 := carry hb (carry ((Below.refl _ _).alloc (Nat.le_refl _) _) w2e2)
  have w3e3 := carry hb (carry ((Below.refl _ _).alloc (Nat.le_refl _) _) w2e3)
  have w3e4 := carry hb (carry ((Below.refl _ _).alloc (Nat.le_refl _) _) w2e4)
  have w3g0 : w3.cell? ⟨w2.heap.size, 0, none⟩ = some (.string ⟨#[]⟩) := carry hb (by go_simp)
  have w3g1 : w3.cell? ⟨w2.heap.size, 1, none⟩ = some (.string ⟨#[105, 32, 61, 32, 49, 32, 97, 110, 100, 32, 118, 32, 61, 32, 48]⟩) := carry hb (by go_simp)
  have w3g2 : w3.cell? ⟨w2.heap.size, 2, none⟩ = some (.string ⟨#[]⟩) := carry hb (by go_simp)
  have w3g3 : w3.cell? ⟨w2.heap.size, 3, none⟩ = some (.string ⟨#[]⟩) := carry hb (by go_simp)
  have w3g4 : w3.cell? ⟨w2.heap.size, 4, none⟩ = some (.string ⟨#[]⟩) := carry hb (by go_simp)
  have HB3 : Hid (Below w.heap.size w w3) := Lib.hid ((HB2.out.alloc HB2.out.size _).trans (hb.mono (by have := HB2.out.size; simp; omega)))
  have q3 := lt_of_cell w3g0
  have q13 : w1.heap.size < w3.heap.size := by omega
  have q03 : w.heap.size < w3.heap.size := by omega
  clear hb w2d0 w2d1 w2e0 w2e1 w2e2 w2e3 w2e4
  go_wp2_with fail
  refine (KK.out _ (HB3.out.alloc HB3.out.size _)).mono ?_
  rintro e w4 ⟨rfl, hb⟩
  have w4d0 := carry hb (carry ((Below.refl _ _).alloc (Nat.le_refl _) _) w3d0)
  have w4d1 := carry hb (carry ((Below.refl _ _).alloc (Nat.le_refl _) _) w3d1)
  have HB4 : Hid (Below w.heap.size w w4) := Lib.hid ((HB3.out.alloc HB3.out.size _).trans (hb.mono (by have := HB3.out.size; simp; omega)))
  clear hb w3d0 w3d1 w3e0 w3g0 w3e1 w3g1 w3e2 w3g2 w3e3 w3g3 w3e4 w3g4
  go_wp2_with fail
  go_ret
  exact ⟨rfl, HB4.out⟩


set_option maxRecDepth 100000 in
set_option maxHeartbeats 4000000 in
theorem same_whole (s x0 x1 x2 x3 x4 : ByteArray) (c d : Int) (w : World) (t : ByteArray) (h0 : d = 0)
    (hR : ∀ W, Calls Tryd.prog 11 #[.string s] W fun e w' => e = .returned (.tuple #[setV x0 x1 x2 x3 x4, .nilIface]) ∧ Below W.heap.size W w')
    (hK : ∀ W, Below w.heap.size w W → Calls Tryd.prog 10 #[setV x0 x1 x2 x3 x4, decV c d] W fun e w' => e = .returned (.tuple #[.string t, .nilIface]) ∧ Below W.heap.size W w') :
    Calls Tryd.prog 5 #[.string s, decV c d] w fun e w' => e = .returned (.bool true) ∧ Below w.heap.size w w' := by
  have KE := Lib.hid en_rules
  have KD := Lib.hid de_rules
  have KR := Lib.hid hR
  have KK := Lib.hid hK
  clear hR hK
  have hd1 : ((d : Int) == 0) = true := by rw [h0]; rfl
  clear h0
  go_enter Tryd.func5, Tryd.ntmps5
  go_wp2_with fail
  refine (KE.out _).mono ?_
  rintro e w1 ⟨rfl, hb⟩
  have w1d0 : w1.cell? ⟨w.heap.size, 0, none⟩ = some (.int .i64 c) := carry hb (by go_simp)
  have w1d1 : w1.cell? ⟨w.heap.size, 1, none⟩ = some (.int .i64 d) := carry hb (by go_simp)
  have HB1 : Hid (Below w.heap.size w w1) := Lib.hid (by (repeat (first | with_reducible exact Below.refl _ _ | with_reducible refine bel_set ?_ ?_ | with_reducible refine bel_alloc ?_ ?_ | with_reducible refine Below.drew ?_ | with_reducible refine bel_drewN _ ?_ | with_reducible refine bel_call ?_ (by assumption) ?_)); all_goals (first | (simp; done) | omega | (simp; omega)))
  have q1 := lt_of_cell w1d0
  clear hb
  go_wp2_with fail
  refine (KD.out _).mono ?_
  rintro e w2 ⟨rfl, hb⟩
  have w2d0 := carry hb (carry ((Below.refl _ _).alloc (Nat.le_refl _) _) w1d0)
  have w2d1 := carry hb (carry ((Below.refl _ _).alloc (Nat.le_refl _) _) w1d1)
  have w2e0 : w2.cell? ⟨w1.heap.size, 0, none⟩ = some (.string ⟨#[]⟩) := carry hb (by go_simp)
  have w2e1 : w2.cell? ⟨w1.heap.size, 1, none⟩ = some (.string ⟨#[105, 32, 61, 32, 49, 32, 97, 110, 100, 32, 118, 32, 61, 32, 48]⟩) := carry hb (by go_simp)
  have w2e2 : w2.cell? ⟨w1.heap.size, 2, none⟩ = some (.string ⟨#[]⟩) := carry hb (by go_simp)
  have w2e3 : w2.cell? ⟨w1.heap.size, 3, none⟩ = some (.string ⟨#[]⟩) := carry hb (by go_simp)
  have w2e4 : w2.cell? ⟨w1.heap.size, 4, none⟩ = some (.string ⟨#[]⟩) := carry hb (by go_simp)
  have HB2 : Hid (Below w.heap.size w w2) := Lib.hid ((HB1.out.alloc HB1.out.size _).trans (hb.mono (by have := HB1.out.size; simp; omega)))
  have q2 := lt_of_cell w2e0
  clear hb w1d0 w1d1
  go_wp2_with fail
  refine (KR.out _).mono ?_
  rintro e w3 ⟨rfl, hb⟩
  have w3d0 := carry hb (carry ((Below.refl _ _).alloc (Nat.le_refl _) _) w2d0)
  have w3d1 := carry hb (carry ((Below.refl _ _).alloc (Nat.le_refl _) _) w2d1)
  have w3e0 := carry hb (carry ((Below.refl _ _).alloc (Nat.le_refl _) _) w2e0)
  have w3e1 := carry hb (carry ((Below.refl _ _).alloc (Nat.le_refl _) _) w2e1)
  have w3e2 := carry hb (carry ((Below.refl _ _).alloc (Nat.le_refl _) _) w2e2)
  have w3e3 := carry hb (carry ((Below.refl _ _).alloc (Nat.le_refl _) _) w2e3)
  have w3e4 := carry hb (carry ((Below.refl _ _).alloc (Nat.le_refl _) _) w2e4)
  have w3g0 : w3.cell? ⟨w2.heap.size, 0, none⟩ = some (.string ⟨#[]⟩) := carry hb (by go_simp)
  have w3g1 : w3.cell? ⟨w2.heap.size, 1, none⟩ = some (.string ⟨#[105, 32, 61, 32, 49, 32, 97, 110, 100, 32, 118, 32, 61, 32, 48]⟩) := carry hb (by go_simp)
  have w3g2 : w3.cell? ⟨w2.heap.size, 2, none⟩ = some (.string ⟨#[]⟩) := carry hb (by go_simp)
  have w3g3 : w3.cell? ⟨w2.heap.size, 3, none⟩ = some (.string ⟨#[]⟩) := carry hb (by go_simp)
  have w3g4 : w3.cell? ⟨w2.heap.size, 4, none⟩ = some (.string ⟨#[]⟩) := carry hb (by go_simp)
  have HB3 : Hid (Below w.heap.size w w3) := Lib.hid ((HB2.out.alloc HB2.out.size _).trans (hb.mono (by have := HB2.out.size; simp; omega)))
  have q3 := lt_of_cell w3g0
  have q13 : w1.heap.size < w3.heap.size := by omega
  have q03 : w.heap.size < w3.heap.size := by omega
  clear hb w2d0 w2d1 w2e0 w2e1 w2e2 w2e3 w2e4
  go_wp2_with fail
  refine (KK.out _ (HB3.out.alloc HB3.out.size _)).mono ?_
  rintro e w4 ⟨rfl, hb⟩
  have w4d0 := carry hb (carry ((Below.refl _ _).alloc (Nat.le_refl _) _) w3d0)
  have w4d1 := carry hb (carry ((Below.refl _ _).alloc (Nat.le_refl _) _) w3d1)
  have HB4 : Hid (Below w.heap.size w w4) := Lib.hid ((HB3.out.alloc HB3.out.size _).trans (hb.mono (by have := HB3.out.size; simp; omega)))
  clear hb w3d0 w3d1 w3e0 w3g0 w3e1 w3g1 w3e2 w3g2 w3e3 w3g3 w3e4 w3g4
  go_wp2_with fail
  go_quiet (fail)
  go_wp2_with fail
  go_ret
  exact ⟨rfl, bel_drewN _ HB4.out⟩


set_option maxRecDepth 100000 in
set_option maxHeartbeats 4000000 in
theorem same_nought (s x0 x1 x2 x3 x4 : ByteArray) (c d : Int) (w : World) (t : ByteArray) (u : Int) (h0 : ¬ d = 0) (hu : 1 ≤ u) (hT : ∀ W, Calls Tryd.prog 12 #[.int .i64 d] W fun e w' => e = .returned (.int .i64 u) ∧ w' = W) (h1 : (c.tmod u == 0) = true)
    (hR : ∀ W, Calls Tryd.prog 11 #[.string s] W fun e w' => e = .returned (.tuple #[setV x0 x1 x2 x3 x4, .nilIface]) ∧ Below W.heap.size W w')
    (hK : ∀ W, Below w.heap.size w W → Calls Tryd.prog 10 #[setV x0 x1 x2 x3 x4, decV c d] W fun e w' => e = .returned (.tuple #[.string t, .nilIface]) ∧ Below W.heap.size W w') :
    Calls Tryd.prog 5 #[.string s, decV c d] w fun e w' => e = .returned (.bool true) ∧ Below w.heap.size w w' := by
  have KE := Lib.hid en_rules
  have KD := Lib.hid de_rules
  have KR := Lib.hid hR
  have KK := Lib.hid hK
  clear hR hK
  have hd1 : ((d : Int) == 0) = false := by rw [beq_eq_false_iff_ne]; exact h0
  have HT := Lib.hid hT
  clear hT h0
  go_enter Tryd.func5, Tryd.ntmps5
  go_wp2_with fail
  refine (KE.out _).mono ?_
  rintro e w1 ⟨rfl, hb⟩
  have w1d0 : w1.cell? ⟨w.heap.size, 0, none⟩ = some (.int .i64 c) := carry hb (by go_simp)
  have w1d1 : w1.cell? ⟨w.heap.size, 1, none⟩ = some (.int .i64 d) := carry hb (by go_simp)
  have HB1 : Hid (Below w.heap.size w w1) := Lib.hid (by (repeat (first | with_reducible exact Below.refl _ _ | with_reducible refine bel_set ?_ ?_ | with_reducible refine bel_alloc ?_ ?_ | with_reducible refine Below.drew ?_ | with_reducible refine bel_drewN _ ?_ | with_reducible refine bel_call ?_ (by assumption) ?_)); all_goals (first | (simp; done) | omega | (simp; omega)))
  have q1 := lt_of_cell w1d0
  clear hb
  go_wp2_with fail
  refine (KD.out _).mono ?_
  rintro e w2 ⟨rfl, hb⟩
  have w2d0 := carry hb (carry ((Below.refl _ _).alloc (Nat.le_refl _) _) w1d0)
  have w2d1 := carry hb (carry ((Below.refl _ _).alloc (Nat.le_refl _) _) w1d1)
  have w2e0 : w2.cell? ⟨w1.heap.size, 0, none⟩ = some (.string ⟨#[]⟩) := carry hb (by go_simp)
  have w2e1 : w2.cell? ⟨w1.heap.size, 1, none⟩ = some (.string ⟨#[105, 32, 61, 32, 49, 32, 97, 110, 100, 32, 118, 32, 61, 32, 48]⟩) := carry hb (by go_simp)
  have w2e2 : w2.cell? ⟨w1.heap.size, 2, none⟩ = some (.string ⟨#[]⟩) := carry hb (by go_simp)
  have w2e3 : w2.cell? ⟨w1.heap.size, 3, none⟩ = some (.string ⟨#[]⟩) := carry hb (by go_simp)
  have w2e4 : w2.cell? ⟨w1.heap.size, 4, none⟩ = some (.string ⟨#[]⟩) := carry hb (by go_simp)
  have HB2 : Hid (Below w.heap.size w w2) := Lib.hid ((HB1.out.alloc HB1.out.size _).trans (hb.mono (by have := HB1.out.size; simp; omega)))
  have q2 := lt_of_cell w2e0
  clear hb w1d0 w1d1
  go_wp2_with fail
  refine (KR.out _).mono ?_
  rintro e w3 ⟨rfl, hb⟩
  have w3d0 := carry hb (carry ((Below.refl _ _).alloc (Nat.le_refl _) _) w2d0)
  have w3d1 := carry hb (carry ((Below.refl _ _).alloc (Nat.le_refl _) _) w2d1)
  have w3e0 := carry hb (carry ((Below.refl _ _).alloc (Nat.le_refl _) _) w2e0)
  have w3e1 := carry hb (carry ((Below.refl _ _).alloc (Nat.le_refl _) _) w2e1)
  have w3e2 := carry hb (carry ((Below.refl _ _).alloc (Nat.le_refl _) _) w2e2)
  have w3e3 := carry hb (carry ((Below.refl _ _).alloc (Nat.le_refl _) _) w2e3)
  have w3e4 := carry hb (carry ((Below.refl _ _).alloc (Nat.le_refl _) _) w2e4)
  have w3g0 : w3.cell? ⟨w2.heap.size, 0, none⟩ = some (.string ⟨#[]⟩) := carry hb (by go_simp)
  have w3g1 : w3.cell? ⟨w2.heap.size, 1, none⟩ = some (.string ⟨#[105, 32, 61, 32, 49, 32, 97, 110, 100, 32, 118, 32, 61, 32, 48]⟩) := carry hb (by go_simp)
  have w3g2 : w3.cell? ⟨w2.heap.size, 2, none⟩ = some (.string ⟨#[]⟩) := carry hb (by go_simp)
  have w3g3 : w3.cell? ⟨w2.heap.size, 3, none⟩ = some (.string ⟨#[]⟩) := carry hb (by go_simp)
  have w3g4 : w3.cell? ⟨w2.heap.size, 4, none⟩ = some (.string ⟨#[]⟩) := carry hb (by go_simp)
  have HB3 : Hid (Below w.heap.size w w3) := Lib.hid ((HB2.out.alloc HB2.out.size _).trans (hb.mono (by have := HB2.out.size; simp; omega)))
  have q3 := lt_of_cell w3g0
  have q13 : w1.heap.size < w3.heap.size := by omega
  have q03 : w.heap.size < w3.heap.size := by omega
  clear hb w2d0 w2d1 w2e0 w2e1 w2e2 w2e3 w2e4
  go_wp2_with fail
  refine (KK.out _ (HB3.out.alloc HB3.out.size _)).mono ?_
  rintro e w4 ⟨rfl, hb⟩
  have w4d0 := carry hb (carry ((Below.refl _ _).alloc (Nat.le_refl _) _) w3d0)
  have w4d1 := carry hb (carry ((Below.refl _ _).alloc (Nat.le_refl _) _) w3d1)
  have HB4 : Hid (Below w.heap.size w w4) := Lib.hid ((HB3.out.alloc HB3.out.size _).trans (hb.mono (by have := HB3.out.size; simp; omega)))
  clear hb w3d0 w3d1 w3e0 w3g0 w3e1 w3g1 w3e2 w3g2 w3e3 w3g3 w3e4 w3g4
  go_wp2_with fail
  go_quiet ((go_at_call 12; exact Calls.quiet_of_same (HT.out _)))
  go_wp2_with fail
  go_ret
  exact ⟨rfl, bel_drewN _ HB4.out⟩


set_option maxRecDepth 100000 in
set_option maxHeartbeats 4000000 in
theorem same_0 (s x0 x1 x2 x3 x4 : ByteArray) (c d : Int) (w : World) (u : Int) (h0 : ¬ d = 0) (hu : 1 ≤ u) (hT : ∀ W, Calls Tryd.prog 12 #[.int .i64 d] W fun e w' => e = .returned (.int .i64 u) ∧ w' = W) (h1 : (c.tmod u == 0) = false)
    (hR : ∀ W, Calls Tryd.prog 11 #[.string s] W fun e w' => e = .returned (.tuple #[setV x0 x1 x2 x3 x4, .nilIface]) ∧ Below W.heap.size W w')
    (hK : ∀ W, Below w.heap.size w W → Calls Tryd.prog 10 #[setV x0 x1 x2 x3 x4, decV c d] W fun e w' => e = .returned (.tuple #[.string ⟨#[122, 101, 114, 111]⟩, .nilIface]) ∧ Below W.heap.size W w') :
    Calls Tryd.prog 5 #[.string s, decV c d] w fun e w' => e = .returned (.bool true) ∧ Below w.heap.size w w' := by
  have KE := Lib.hid en_rules
  have KD := Lib.hid de_rules
  have KR := Lib.hid hR
  have KK := Lib.hid hK
  clear hR hK
  have hd1 : ((d : Int) == 0) = false := by rw [beq_eq_false_iff_ne]; exact h0
  have HT := Lib.hid hT
  clear hT h0
  go_enter Tryd.func5, Tryd.ntmps5
  go_wp2_with fail
  refine (KE.out _).mono ?_
  rintro e w1 ⟨rfl, hb⟩
  have w1d0 : w1.cell? ⟨w.heap.size, 0, none⟩ = some (.int .i64 c) := carry hb (by go_simp)
  have w1d1 : w1.cell? ⟨w.heap.size, 1, none⟩ = some (.int .i64 d) := carry hb (by go_simp)
  have HB1 : Hid (Below w.heap.size w w1) := Lib.hid (by (repeat (first | with_reducible exact Below.refl _ _ | with_reducible refine bel_set ?_ ?_ | with_reducible refine bel_alloc ?_ ?_ | with_reducible refine Below.drew ?_ | with_reducible refine bel_drewN _ ?_ | with_reducible refine bel_call ?_ (by assumption) ?_)); all_goals (first | (simp; done) | omega | (simp; omega)))
  have q1 := lt_of_cell w1d0
  clear hb
  go_wp2_with fail
  refine (KD.out _).mono ?_
  rintro e w2 ⟨rfl, hb⟩
  have w2d0 := carry hb (carry ((Below.refl _ _).alloc (Nat.le_refl _) _) w1d0)
  have w2d1 := carry hb (carry ((Below.refl _ _).alloc (Nat.le_refl _) _) w1d1)
  have w2e0 : w2.cell? ⟨w1.heap.size, 0, none⟩ = some (.string ⟨#[]⟩) := carry hb (by go_simp)
  have w2e1 : w2.cell? ⟨w1.heap.size, 1, none⟩ = some (.string ⟨#[105, 32, 61, 32, 49, 32, 97, 110, 100, 32, 118, 32, 61, 32, 48]⟩) := carry hb (by go_simp)
  have w2e2 : w2.cell? ⟨w1.heap.size, 2, none⟩ = some (.string ⟨#[]⟩) := carry hb (by go_simp)
  have w2e3 : w2.cell? ⟨w1.heap.size, 3, none⟩ = some (.string ⟨#[]⟩) := carry hb (by go_simp)
  have w2e4 : w2.cell? ⟨w1.heap.size, 4, none⟩ = some (.string ⟨#[]⟩) := carry hb (by go_simp)
  have HB2 : Hid (Below w.heap.size w w2) := Lib.hid ((HB1.out.alloc HB1.out.size _).trans (hb.mono (by have := HB1.out.size; simp; omega)))
  have q2 := lt_of_cell w2e0
  clear hb w1d0 w1d1
  go_wp2_with fail
  refine (KR.out _).mono ?_
  rintro e w3 ⟨rfl, hb⟩
  have w3d0 := carry hb (carry ((Below.refl _ _).alloc (Nat.le_refl _) _) w2d0)
  have w3d1 := carry hb (carry ((Below.refl _ _).alloc (Nat.le_refl _) _) w2d1)
  have w3e0 := carry hb (carry ((Below.refl _ _).alloc (Nat.le_refl _) _) w2e0)
  have w3e1 := carry hb (carry ((Below.refl _ _).alloc (Nat.le_refl _) _) w2e1)
  have w3e2 := carry hb (carry ((Below.refl _ _).alloc (Nat.le_refl _) _) w2e2)
  have w3e3 := carry hb (carry ((Below.refl _ _).alloc (Nat.le_refl _) _) w2e3)
  have w3e4 := carry hb (carry ((Below.refl _ _).alloc (Nat.le_refl _) _) w2e4)
  have w3g0 : w3.cell? ⟨w2.heap.size, 0, none⟩ = some (.string ⟨#[]⟩) := carry hb (by go_simp)
  have w3g1 : w3.cell? ⟨w2.heap.size, 1, none⟩ = some (.string ⟨#[105, 32, 61, 32, 49, 32, 97, 110, 100, 32, 118, 32, 61, 32, 48]⟩) := carry hb (by go_simp)
  have w3g2 : w3.cell? ⟨w2.heap.size, 2, none⟩ = some (.string ⟨#[]⟩) := carry hb (by go_simp)
  have w3g3 : w3.cell? ⟨w2.heap.size, 3, none⟩ = some (.string ⟨#[]⟩) := carry hb (by go_simp)
  have w3g4 : w3.cell? ⟨w2.heap.size, 4, none⟩ = some (.string ⟨#[]⟩) := carry hb (by go_simp)
  have HB3 : Hid (Below w.heap.size w w3) := Lib.hid ((HB2.out.alloc HB2.out.size _).trans (hb.mono (by have := HB2.out.size; simp; omega)))
  have q3 := lt_of_cell w3g0
  have q13 : w1.heap.size < w3.heap.size := by omega
  have q03 : w.heap.size < w3.heap.size := by omega
  clear hb w2d0 w2d1 w2e0 w2e1 w2e2 w2e3 w2e4
  go_wp2_with fail
  refine (KK.out _ (HB3.out.alloc HB3.out.size _)).mono ?_
  rintro e w4 ⟨rfl, hb⟩
  have w4d0 := carry hb (carry ((Below.refl _ _).alloc (Nat.le_refl _) _) w3d0)
  have w4d1 := carry hb (carry ((Below.refl _ _).alloc (Nat.le_refl _) _) w3d1)
  have HB4 : Hid (Below w.heap.size w w4) := Lib.hid ((HB3.out.alloc HB3.out.size _).trans (hb.mono (by have := HB3.out.size; simp; omega)))
  clear hb w3d0 w3d1 w3e0 w3g0 w3e1 w3g1 w3e2 w3g2 w3e3 w3g3 w3e4 w3g4
  go_wp2_with fail
  go_quiet ((go_at_call 12; exact Calls.quiet_of_same (HT.out _)))
  go_wp2_with fail
  go_ret
  exact ⟨rfl, bel_drewN _ HB4.out⟩


set_option maxRecDepth 100000 in
set_option maxHeartbeats 4000000 in
theorem same_1 (s x0 x1 x2 x3 x4 : ByteArray) (c d : Int) (w : World) (u : Int) (h0 : ¬ d = 0) (hu : 1 ≤ u) (hT : ∀ W, Calls Tryd.prog 12 #[.int .i64 d] W fun e w' => e = .returned (.int .i64 u) ∧ w' = W) (h1 : (c.tmod u == 0) = false)
    (hR : ∀ W, Calls Tryd.prog 11 #[.string s] W fun e w' => e = .returned (.tuple #[setV x0 x1 x2 x3 x4, .nilIface]) ∧ Below W.heap.size W w')
    (hK : ∀ W, Below w.heap.size w W → Calls Tryd.prog 10 #[setV x0 x1 x2 x3 x4, decV c d] W fun e w' => e = .returned (.tuple #[.string ⟨#[111, 110, 101]⟩, .nilIface]) ∧ Below W.heap.size W w') :
    Calls Tryd.prog 5 #[.string s, decV c d] w fun e w' => e = .returned (.bool true) ∧ Below w.heap.size w w' := by
  have KE := Lib.hid en_rules
  have KD := Lib.hid de_rules
  have KR := Lib.hid hR
  have KK := Lib.hid hK
  clear hR hK
  have hd1 : ((d : Int) == 0) = false := by rw [beq_eq_false_iff_ne]; exact h0
  have HT := Lib.hid hT
  clear hT h0
  go_enter Tryd.func5, Tryd.ntmps5
  go_wp2_with fail
  refine (KE.out _).mono ?_
  rintro e w1 ⟨rfl, hb⟩
  have w1d0 : w1.cell? ⟨w.heap.size, 0, none⟩ = some (.int .i64 c) := carry hb (by go_simp)
  have w1d1 : w1.cell? ⟨w.heap.size, 1, none⟩ = some (.int .i64 d) := carry hb (by go_simp)
  have HB1 : Hid (Below w.heap.size w w1) := Lib.hid (by (repeat (first | with_reducible exact Below.refl _ _ | with_reducible refine bel_set ?_ ?_ | with_reducible refine bel_alloc ?_ ?_ | with_reducible refine Below.drew ?_ | with_reducible refine bel_drewN _ ?_ | with_reducible refine bel_call ?_ (by assumption) ?_)); all_goals (first | (simp; done) | omega | (simp; omega)))
  have q1 := lt_of_cell w1d0
  clear hb
  go_wp2_with fail
  refine (KD.out _).mono ?_
  rintro e w2 ⟨rfl, hb⟩
  have w2d0 := carry hb (carry ((Below.refl _ _).alloc (Nat.le_refl _) _) w1d0)
  have w2d1 := carry hb (carry ((Below.refl _ _).alloc (Nat.le_refl _) _) w1d1)
  have w2e0 : w2.cell? ⟨w1.heap.size, 0, none⟩ = some (.string ⟨#[]⟩) := carry hb (by go_simp)
  have w2e1 : w2.cell? ⟨w1.heap.size, 1, none⟩ = some (.string ⟨#[105, 32, 61, 32, 49, 32, 97, 110, 100, 32, 118, 32, 61, 32, 48]⟩) := carry hb (by go_simp)
  have w2e2 : w2.cell? ⟨w1.heap.size, 2, none⟩ = some (.string ⟨#[]⟩) := carry hb (by go_simp)
  have w2e3 : w2.cell? ⟨w1.heap.size, 3, none⟩ = some (.string ⟨#[]⟩) := carry hb (by go_simp)
  have w2e4 : w2.cell? ⟨w1.heap.size, 4, none⟩ = some (.string ⟨#[]⟩) := carry hb (by go_simp)
  have HB2 : Hid (Below w.heap.size w w2) := Lib.hid ((HB1.out.alloc HB1.out.size _).trans (hb.mono (by have := HB1.out.size; simp; omega)))
  have q2 := lt_of_cell w2e0
  clear hb w1d0 w1d1
  go_wp2_with fail
  refine (KR.out _).mono ?_
  rintro e w3 ⟨rfl, hb⟩
  have w3d0 := carry hb (carry ((Below.refl _ _).alloc (Nat.le_refl _) _) w2d0)
  have w3d1 := carry hb (carry ((Below.refl _ _).alloc (Nat.le_refl _) _) w2d1)
  have w3e0 := carry hb (carry ((Below.refl _ _).alloc (Nat.le_refl _) _) w2e0)
  have w3e1 := carry hb (carry ((Below.refl _ _).alloc (Nat.le_refl _) _) w2e1)
  have w3e2 := carry hb (carry ((Below.refl _ _).alloc (Nat.le_refl _) _) w2e2)
  have w3e3 := carry hb (carry ((Below.refl _ _).alloc (Nat.le_refl _) _) w2e3)
  have w3e4 := carry hb (carry ((Below.refl _ _).alloc (Nat.le_refl _) _) w2e4)
  have w3g0 : w3.cell? ⟨w2.heap.size, 0, none⟩ = some (.string ⟨#[]⟩) := carry hb (by go_simp)
  have w3g1 : w3.cell? ⟨w2.heap.size, 1, none⟩ = some (.string ⟨#[105, 32, 61, 32, 49, 32, 97, 110, 100, 32, 118, 32, 61, 32, 48]⟩) := carry hb (by go_simp)
  have w3g2 : w3.cell? ⟨w2.heap.size, 2, none⟩ = some (.string ⟨#[]⟩) := carry hb (by go_simp)
  have w3g3 : w3.cell? ⟨w2.heap.size, 3, none⟩ = some (.string ⟨#[]⟩) := carry hb (by go_simp)
  have w3g4 : w3.cell? ⟨w2.heap.size, 4, none⟩ = some (.string ⟨#[]⟩) := carry hb (by go_simp)
  have HB3 : Hid (Below w.heap.size w w3) := Lib.hid ((HB2.out.alloc HB2.out.size _).trans (hb.mono (by have := HB2.out.size; simp; omega)))
  have q3 := lt_of_cell w3g0
  have q13 : w1.heap.size < w3.heap.size := by omega
  have q03 : w.heap.size < w3.heap.size := by omega
  clear hb w2d0 w2d1 w2e0 w2e1 w2e2 w2e3 w2e4
  go_wp2_with fail
  refine (KK.out _ (HB3.out.alloc HB3.out.size _)).mono ?_
  rintro e w4 ⟨rfl, hb⟩
  have w4d0 := carry hb (carry ((Below.refl _ _).alloc (Nat.le_refl _) _) w3d0)
  have w4d1 := carry hb (carry ((Below.refl _ _).alloc (Nat.le_refl _) _) w3d1)
  have HB4 : Hid (Below w.heap.size w w4) := Lib.hid ((HB3.out.alloc HB3.out.size _).trans (hb.mono (by have := HB3.out.size; simp; omega)))
  clear hb w3d0 w3d1 w3e0 w3g0 w3e1 w3g1 w3e2 w3g2 w3e3 w3g3 w3e4 w3g4
  go_wp2_with fail
  go_quiet ((go_at_call 12; exact Calls.quiet_of_same (HT.out _)))
  go_wp2_with fail
  go_ret
  exact ⟨rfl, bel_drewN _ HB4.out⟩


set_option maxRecDepth 100000 in
set_option maxHeartbeats 4000000 in
theorem same_4 (s x0 x1 x2 x3 x4 : ByteArray) (c d : Int) (w : World) (u : Int) (h0 : ¬ d = 0) (hu : 1 ≤ u) (hT : ∀ W, Calls Tryd.prog 12 #[.int .i64 d] W fun e w' => e = .returned (.int .i64 u) ∧ w' = W) (h1 : (c.tmod u == 0) = false)
    (hR : ∀ W, Calls Tryd.prog 11 #[.string s] W fun e w' => e = .returned (.tuple #[setV x0 x1 x2 x3 x4, .nilIface]) ∧ Below W.heap.size W w')
    (hK : ∀ W, Below w.heap.size w W → Calls Tryd.prog 10 #[setV x0 x1 x2 x3 x4, decV c d] W fun e w' => e = .returned (.tuple #[.string ⟨#[109, 97, 110, 121]⟩, .nilIface]) ∧ Below W.heap.size W w') :
    Calls Tryd.prog 5 #[.string s, decV c d] w fun e w' => e = .returned (.bool true) ∧ Below w.heap.size w w' := by
  have KE := Lib.hid en_rules
  have KD := Lib.hid de_rules
  have KR := Lib.hid hR
  have KK := Lib.hid hK
  clear hR hK
  have hd1 : ((d : Int) == 0) = false := by rw [beq_eq_false_iff_ne]; exact h0
  have HT := Lib.hid hT
  clear hT h0
  go_enter Tryd.func5, Tryd.ntmps5
  go_wp2_with fail
  refine (KE.out _).mono ?_
  rintro e w1 ⟨rfl, hb⟩
  have w1d0 : w1.cell? ⟨w.heap.size, 0, none⟩ = some (.int .i64 c) := carry hb (by go_simp)
  have w1d1 : w1.cell? ⟨w.heap.size, 1, none⟩ = some (.int .i64 d) := carry hb (by go_simp)
  have HB1 : Hid (Below w.heap.size w w1) := Lib.hid (by (repeat (first | with_reducible exact Below.refl _ _ | with_reducible refine bel_set ?_ ?_ | with_reducible refine bel_alloc ?_ ?_ | with_reducible refine Below.drew ?_ | with_reducible refine bel_drewN _ ?_ | with_reducible refine bel_call ?_ (by assumption) ?_)); all_goals (first | (simp; done) | omega | (simp; omega)))
  have q1 := lt_of_cell w1d0
  clear hb
  go_wp2_with fail
  refine (KD.out _).mono ?_
  rintro e w2 ⟨rfl, hb⟩
  have w2d0 := carry hb (carry ((Below.refl _ _).alloc (Nat.le_refl _) _) w1d0)
  have w2d1 := carry hb (carry ((Below.refl _ _).alloc (Nat.le_refl _) _) w1d1)
  have w2e0 : w2.cell? ⟨w1.heap.size, 0, none⟩ = some (.string ⟨#[]⟩) := carry hb (by go_simp)
  have w2e1 : w2.cell? ⟨w1.heap.size, 1, none⟩ = some (.string ⟨#[105, 32, 61, 32, 49, 32, 97, 110, 100, 32, 118, 32, 61, 32, 48]⟩) := carry hb (by go_simp)
  have w2e2 : w2.cell? ⟨w1.heap.size, 2, none⟩ = some (.string ⟨#[]⟩) := carry hb (by go_simp)
  have w2e3 : w2.cell? ⟨w1.heap.size, 3, none⟩ = some (.string ⟨#[]⟩) := carry hb (by go_simp)
  have w2e4 : w2.cell? ⟨w1.heap.size, 4, none⟩ = some (.string ⟨#[]⟩) := carry hb (by go_simp)
  have HB2 : Hid (Below w.heap.size w w2) := Lib.hid ((HB1.out.alloc HB1.out.size _).trans (hb.mono (by have := HB1.out.size; simp; omega)))
  have q2 := lt_of_cell w2e0
  clear hb w1d0 w1d1
  go_wp2_with fail
  refine (KR.out _).mono ?_
  rintro e w3 ⟨rfl, hb⟩
  have w3d0 := carry hb (carry ((Below.refl _ _).alloc (Nat.le_refl _) _) w2d0)
  have w3d1 := carry hb (carry ((Below.refl _ _).alloc (Nat.le_refl _) _) w2d1)
  have w3e0 := carry hb (carry ((Below.refl _ _).alloc (Nat.le_refl _) _) w2e0)
  have w3e1 := carry hb (carry ((Below.refl _ _).alloc (Nat.le_refl _) _) w2e1)
  have w3e2 := carry hb (carry ((Below.refl _ _).alloc (Nat.le_refl _) _) w2e2)
  have w3e3 := carry hb (carry ((Below.refl _ _).alloc (Nat.le_refl _) _) w2e3)
  have w3e4 := carry hb (carry ((Below.refl _ _).alloc (Nat.le_refl _) _) w2e4)
  have w3g0 : w3.cell? ⟨w2.heap.size, 0, none⟩ = some (.string ⟨#[]⟩) := carry hb (by go_simp)
  have w3g1 : w3.cell? ⟨w2.heap.size, 1, none⟩ = some (.string ⟨#[105, 32, 61, 32, 49, 32, 97, 110, 100, 32, 118, 32, 61, 32, 48]⟩) := carry hb (by go_simp)
  have w3g2 : w3.cell? ⟨w2.heap.size, 2, none⟩ = some (.string ⟨#[]⟩) := carry hb (by go_simp)
  have w3g3 : w3.cell? ⟨w2.heap.size, 3, none⟩ = some (.string ⟨#[]⟩) := carry hb (by go_simp)
  have w3g4 : w3.cell? ⟨w2.heap.size, 4, none⟩ = some (.string ⟨#[]⟩) := carry hb (by go_simp)
  have HB3 : Hid (Below w.heap.size w w3) := Lib.hid ((HB2.out.alloc HB2.out.size _).trans (hb.mono (by have := HB2.out.size; simp; omega)))
  have q3 := lt_of_cell w3g0
  have q13 : w1.heap.size < w3.heap.size := by omega
  have q03 : w.heap.size < w3.heap.size := by omega
  clear hb w2d0 w2d1 w2e0 w2e1 w2e2 w2e3 w2e4
  go_wp2_with fail
  refine (KK.out _ (HB3.out.alloc HB3.out.size _)).mono ?_
  rintro e w4 ⟨rfl, hb⟩
  have w4d0 := carry hb (carry ((Below.refl _ _).alloc (Nat.le_refl _) _) w3d0)
  have w4d1 := carry hb (carry ((Below.refl _ _).alloc (Nat.le_refl _) _) w3d1)
  have HB4 : Hid (Below w.heap.size w w4) := Lib.hid ((HB3.out.alloc HB3.out.size _).trans (hb.mono (by have := HB3.out.size; simp; omega)))
  clear hb w3d0 w3d1 w3e0 w3g0 w3e1 w3g1 w3e2 w3g2 w3e3 w3g3 w3e4 w3g4
  go_wp2_with fail
  go_quiet ((go_at_call 12; exact Calls.quiet_of_same (HT.out _)))
  go_wp2_with fail
  go_ret
  exact ⟨rfl, bel_drewN _ HB4.out⟩


set_option maxRecDepth 100000 in
set_option maxHeartbeats 4000000 in
theorem same_5 (s x0 x1 x2 x3 x4 : ByteArray) (c d : Int) (w : World) (u : Int) (h0 : ¬ d = 0) (hu : 1 ≤ u) (hT : ∀ W, Calls Tryd.prog 12 #[.int .i64 d] W fun e w' => e = .returned (.int .i64 u) ∧ w' = W) (h1 : (c.tmod u == 0) = false)
    (hR : ∀ W, Calls Tryd.prog 11 #[.string s] W fun e w' => e = .returned (.tuple #[setV x0 x1 x2 x3 x4, .nilIface]) ∧ Below W.heap.size W w')
    (hK : ∀ W, Below w.heap.size w W → Calls Tryd.prog 10 #[setV x0 x1 x2 x3 x4, decV c d] W fun e w' => e = .returned (.tuple #[.string ⟨#[111, 116, 104, 101, 114]⟩, .nilIface]) ∧ Below W.heap.size W w') :
    Calls Tryd.prog 5 #[.string s, decV c d] w fun e w' => e = .returned (.bool true) ∧ Below w.heap.size w w' := by
  have KE := Lib.hid en_rules
  have KD := Lib.hid de_rules
  have KR := Lib.hid hR
  have KK := Lib.hid hK
  clear hR hK
  have hd1 : ((d : Int) == 0) = false := by rw [beq_eq_false_iff_ne]; exact h0
  have HT := Lib.hid hT
  clear hT h0
  go_enter Tryd.func5, Tryd.ntmps5
  go_wp2_with fail
  refine (KE.out _).mono ?_
  rintro e w1 ⟨rfl, hb⟩
  have w1d0 : w1.cell? ⟨w.heap.size, 0, none⟩ = some (.int .i64 c) := carry hb (by go_simp)
  have w1d1 : w1.cell? ⟨w.heap.size, 1, none⟩ = some (.int .i64 d) := carry hb (by go_simp)
  have HB1 : Hid (Below w.heap.size w w1) := Lib.hid (by (repeat (first | with_reducible exact Below.refl _ _ | with_reducible refine bel_set ?_ ?_ | with_reducible refine bel_alloc ?_ ?_ | with_reducible refine Below.drew ?_ | with_reducible refine bel_drewN _ ?_ | with_reducible refine bel_call ?_ (by assumption) ?_)); all_goals (first | (simp; done) | omega | (simp; omega)))
  have q1 := lt_of_cell w1d0
  clear hb
  go_wp2_with fail
  refine (KD.out _).mono ?_
  rintro e w2 ⟨rfl, hb⟩
  have w2d0 := carry hb (carry ((Below.refl _ _).alloc (Nat.le_refl _) _) w1d0)
  have w2d1 := carry hb (carry ((Below.refl _ _).alloc (Nat.le_refl _) _) w1d1)
  have w2e0 : w2.cell? ⟨w1.heap.size, 0, none⟩ = some (.string ⟨#[]⟩) := carry hb (by go_simp)
  have w2e1 : w2.cell? ⟨w1.heap.size, 1, none⟩ = some (.string ⟨#[105, 32, 61, 32, 49, 32, 97, 110, 100, 32, 118, 32, 61, 32, 48]⟩) := carry hb (by go_simp)
  have w2e2 : w2.cell? ⟨w1.heap.size, 2, none⟩ = some (.string ⟨#[]⟩) := carry hb (by go_simp)
  have w2e3 : w2.cell? ⟨w1.heap.size, 3, none⟩ = some (.string ⟨#[]⟩) := carry hb (by go_simp)
  have w2e4 : w2.cell? ⟨w1.heap.size, 4, none⟩ = some (.string ⟨#[]⟩) := carry hb (by go_simp)
  have HB2 : Hid (Below w.heap.size w w2) := Lib.hid ((HB1.out.alloc HB1.out.size _).trans (hb.mono (by have := HB1.out.size; simp; omega)))
  have q2 := lt_of_cell w2e0
  clear hb w1d0 w1d1
  go_wp2_with fail
  refine (KR.out _).mono ?_
  rintro e w3 ⟨rfl, hb⟩
  have w3d0 := carry hb (carry ((Below.refl _ _).alloc (Nat.le_refl _) _) w2d0)
  have w3d1 := carry hb (carry ((Below.refl _ _).alloc (Nat.le_refl _) _) w2d1)
  have w3e0 := carry hb (carry ((Below.refl _ _).alloc (Nat.le_refl _) _) w2e0)
  have w3e1 := carry hb (carry ((Below.refl _ _).alloc (Nat.le_refl _) _) w2e1)
  have w3e2 := carry hb (carry ((Below.refl _ _).alloc (Nat.le_refl _) _) w2e2)
  have w3e3 := carry hb (carry ((Below.refl _ _).alloc (Nat.le_refl _) _) w2e3)
  have w3e4 := carry hb (carry ((Below.refl _ _).alloc (Nat.le_refl _) _) w2e4)
  have w3g0 : w3.cell? ⟨w2.heap.size, 0, none⟩ = some (.string ⟨#[]⟩) := carry hb (by go_simp)
  have w3g1 : w3.cell? ⟨w2.heap.size, 1, none⟩ = some (.string ⟨#[105, 32, 61, 32, 49, 32, 97, 110, 100, 32, 118, 32, 61, 32, 48]⟩) := carry hb (by go_simp)
  have w3g2 : w3.cell? ⟨w2.heap.size, 2, none⟩ = some (.string ⟨#[]⟩) := carry hb (by go_simp)
  have w3g3 : w3.cell? ⟨w2.heap.size, 3, none⟩ = some (.string ⟨#[]⟩) := carry hb (by go_simp)
  have w3g4 : w3.cell? ⟨w2.heap.size, 4, none⟩ = some (.string ⟨#[]⟩) := carry hb (by go_simp)
  have HB3 : Hid (Below w.heap.size w w3) := Lib.hid ((HB2.out.alloc HB2.out.size _).trans (hb.mono (by have := HB2.out.size; simp; omega)))
  have q3 := lt_of_cell w3g0
  have q13 : w1.heap.size < w3.heap.size := by omega
  have q03 : w.heap.size < w3.heap.size := by omega
  clear hb w2d0 w2d1 w2e0 w2e1 w2e2 w2e3 w2e4
  go_wp2_with fail
  refine (KK.out _ (HB3.out.alloc HB3.out.size _)).mono ?_
  rintro e w4 ⟨rfl, hb⟩
  have w4d0 := carry hb (carry ((Below.refl _ _).alloc (Nat.le_refl _) _) w3d0)
  have w4d1 := carry hb (carry ((Below.refl _ _).alloc (Nat.le_refl _) _) w3d1)
  have HB4 : Hid (Below w.heap.size w w4) := Lib.hid ((HB3.out.alloc HB3.out.size _).trans (hb.mono (by have := HB3.out.size; simp; omega)))
  clear hb w3d0 w3d1 w3e0 w3g0 w3e1 w3g1 w3e2 w3g2 w3e3 w3g3 w3e4 w3g4
  go_wp2_with fail
  go_quiet ((go_at_call 12; exact Calls.quiet_of_same (HT.out _)))
  go_wp2_with fail
  go_ret
  exact ⟨rfl, bel_drewN _ HB4.out⟩


theorem walk35 (s : ByteArray) (c d : Int) (w : World) (hE : RuleEnv w) (hK : KindsAt w) (hs : s.size ≤ maxLen) (hc : -9223372036854775808 ≤ c ∧ c ≤ 9223372036854775807) :
    Calls Tryd.prog 5 #[.string s, decV c d] w fun e w' => e = .returned (.bool true) ∧ Below w.heap.size w w' := by
  cases hl : langOf s.data.toList with
  | none =>
    have hok : noS.ok = true := jaOk
    have hsm : noS.small := small_set noS (by decide) (by decide) (by decide) (by decide) (by decide)
    by_cases hd : decOk c d
    · obtain ⟨e, rfl⟩ : ∃ e : Nat, d = e := ⟨d.toNat, by have := hd.1; omega⟩
      exact same_none s _ _ _ _ _ c e w _ _ (fun W => lang_none s W hs hl) (fun W hb => kind_ok noS c e W (hE.below hb) (hK.below hb) hsm hok hd)
    · exact same_none s _ _ _ _ _ c d w _ _ (fun W => lang_none s W hs hl) (fun W hb => kind_dec noS c d W (hE.below hb) hsm hok hd)
  | some x =>
    have hok := lang_ok hl
    have hsm := lang_small hl
    have hR := fun W => lang_known s x W hs hl
    by_cases hd : decOk c d
    · obtain ⟨e, rfl⟩ : ∃ e : Nat, d = e := ⟨d.toNat, by have := hd.1; omega⟩
      have k0 := fun W (hb : Below w.heap.size w W) => kind_ok x c e W (hE.below hb) (hK.below hb) hsm hok hd
      have he : e ≤ 9 := by have := hd.2.1; omega
      have hu := ten_bd9 e he
      have hT := fun W => ref_ten e W (by omega)
      by_cases h0 : e = 0
      · exact same_whole s _ _ _ _ _ c e w _ (by omega) hR k0
      · cases h1 : (c.tmod (ten e) == 0) with
        | true => exact same_nought s _ _ _ _ _ c e w _ (ten e) (by omega) hu.1 hT h1 hR k0
        | false =>
          have hne : ¬ c.tmod (ten e) = 0 := by simpa using h1
          have hf := lang_few hl (opsC c e) (by show ((e : Nat) : Int) ≠ 0; omega) (ops_part he hne)
          have hN := kind_le x (opsC c e)
          generalize x.kind (opsC c e) = N at *
          have hc : N = 0 ∨ N = 1 ∨ N = 4 ∨ N = 5 := by omega
          rcases hc with rfl | rfl | rfl | rfl
          · exact same_0 s _ _ _ _ _ c e w (ten e) (by omega) hu.1 hT h1 hR k0
          · exact same_1 s _ _ _ _ _ c e w (ten e) (by omega) hu.1 hT h1 hR k0
          · exact same_4 s _ _ _ _ _ c e w (ten e) (by omega) hu.1 hT h1 hR k0
          · exact same_5 s _ _ _ _ _ c e w (ten e) (by omega) hu.1 hT h1 hR k0
    · exact same_err s _ _ _ _ _ c d w _ 1 hR (fun W hb => kind_dec x c d W (hE.below hb) hsm hok hd)
end Go.Proofs.YtkklemhhimcahaaDoor
