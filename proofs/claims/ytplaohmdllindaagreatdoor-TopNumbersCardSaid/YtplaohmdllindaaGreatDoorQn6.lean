/- DecCheck, DecBase, DecAdd, Only: texts put together. -/
import Derived.Test.YtplaohmdllindaaGreatDoorRows
import Derived.Test.YtplaohmdllindaaGreatDoorQn1
import Derived.WalkKit
import Derived.WalkSpells
import Derived.WalkLawsBesides
import Derived.Deep.QuietTactic
import Derived.BigQuiet
import Derived.Lib.Hide
set_option linter.unusedVariables false
set_option linter.unusedSimpArgs false
/- dec.Check. -/
namespace Go.Proofs.YtplaohmdllindaaGreatDoor
open Go.RowKit

abbrev errV (k : Int) : Value := .iface 70 (.int .i64 k)

theorem dec_check_ok (c s : Int) (w : World) (h : decOk c s) :
    Calls Tryz.prog 32 #[.agg #[.int .i64 c, .int .i64 s]] w fun e w' => e = .returned .nilIface ∧ Below w.heap.size w w' := by
  obtain ⟨h1, h2, h3, h4⟩ := h
  go_enter Tryz.func32, Tryz.ntmps32
  go_wp2
  go_ret
  exact ⟨rfl, (Below.refl _ _).alloc (Nat.le_refl _) _⟩

theorem dec_check_no (c s : Int) (w : World) (h : ¬ decOk c s) :
    Calls Tryz.prog 32 #[.agg #[.int .i64 c, .int .i64 s]] w fun e w' => e = .returned (errV 1) ∧ Below w.heap.size w w' := by
  unfold decOk at h
  go_enter Tryz.func32, Tryz.ntmps32
  go_wp2
  all_goals go_ret
  all_goals exact ⟨rfl, (Below.refl _ _).alloc (Nat.le_refl _) _⟩

abbrev decV (c s : Int) : Value := .agg #[.int .i64 c, .int .i64 s]
end Go.Proofs.YtplaohmdllindaaGreatDoor

/- dec.power. -/
namespace Go.Proofs.YtplaohmdllindaaGreatDoor
open Go.RowKit

set_option maxHeartbeats 400000 in
theorem dec_power (n : Int) (w : World) (h0 : 0 ≤ n) (h1 : n ≤ 18) :
    Calls Tryz.prog 48 #[.int .i64 n] w fun e w' => e = .returned (.int .i64 (ten n.toNat)) ∧ w = w' := by
  obtain ⟨m, rfl⟩ := Int.eq_ofNat_of_zero_le h0
  rw [Int.toNat_natCast]
  have hm : m ≤ 18 := by omega
  go_enter Tryz.func48, Tryz.ntmps48
  go_wp2
  go_loop [3, 5] (fun t i => ∃ k : Nat, k ≤ m ∧ i = .int .i64 k ∧ t = .int .i64 (ten k)) (fun _ i => m - (intOf i).toNat)
  case atStart => exact ⟨0, Nat.zero_le _, rfl, rfl⟩
  case round =>
    obtain ⟨k, hk, rfl, rfl⟩ := hrel
    have hb := ten_bd k (by omega)
    by_cases hlt : k < m
    · have hb2 := ten_bd (k + 1) (by omega)
      have hs := ten_succ k
      have hx : ten k * 10 ≤ 1000000000000000000 := by omega
      have H := Lib.hid hs
      clear hs
      go_wp2
      go_round
      case rel => exact ⟨k + 1, by omega, by go_num, by rw [H.out]⟩
      case measure => simp [intOf]; omega
    · go_wp2
      go_ret
      obtain rfl : k = m := by omega
      exact ⟨rfl, rfl⟩

end Go.Proofs.YtplaohmdllindaaGreatDoor

/- The contract of dec.Add. -/
namespace Go.Proofs.YtplaohmdllindaaGreatDoor
open Go.RowKit

def AddPost (v s : Int) (e : Ending) : Prop := (-1000000000000000 ≤ v ∧ v ≤ 1000000000000000 → e = .returned (.tuple #[decV v s, .nilIface])) ∧ (¬ (-1000000000000000 ≤ v ∧ v ≤ 1000000000000000) → e = .returned (.tuple #[decV 0 0, errV 1]))

theorem dec_add_check1 (c1 s1 c2 s2 : Int) (w : World) (h : ¬ decOk c1 s1) :
    Calls Tryz.prog 178 #[decV c1 s1, decV c2 s2] w fun e w' => e = .returned (.tuple #[decV 0 0, errV 1]) ∧ Below w.heap.size w w' := by
  have H := Lib.hid h
  clear h
  go_enter Tryz.func178, Tryz.ntmps178
  go_wp2_with fail
  refine (dec_check_no c1 s1 _ H.out).mono ?_
  rintro e w1 ⟨rfl, hb⟩
  obtain ⟨hc, hf⟩ := bcell hb
  have hz : w.heap.size + 2 < w1.heap.size := by have := hb.size; simp at this; omega
  go_wp2_with fail
  exact bodyPost_ret (v := .tuple #[decV 0 0, errV 1]) (by simp [results, Tryz.results178, go_sem, hc, hz]) rfl ⟨rfl, belx⟩

set_option maxHeartbeats 400000 in
theorem dec_add_le (c1 s1 c2 s2 : Int) (w : World) (h1 : decOk c1 s1) (h2 : decOk c2 s2) (hs : s1 ≤ s2) :
    Calls Tryz.prog 178 #[decV c1 s1, decV c2 s2] w fun e w' => AddPost (c1 * ten (s2 - s1).toNat + c2) s2 e ∧ Below w.heap.size w w' := by
  have H1 := Lib.hid h1
  have H2 := Lib.hid h2
  obtain ⟨a1, a2, a3, a4⟩ := h1
  obtain ⟨b1, b2, b3, b4⟩ := h2
  obtain ⟨hu1, hu2⟩ := ten_bd9 (s2 - s1).toNat (by omega)
  generalize hue : ten (s2 - s1).toNat = u at hu1 hu2 ⊢
  have HE := Lib.hid hue
  clear hue
  obtain ⟨q1, q2, r1, r2, hqr, _, _⟩ := tdiv_facts c2 u hu1 b3 b4
  have HV := Lib.hid (add_v c1 c2 u hqr)
  have HB := Lib.hid (add_bound (c1 + c2.tdiv u) (c2.tmod u) u hu1 hu2 r1 r2)
  clear hqr
  go_enter Tryz.func178, Tryz.ntmps178
  go_wp2_with fail
  refine (dec_check_ok c1 s1 _ H1.out).mono ?_
  rintro e w1 ⟨rfl, hb⟩
  obtain ⟨hc, hf⟩ := bcell hb
  have hz : w.heap.size + 2 < w1.heap.size := by have := hb.size; simp at this; omega
  go_wp2_with fail
  refine (dec_check_ok c2 s2 _ H2.out).mono ?_
  rintro e w2 ⟨rfl, hb2⟩
  obtain ⟨hc2, hf2⟩ := bcell (hb.trans (hb2.mono hb.size))
  clear hc hf
  have hz2 : w.heap.size + 2 < w2.heap.size := by have := hb2.size; omega
  go_wp2_with fail
  refine (dec_power (s2 - s1) _ (by omega) (by omega)).mono ?_
  rintro e w3 ⟨rfl, rfl⟩
  simp only [HE.out]
  go_wp2_with fail
  go_quiet (fail)
  generalize c2.tdiv u = q at *
  generalize c2.tmod u = r at *
  obtain ⟨k0, k1, k2, k3, k4, k5⟩ := HB.out
  clear HB
  have e2 : (-2000000000000000 : Int).tdiv u = -(2000000000000000 / u) := by
    rw [show (-2000000000000000 : Int) = -(2000000000000000) from rfl, Int.neg_tdiv, Int.tdiv_eq_ediv_of_nonneg (by omega)]
  by_cases t1 : 2000000000000000 / u + 1 < c1 + q
  · have K2 := Lib.hid (k2 t1)
    clear k2 k3 k4 k5
    go_wp2_with fail
    have := K2.out
    exact bodyPost_ret (v := .tuple #[decV 0 0, errV 1]) (by simp [results, Tryz.results178, go_sem, hc2, hz, hz2]) rfl ⟨⟨fun h => absurd h (by have := HV.out; omega), fun _ => rfl⟩, belx⟩
  by_cases t2 : c1 + q < -(2000000000000000 / u) - 1
  · have K3 := Lib.hid (k3 t2)
    clear k2 k3 k4 k5
    go_wp2_with fail
    have := K3.out
    exact bodyPost_ret (v := .tuple #[decV 0 0, errV 1]) (by simp [results, Tryz.results178, go_sem, hc2, hz, hz2]) rfl ⟨⟨fun h => absurd h (by have := HV.out; omega), fun _ => rfl⟩, belx⟩
  · have k4' := k4 (by omega)
    have k5' := k5 (by omega)
    clear k2 k3 k4 k5
    by_cases v1 : (c1 + q) * u + r < -1000000000000000
    · go_wp2_with fail
      exact bodyPost_ret (v := .tuple #[decV 0 0, errV 1]) (by simp [results, Tryz.results178, go_sem, hc2, hz, hz2]) rfl ⟨⟨fun h => absurd h (by have := HV.out; omega), fun _ => rfl⟩, belx⟩
    by_cases v2 : 1000000000000000 < (c1 + q) * u + r
    · go_wp2_with fail
      exact bodyPost_ret (v := .tuple #[decV 0 0, errV 1]) (by simp [results, Tryz.results178, go_sem, hc2, hz, hz2]) rfl ⟨⟨fun h => absurd h (by have := HV.out; omega), fun _ => rfl⟩, belx⟩
    · go_wp2_with fail
      exact bodyPost_ret (v := .tuple #[decV ((c1 + q) * u + r) s2, .nilIface]) (by simp [results, Tryz.results178, go_sem, hc2, hz, hz2]) rfl ⟨⟨fun _ => by rw [HV.out], fun h => absurd h (by have := HV.out; omega)⟩, belx⟩

set_option maxHeartbeats 1600000 in
theorem dec_add_gt (c1 s1 c2 s2 : Int) (w : World) (h1 : decOk c1 s1) (h2 : decOk c2 s2) (hs : s2 < s1) :
    Calls Tryz.prog 178 #[decV c1 s1, decV c2 s2] w fun e w' => AddPost (c2 * ten (s1 - s2).toNat + c1) s1 e ∧ Below w.heap.size w w' := by
  have H1 := Lib.hid h1
  have H2 := Lib.hid h2
  obtain ⟨a1, a2, a3, a4⟩ := h1
  obtain ⟨b1, b2, b3, b4⟩ := h2
  obtain ⟨hu1, hu2⟩ := ten_bd9 (s1 - s2).toNat (by omega)
  generalize hue : ten (s1 - s2).toNat = u at hu1 hu2 ⊢
  have HE := Lib.hid hue
  clear hue
  obtain ⟨q1, q2, r1, r2, hqr, _, _⟩ := tdiv_facts c1 u hu1 a3 a4
  have HV := Lib.hid (add_v c2 c1 u hqr)
  have HB := Lib.hid (add_bound (c2 + c1.tdiv u) (c1.tmod u) u hu1 hu2 r1 r2)
  clear hqr
  go_enter Tryz.func178, Tryz.ntmps178
  go_wp2_with fail
  refine (dec_check_ok c1 s1 _ H1.out).mono ?_
  rintro e w1 ⟨rfl, hb⟩
  obtain ⟨hc, hf⟩ := bcell hb
  have hz : w.heap.size + 2 < w1.heap.size := by have := hb.size; simp at this; omega
  go_wp2_with fail
  refine (dec_check_ok c2 s2 _ H2.out).mono ?_
  rintro e w2 ⟨rfl, hb2⟩
  obtain ⟨hc2, hf2⟩ := bcell (hb.trans (hb2.mono hb.size))
  clear hc hf
  have d00 : w2.cell? ⟨w.heap.size, 0, none⟩ = some (.int .i64 c1) := by rw [hc2 _ _ (by first | (simp; done) | (simp; omega))]; go_simp
  have d01 : w2.cell? ⟨w.heap.size, 1, none⟩ = some (.int .i64 s1) := by rw [hc2 _ _ (by first | (simp; done) | (simp; omega))]; go_simp
  have d10 : w2.cell? ⟨w.heap.size + 1, 0, none⟩ = some (.int .i64 c2) := by rw [hc2 _ _ (by first | (simp; done) | (simp; omega))]; go_simp
  have d11 : w2.cell? ⟨w.heap.size + 1, 1, none⟩ = some (.int .i64 s2) := by rw [hc2 _ _ (by first | (simp; done) | (simp; omega))]; go_simp
  have hz2 : w.heap.size + 2 < w2.heap.size := by have := hb2.size; omega
  go_wp2_with fail
  refine (dec_power (s1 - s2) _ (by omega) (by omega)).mono ?_
  rintro e w3 ⟨rfl, rfl⟩
  simp only [HE.out]
  go_wp2_with fail
  go_quiet (fail)
  generalize c1.tdiv u = q at *
  generalize c1.tmod u = r at *
  obtain ⟨k0, k1, k2, k3, k4, k5⟩ := HB.out
  clear HB
  have e2 : (-2000000000000000 : Int).tdiv u = -(2000000000000000 / u) := by
    rw [show (-2000000000000000 : Int) = -(2000000000000000) from rfl, Int.neg_tdiv, Int.tdiv_eq_ediv_of_nonneg (by omega)]
  by_cases t1 : 2000000000000000 / u + 1 < c2 + q
  · have K2 := Lib.hid (k2 t1)
    clear k2 k3 k4 k5
    go_wp2_with fail
    have := K2.out
    exact bodyPost_ret (v := .tuple #[decV 0 0, errV 1]) (by simp [results, Tryz.results178, go_sem, hc2, hz, hz2]) rfl ⟨⟨fun h => absurd h (by have := HV.out; omega), fun _ => rfl⟩, belx⟩
  by_cases t2 : c2 + q < -(2000000000000000 / u) - 1
  · have K3 := Lib.hid (k3 t2)
    clear k2 k3 k4 k5
    go_wp2_with fail
    have := K3.out
    exact bodyPost_ret (v := .tuple #[decV 0 0, errV 1]) (by simp [results, Tryz.results178, go_sem, hc2, hz, hz2]) rfl ⟨⟨fun h => absurd h (by have := HV.out; omega), fun _ => rfl⟩, belx⟩
  · have k4' := k4 (by omega)
    have k5' := k5 (by omega)
    clear k2 k3 k4 k5
    by_cases v1 : (c2 + q) * u + r < -1000000000000000
    · go_wp2_with fail
      exact bodyPost_ret (v := .tuple #[decV 0 0, errV 1]) (by simp [results, Tryz.results178, go_sem, hc2, hz, hz2]) rfl ⟨⟨fun h => absurd h (by have := HV.out; omega), fun _ => rfl⟩, belx⟩
    by_cases v2 : 1000000000000000 < (c2 + q) * u + r
    · go_wp2_with fail
      exact bodyPost_ret (v := .tuple #[decV 0 0, errV 1]) (by simp [results, Tryz.results178, go_sem, hc2, hz, hz2]) rfl ⟨⟨fun h => absurd h (by have := HV.out; omega), fun _ => rfl⟩, belx⟩
    · go_wp2_with fail
      exact bodyPost_ret (v := .tuple #[decV ((c2 + q) * u + r) s1, .nilIface]) (by simp [results, Tryz.results178, go_sem, hc2, hz, hz2]) rfl ⟨⟨fun _ => by rw [HV.out], fun h => absurd h (by have := HV.out; omega)⟩, belx⟩

end Go.Proofs.YtplaohmdllindaaGreatDoor

/- The contract of linguisterref1.Only. -/
namespace Go.Proofs.YtplaohmdllindaaGreatDoor
open Go.RowKit

end Go.Proofs.YtplaohmdllindaaGreatDoor
