/- Contracts of the functions of package dec. -/
import Derived.Test.YtbbafdhgoekdiaaRows
import Derived.Test.YtbbafdhgoekdiaaShelf
import Derived.Test.YtbbafdhgoekdiaaBase
import Derived.Test.YtbbafdhgoekdiaaDecPlain
import Derived.WalkKit
import Derived.WalkSpells
import Derived.WalkLawsBesides
import Derived.Deep.QuietTactic
import Derived.BigQuiet
import Derived.Lib.Hide
namespace Go.Proofs.Ytbbafdhgoekdiaa
open Go.RowKit

abbrev errV (k : Int) : Value := .iface 48 (.int .i64 k)

theorem dec_check_ok (c s : Int) (w : World) (h : decOk c s) :
    Calls Try.prog 25 #[.agg #[.int .i64 c, .int .i64 s]] w fun e w' => e = .returned .nilIface ∧ Below w.heap.size w w' := by
  obtain ⟨h1, h2, h3, h4⟩ := h
  go_enter Try.func25, Try.ntmps25
  go_wp2
  go_ret
  exact ⟨rfl, (Below.refl _ _).alloc (Nat.le_refl _) _⟩

theorem dec_check_no (c s : Int) (w : World) (h : ¬ decOk c s) :
    Calls Try.prog 25 #[.agg #[.int .i64 c, .int .i64 s]] w fun e w' => e = .returned (errV 1) ∧ Below w.heap.size w w' := by
  unfold decOk at h
  go_enter Try.func25, Try.ntmps25
  go_wp2
  all_goals go_ret
  all_goals exact ⟨rfl, (Below.refl _ _).alloc (Nat.le_refl _) _⟩

set_option maxHeartbeats 400000 in
theorem dec_power (n : Int) (w : World) (h0 : 0 ≤ n) (h1 : n ≤ 18) :
    Calls Try.prog 26 #[.int .i64 n] w fun e w' => e = .returned (.int .i64 (ten n.toNat)) ∧ w = w' := by
  obtain ⟨m, rfl⟩ := Int.eq_ofNat_of_zero_le h0
  rw [Int.toNat_natCast]
  have hm : m ≤ 18 := by omega
  go_enter Try.func26, Try.ntmps26
  go_wp2
  go_loop [3, 5] (fun t i => ∃ k : Nat, k ≤ m ∧ i = .int .i64 k ∧ t = .int .i64 (ten k)) (fun _ i => m - (intOf i).toNat)
  case atStart => exact ⟨0, Nat.zero_le _, rfl, rfl⟩
  case round =>
    obtain ⟨k, hk, rfl, rfl⟩ := hrel
    have hb := ten_bd k (by omega)
    by_cases hlt : k < m
    · have hb2 := ten_bd (k + 1) (by omega)
      have hs := ten_succ k
      have hx : ten k * 10 ≤ 1000000000000000000 := by omega
      have H := Lib.hid hs
      clear hs
      go_wp2
      go_round
      case rel => exact ⟨k + 1, by omega, by go_num, by rw [H.out]⟩
      case measure => simp [intOf]; omega
    · go_wp2
      go_ret
      obtain rfl : k = m := by omega
      exact ⟨rfl, rfl⟩

/-- wide: the product as two words. -/
theorem dec_wide (n k : Int) (w : World) (hn : 0 ≤ n) (hn2 : n ≤ 1000000000000000) (h0 : 0 ≤ k) (h1 : k ≤ 9) :
    Calls Try.prog 27 #[.int .i64 n, .int .i64 k] w fun e w' => e = .returned (.tuple #[.int .u64 (n * ten k.toNat / 18446744073709551616), .int .u64 (n * ten k.toNat % 18446744073709551616)]) ∧ w = w' := by
  obtain ⟨m, rfl⟩ := Int.eq_ofNat_of_zero_le hn
  have hb := ten_bd k.toNat (by omega)
  obtain ⟨t, ht⟩ : ∃ t : Nat, ten k.toNat = t := ⟨(ten k.toNat).toNat, by omega⟩
  have ht2 : t ≤ 1000000000000000000 := by omega
  go_enter Try.func27, Try.ntmps27
  go_wp2_with fail
  refine (dec_power _ _ (by omega) (by omega)).mono ?_
  rintro e w' ⟨rfl, rfl⟩
  simp only [ht]
  have H := Lib.hid ht
  clear hb ht
  go_wp2_with fail
  refine (Try.bits_Mul64 _ _ (by omega) (by omega) _).mono ?_
  rintro e w' ⟨rfl, rfl⟩
  go_wp2
  go_ret2
  exact ⟨by rw [H.out]; simp, rfl⟩

theorem dec_nearer (way whole rest unit sign : Int) (w : World) (h1 : 0 ≤ whole) (h2 : 0 ≤ rest) (h3 : rest ≤ 1000000000000000) :
    Calls Try.prog 28 #[.int .i64 way, .int .i64 whole, .int .i64 rest, .int .i64 unit, .int .i64 sign] w fun e w' => e = .returned (.bool (nearB way whole rest unit sign)) ∧ w = w' := by
  have b1 : 2 * rest ≤ 2000000000000000 := by omega
  by_cases a2 : way = 2
  · subst a2
    go_enter Try.func28, Try.ntmps28
    go_wp2
    all_goals go_ret
    all_goals exact ⟨by first | (simp [nearB, *]; done) | (simp [nearB, *]; omega), rfl⟩
  by_cases a3 : way = 3
  · subst a3
    go_enter Try.func28, Try.ntmps28
    go_wp2
    all_goals go_ret
    all_goals exact ⟨by first | (simp [nearB, *]; done) | (simp [nearB, *]; omega), rfl⟩
  by_cases a4 : way = 4
  · subst a4
    go_enter Try.func28, Try.ntmps28
    go_wp2
    all_goals go_ret
    all_goals exact ⟨by first | (simp [nearB, *]; done) | (simp [nearB, *]; omega), rfl⟩
  by_cases a5 : way = 5
  · subst a5
    go_enter Try.func28, Try.ntmps28
    go_wp2
    all_goals go_ret
    all_goals exact ⟨by first | (simp [nearB, *]; done) | (simp [nearB, *]; omega), rfl⟩
  have c2 : (way == 2) = false := by simpa using a2
  have c3 : (way == 3) = false := by simpa using a3
  have c4 : (way == 4) = false := by simpa using a4
  have c5 : (way == 5) = false := by simpa using a5
  go_enter Try.func28, Try.ntmps28
  go_wp2
  all_goals go_ret
  all_goals exact ⟨by simp [nearB, *], rfl⟩

abbrev decV (c s : Int) : Value := .agg #[.int .i64 c, .int .i64 s]

theorem dec_round_check (c s scale way : Int) (w : World) (h : ¬ decOk c s) :
    Calls Try.prog 20 #[decV c s, .int .i64 scale, .int .i64 way] w fun e w' => e = .returned (.tuple #[decV 0 0, errV 1]) ∧ Below w.heap.size w w' := by
  have H := Lib.hid h
  clear h
  go_enter Try.func20, Try.ntmps20
  go_wp2_with fail
  refine (dec_check_no c s _ H.out).mono ?_
  rintro e w1 ⟨rfl, hb⟩
  obtain ⟨hc, hf⟩ := bcell hb
  have hz : w.heap.size + 1 < w1.heap.size := by have := hb.size; simp at this; omega
  go_wp2_with fail
  exact bodyPost_ret (v := .tuple #[decV 0 0, errV 1]) (by simp [results, Try.results20, go_sem, hc, hz]) rfl ⟨rfl, (by (repeat (first | with_reducible exact Below.refl _ _ | with_reducible refine bel_set ?_ ?_ | with_reducible refine bel_alloc ?_ ?_ | with_reducible refine Below.drew ?_ | with_reducible refine bel_drewN _ ?_ | with_reducible refine bel_call ?_ (by assumption) ?_)); all_goals (first | (simp; done) | omega | (simp; omega)))⟩

theorem dec_round_scale (c s scale way : Int) (w : World) (h : decOk c s) (h1 : ¬ (0 ≤ scale ∧ scale ≤ 9)) :
    Calls Try.prog 20 #[decV c s, .int .i64 scale, .int .i64 way] w fun e w' => e = .returned (.tuple #[decV 0 0, errV 1]) ∧ Below w.heap.size w w' := by
  have H := Lib.hid h
  clear h
  go_enter Try.func20, Try.ntmps20
  go_wp2_with fail
  refine (dec_check_ok c s _ H.out).mono ?_
  rintro e w1 ⟨rfl, hb⟩
  obtain ⟨hc, hf⟩ := bcell hb
  have hz : w.heap.size + 1 < w1.heap.size := by have := hb.size; simp at this; omega
  go_wp2_with fail
  all_goals exact bodyPost_ret (v := .tuple #[decV 0 0, errV 1]) (by simp [results, Try.results20, go_sem, hc, hz]) rfl ⟨rfl, (by (repeat (first | with_reducible exact Below.refl _ _ | with_reducible refine bel_set ?_ ?_ | with_reducible refine bel_alloc ?_ ?_ | with_reducible refine Below.drew ?_ | with_reducible refine bel_drewN _ ?_ | with_reducible refine bel_call ?_ (by assumption) ?_)); all_goals (first | (simp; done) | omega | (simp; omega)))⟩

theorem dec_round_way (c s scale way : Int) (w : World) (h : decOk c s) (h1 : 0 ≤ scale) (h2 : scale ≤ 9) (h3 : ¬ (1 ≤ way ∧ way ≤ 5)) :
    Calls Try.prog 20 #[decV c s, .int .i64 scale, .int .i64 way] w fun e w' => e = .returned (.tuple #[decV 0 0, errV 3]) ∧ Below w.heap.size w w' := by
  have H := Lib.hid h
  clear h
  go_enter Try.func20, Try.ntmps20
  go_wp2_with fail
  refine (dec_check_ok c s _ H.out).mono ?_
  rintro e w1 ⟨rfl, hb⟩
  obtain ⟨hc, hf⟩ := bcell hb
  have hz : w.heap.size + 1 < w1.heap.size := by have := hb.size; simp at this; omega
  go_wp2_with fail
  all_goals exact bodyPost_ret (v := .tuple #[decV 0 0, errV 3]) (by simp [results, Try.results20, go_sem, hc, hz]) rfl ⟨rfl, (by (repeat (first | with_reducible exact Below.refl _ _ | with_reducible refine bel_set ?_ ?_ | with_reducible refine bel_alloc ?_ ?_ | with_reducible refine Below.drew ?_ | with_reducible refine bel_drewN _ ?_ | with_reducible refine bel_call ?_ (by assumption) ?_)); all_goals (first | (simp; done) | omega | (simp; omega)))⟩

def RUp (p v scale : Int) (e : Ending) : Prop := (p ≤ 1000000000000000 → e = .returned (.tuple #[decV v scale, .nilIface])) ∧ (1000000000000000 < p → e = .returned (.tuple #[decV 0 0, errV 1]))
set_option maxHeartbeats 400000 in
theorem dec_round_up (c s scale way : Int) (w : World) (h : decOk c s) (h1 : 0 ≤ scale) (h2 : scale ≤ 9) (h3 : 1 ≤ way) (h4 : way ≤ 5) (h5 : s ≤ scale) (h6 : 0 ≤ c) :
    Calls Try.prog 20 #[decV c s, .int .i64 scale, .int .i64 way] w fun e w' => RUp (c * ten (scale - s).toNat) (1 * (c * ten (scale - s).toNat)) scale e ∧ Below w.heap.size w w' := by
  have H := Lib.hid h
  obtain ⟨q1, q2, q3, q4⟩ := h
  have hnn : 0 ≤ (c * ten (scale - s).toNat) := Int.mul_nonneg (by omega) (by have := ten_bd (scale - s).toNat (by omega); omega)
  generalize hpe : c * ten (scale - s).toNat = p at hnn ⊢
  have HE := Lib.hid hpe
  have HW := Lib.hid (dec_wide_parts p hnn)
  clear hnn hpe
  go_enter Try.func20, Try.ntmps20
  go_wp2_with fail
  refine (dec_check_ok c s _ H.out).mono ?_
  rintro e w1 ⟨rfl, hb⟩
  obtain ⟨hc, hf⟩ := bcell hb
  have hz : w.heap.size + 1 < w1.heap.size := by have := hb.size; simp at this; omega
  go_wp2_with fail
  go_quiet (fail)
  go_wp2_with fail
  refine (dec_wide (c) (scale - s) _ (by omega) (by omega) (by omega) (by omega)).mono ?_
  rintro e w2 ⟨rfl, rfl⟩
  simp only [HE.out]
  generalize p / 18446744073709551616 = hi at HW ⊢
  generalize p % 18446744073709551616 = lo at HW ⊢
  by_cases hp : p ≤ 1000000000000000
  · obtain ⟨h1', h2', hlo⟩ := HW.out.1 hp
    subst h1' h2'
    clear HW
    go_wp2_with fail
    exact bodyPost_ret (v := .tuple #[decV (1 * lo) scale, .nilIface]) (by simp [results, Try.results20, go_sem, hc, hz]) rfl ⟨⟨fun _ => rfl, fun h => absurd h (by omega)⟩, (by (repeat (first | with_reducible exact Below.refl _ _ | with_reducible refine bel_set ?_ ?_ | with_reducible refine bel_alloc ?_ ?_ | with_reducible refine Below.drew ?_ | with_reducible refine bel_drewN _ ?_ | with_reducible refine bel_call ?_ (by assumption) ?_)); all_goals (first | (simp; done) | omega | (simp; omega)))⟩
  · obtain ⟨hq, hq1, hq2⟩ := HW.out.2 (by omega)
    clear HW
    go_wp2_with fail
    all_goals exact bodyPost_ret (v := .tuple #[decV 0 0, errV 1]) (by simp [results, Try.results20, go_sem, hc, hz]) rfl ⟨⟨fun h => absurd h (by omega), fun _ => rfl⟩, (by (repeat (first | with_reducible exact Below.refl _ _ | with_reducible refine bel_set ?_ ?_ | with_reducible refine bel_alloc ?_ ?_ | with_reducible refine Below.drew ?_ | with_reducible refine bel_drewN _ ?_ | with_reducible refine bel_call ?_ (by assumption) ?_)); all_goals (first | (simp; done) | omega | (simp; omega)))⟩

set_option maxHeartbeats 400000 in
theorem dec_round_up_neg (c s scale way : Int) (w : World) (h : decOk c s) (h1 : 0 ≤ scale) (h2 : scale ≤ 9) (h3 : 1 ≤ way) (h4 : way ≤ 5) (h5 : s ≤ scale) (h6 : c < 0) :
    Calls Try.prog 20 #[decV c s, .int .i64 scale, .int .i64 way] w fun e w' => RUp (-c * ten (scale - s).toNat) (-1 * (-c * ten (scale - s).toNat)) scale e ∧ Below w.heap.size w w' := by
  have H := Lib.hid h
  obtain ⟨q1, q2, q3, q4⟩ := h
  have hnn : 0 ≤ (-c * ten (scale - s).toNat) := Int.mul_nonneg (by omega) (by have := ten_bd (scale - s).toNat (by omega); omega)
  generalize hpe : -c * ten (scale - s).toNat = p at hnn ⊢
  have HE := Lib.hid hpe
  have HW := Lib.hid (dec_wide_parts p hnn)
  clear hnn hpe
  go_enter Try.func20, Try.ntmps20
  go_wp2_with fail
  refine (dec_check_ok c s _ H.out).mono ?_
  rintro e w1 ⟨rfl, hb⟩
  obtain ⟨hc, hf⟩ := bcell hb
  have hz : w.heap.size + 1 < w1.heap.size := by have := hb.size; simp at this; omega
  go_wp2_with fail
  go_quiet (fail)
  go_wp2_with fail
  refine (dec_wide (-c) (scale - s) _ (by omega) (by omega) (by omega) (by omega)).mono ?_
  rintro e w2 ⟨rfl, rfl⟩
  simp only [HE.out]
  generalize p / 18446744073709551616 = hi at HW ⊢
  generalize p % 18446744073709551616 = lo at HW ⊢
  by_cases hp : p ≤ 1000000000000000
  · obtain ⟨h1', h2', hlo⟩ := HW.out.1 hp
    subst h1' h2'
    clear HW
    go_wp2_with fail
    exact bodyPost_ret (v := .tuple #[decV (-1 * lo) scale, .nilIface]) (by simp [results, Try.results20, go_sem, hc, hz]) rfl ⟨⟨fun _ => rfl, fun h => absurd h (by omega)⟩, (by (repeat (first | with_reducible exact Below.refl _ _ | with_reducible refine bel_set ?_ ?_ | with_reducible refine bel_alloc ?_ ?_ | with_reducible refine Below.drew ?_ | with_reducible refine bel_drewN _ ?_ | with_reducible refine bel_call ?_ (by assumption) ?_)); all_goals (first | (simp; done) | omega | (simp; omega)))⟩
  · obtain ⟨hq, hq1, hq2⟩ := HW.out.2 (by omega)
    clear HW
    go_wp2_with fail
    all_goals exact bodyPost_ret (v := .tuple #[decV 0 0, errV 1]) (by simp [results, Try.results20, go_sem, hc, hz]) rfl ⟨⟨fun h => absurd h (by omega), fun _ => rfl⟩, (by (repeat (first | with_reducible exact Below.refl _ _ | with_reducible refine bel_set ?_ ?_ | with_reducible refine bel_alloc ?_ ?_ | with_reducible refine Below.drew ?_ | with_reducible refine bel_drewN _ ?_ | with_reducible refine bel_call ?_ (by assumption) ?_)); all_goals (first | (simp; done) | omega | (simp; omega)))⟩

set_option maxHeartbeats 400000 in
theorem dec_round_down (c s scale way : Int) (w : World) (h : decOk c s) (h1 : 0 ≤ scale) (h2 : scale ≤ 9) (h3 : 1 ≤ way) (h4 : way ≤ 5) (h5 : scale < s) (h6 : 0 ≤ c) :
    Calls Try.prog 20 #[decV c s, .int .i64 scale, .int .i64 way] w fun e w' => e = .returned (.tuple #[decV (1 * (c / ten (s - scale).toNat + if nearB way (c / ten (s - scale).toNat) (c % ten (s - scale).toNat) (ten (s - scale).toNat) 1 then 1 else 0)) scale, .nilIface]) ∧ Below w.heap.size w w' := by
  have H := Lib.hid h
  obtain ⟨q1, q2, q3, q4⟩ := h
  have hu := ten_bd (s - scale).toNat (by omega)
  generalize hue : ten (s - scale).toNat = u at hu ⊢
  have HE := Lib.hid hue
  clear hue
  obtain ⟨hu1, hu2⟩ := hu
  have g1 : 0 ≤ c / u := Int.ediv_nonneg (by omega) (by omega)
  have g2 : 0 ≤ c % u := Int.emod_nonneg _ (by omega)
  have g3 : c % u ≤ c := emod_le_self (by omega)
  have g4 : c / u ≤ c := Int.ediv_le_self _ (by omega)
  go_enter Try.func20, Try.ntmps20
  go_wp2_with fail
  refine (dec_check_ok c s _ H.out).mono ?_
  rintro e w1 ⟨rfl, hb⟩
  obtain ⟨hc, hf⟩ := bcell hb
  have hz : w.heap.size + 1 < w1.heap.size := by have := hb.size; simp at this; omega
  go_wp2_with fail
  go_quiet (fail)
  go_wp2_with fail
  refine (dec_power (s - scale) _ (by omega) (by omega)).mono ?_
  rintro e w2 ⟨rfl, rfl⟩
  simp only [HE.out]
  go_wp2_with fail
  go_quiet (fail)
  go_wp2_with fail
  refine (dec_nearer _ _ _ _ _ _ (by omega) (by omega) (by omega)).mono ?_
  rintro e w2 ⟨rfl, rfl⟩
  rcases Bool.eq_false_or_eq_true (nearB way (c / u) (c % u) u 1) with hnb | hnb
  · go_wp2_with fail
    all_goals first | contradiction | exact bodyPost_ret (v := .tuple #[decV (1 * (c / u + 1)) scale, .nilIface]) (by simp [results, Try.results20, go_sem, hc, hz]) rfl ⟨by simp [hnb], (by (repeat (first | with_reducible exact Below.refl _ _ | with_reducible refine bel_set ?_ ?_ | with_reducible refine bel_alloc ?_ ?_ | with_reducible refine Below.drew ?_ | with_reducible refine bel_drewN _ ?_ | with_reducible refine bel_call ?_ (by assumption) ?_)); all_goals (first | (simp; done) | omega | (simp; omega)))⟩ | (exfalso; simp_all; done)
  · go_wp2_with fail
    all_goals first | contradiction | exact bodyPost_ret (v := .tuple #[decV (1 * (c / u)) scale, .nilIface]) (by simp [results, Try.results20, go_sem, hc, hz]) rfl ⟨by simp [hnb], (by (repeat (first | with_reducible exact Below.refl _ _ | with_reducible refine bel_set ?_ ?_ | with_reducible refine bel_alloc ?_ ?_ | with_reducible refine Below.drew ?_ | with_reducible refine bel_drewN _ ?_ | with_reducible refine bel_call ?_ (by assumption) ?_)); all_goals (first | (simp; done) | omega | (simp; omega)))⟩ | (exfalso; simp_all; done)

set_option maxHeartbeats 400000 in
theorem dec_round_down_neg (c s scale way : Int) (w : World) (h : decOk c s) (h1 : 0 ≤ scale) (h2 : scale ≤ 9) (h3 : 1 ≤ way) (h4 : way ≤ 5) (h5 : scale < s) (h6 : c < 0) :
    Calls Try.prog 20 #[decV c s, .int .i64 scale, .int .i64 way] w fun e w' => e = .returned (.tuple #[decV ((-1) * ((-c) / ten (s - scale).toNat + if nearB way ((-c) / ten (s - scale).toNat) ((-c) % ten (s - scale).toNat) (ten (s - scale).toNat) (-1) then 1 else 0)) scale, .nilIface]) ∧ Below w.heap.size w w' := by
  obtain ⟨m, rfl⟩ : ∃ m, c = -m := ⟨-c, by omega⟩
  simp only [Int.neg_neg]
  have H := Lib.hid h
  obtain ⟨q1, q2, q3, q4⟩ := h
  have hu := ten_bd (s - scale).toNat (by omega)
  generalize hue : ten (s - scale).toNat = u at hu ⊢
  have HE := Lib.hid hue
  clear hue
  obtain ⟨hu1, hu2⟩ := hu
  have g1 : 0 ≤ m / u := Int.ediv_nonneg (by omega) (by omega)
  have g2 : 0 ≤ m % u := Int.emod_nonneg _ (by omega)
  have g3 : m % u ≤ m := emod_le_self (by omega)
  have g4 : m / u ≤ m := Int.ediv_le_self _ (by omega)
  go_enter Try.func20, Try.ntmps20
  go_wp2_with fail
  refine (dec_check_ok (-m) s _ H.out).mono ?_
  rintro e w1 ⟨rfl, hb⟩
  obtain ⟨hc, hf⟩ := bcell hb
  have hz : w.heap.size + 1 < w1.heap.size := by have := hb.size; simp at this; omega
  go_wp2_with fail
  go_quiet (fail)
  go_wp2_with fail
  refine (dec_power (s - scale) _ (by omega) (by omega)).mono ?_
  rintro e w2 ⟨rfl, rfl⟩
  simp only [HE.out]
  go_wp2_with fail
  go_quiet (fail)
  go_wp2_with fail
  refine (dec_nearer _ _ _ _ _ _ (by omega) (by omega) (by omega)).mono ?_
  rintro e w2 ⟨rfl, rfl⟩
  rcases Bool.eq_false_or_eq_true (nearB way (m / u) (m % u) u (-1)) with hnb | hnb
  · go_wp2_with fail
    all_goals first | contradiction | exact bodyPost_ret (v := .tuple #[decV ((-1) * (m / u + 1)) scale, .nilIface]) (by simp [results, Try.results20, go_sem, hc, hz]) rfl ⟨by simp [hnb], (by (repeat (first | with_reducible exact Below.refl _ _ | with_reducible refine bel_set ?_ ?_ | with_reducible refine bel_alloc ?_ ?_ | with_reducible refine Below.drew ?_ | with_reducible refine bel_drewN _ ?_ | with_reducible refine bel_call ?_ (by assumption) ?_)); all_goals (first | (simp; done) | omega | (simp; omega)))⟩ | (exfalso; simp_all; done)
  · go_wp2_with fail
    all_goals first | contradiction | exact bodyPost_ret (v := .tuple #[decV ((-1) * (m / u)) scale, .nilIface]) (by simp [results, Try.results20, go_sem, hc, hz]) rfl ⟨by simp [hnb], (by (repeat (first | with_reducible exact Below.refl _ _ | with_reducible refine bel_set ?_ ?_ | with_reducible refine bel_alloc ?_ ?_ | with_reducible refine Below.drew ?_ | with_reducible refine bel_drewN _ ?_ | with_reducible refine bel_call ?_ (by assumption) ?_)); all_goals (first | (simp; done) | omega | (simp; omega)))⟩ | (exfalso; simp_all; done)

end Go.Proofs.Ytbbafdhgoekdiaa
