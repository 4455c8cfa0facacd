/- The contract of dec.Add. -/
import Derived.Test.YtbbafdhgoekdiaaDec
namespace Go.Proofs.Ytbbafdhgoekdiaa
open Go.RowKit

def AddPost (v s : Int) (e : Ending) : Prop := (-1000000000000000 ≤ v ∧ v ≤ 1000000000000000 → e = .returned (.tuple #[decV v s, .nilIface])) ∧ (¬ (-1000000000000000 ≤ v ∧ v ≤ 1000000000000000) → e = .returned (.tuple #[decV 0 0, errV 1]))

theorem dec_add_check1 (c1 s1 c2 s2 : Int) (w : World) (h : ¬ decOk c1 s1) :
    Calls Try.prog 19 #[decV c1 s1, decV c2 s2] w fun e w' => e = .returned (.tuple #[decV 0 0, errV 1]) ∧ Below w.heap.size w w' := by
  have H := Lib.hid h
  clear h
  go_enter Try.func19, Try.ntmps19
  go_wp2_with fail
  refine (dec_check_no c1 s1 _ H.out).mono ?_
  rintro e w1 ⟨rfl, hb⟩
  obtain ⟨hc, hf⟩ := bcell hb
  have hz : w.heap.size + 2 < w1.heap.size := by have := hb.size; simp at this; omega
  go_wp2_with fail
  exact bodyPost_ret (v := .tuple #[decV 0 0, errV 1]) (by simp [results, Try.results19, go_sem, hc, hz]) rfl ⟨rfl, (by (repeat (first | with_reducible exact Below.refl _ _ | with_reducible refine bel_set ?_ ?_ | with_reducible refine bel_alloc ?_ ?_ | with_reducible refine Below.drew ?_ | with_reducible refine bel_drewN _ ?_ | with_reducible refine bel_call ?_ (by assumption) ?_)); all_goals (first | (simp; done) | omega | (simp; omega)))⟩

theorem dec_add_check2 (c1 s1 c2 s2 : Int) (w : World) (h1 : decOk c1 s1) (h2 : ¬ decOk c2 s2) :
    Calls Try.prog 19 #[decV c1 s1, decV c2 s2] w fun e w' => e = .returned (.tuple #[decV 0 0, errV 1]) ∧ Below w.heap.size w w' := by
  have H1 := Lib.hid h1
  have H2 := Lib.hid h2
  clear h1 h2
  go_enter Try.func19, Try.ntmps19
  go_wp2_with fail
  refine (dec_check_ok c1 s1 _ H1.out).mono ?_
  rintro e w1 ⟨rfl, hb⟩
  obtain ⟨hc, hf⟩ := bcell hb
  have hz : w.heap.size + 2 < w1.heap.size := by have := hb.size; simp at this; omega
  go_wp2_with fail
  refine (dec_check_no c2 s2 _ H2.out).mono ?_
  rintro e w2 ⟨rfl, hb2⟩
  obtain ⟨hc2, hf2⟩ := bcell (hb.trans (hb2.mono hb.size))
  clear hc hf
  have hz2 : w.heap.size + 2 < w2.heap.size := by have := hb2.size; omega
  go_wp2_with fail
  exact bodyPost_ret (v := .tuple #[decV 0 0, errV 1]) (by simp [results, Try.results19, go_sem, hc2, hz, hz2]) rfl ⟨rfl, (by (repeat (first | with_reducible exact Below.refl _ _ | with_reducible refine bel_set ?_ ?_ | with_reducible refine bel_alloc ?_ ?_ | with_reducible refine Below.drew ?_ | with_reducible refine bel_drewN _ ?_ | with_reducible refine bel_call ?_ (by assumption) ?_)); all_goals (first | (simp; done) | omega | (simp; omega)))⟩

set_option maxHeartbeats 400000 in
theorem dec_add_le (c1 s1 c2 s2 : Int) (w : World) (h1 : decOk c1 s1) (h2 : decOk c2 s2) (hs : s1 ≤ s2) :
    Calls Try.prog 19 #[decV c1 s1, decV c2 s2] w fun e w' => AddPost (c1 * ten (s2 - s1).toNat + c2) s2 e ∧ Below w.heap.size w w' := by
  have H1 := Lib.hid h1
  have H2 := Lib.hid h2
  obtain ⟨a1, a2, a3, a4⟩ := h1
  obtain ⟨b1, b2, b3, b4⟩ := h2
  obtain ⟨hu1, hu2⟩ := ten_bd9 (s2 - s1).toNat (by omega)
  generalize hue : ten (s2 - s1).toNat = u at hu1 hu2 ⊢
  have HE := Lib.hid hue
  clear hue
  obtain ⟨q1, q2, r1, r2, hqr, _, _⟩ := tdiv_facts c2 u hu1 b3 b4
  have HV := Lib.hid (add_v c1 c2 u hqr)
  have HB := Lib.hid (add_bound (c1 + c2.tdiv u) (c2.tmod u) u hu1 hu2 r1 r2)
  clear hqr
  go_enter Try.func19, Try.ntmps19
  go_wp2_with fail
  refine (dec_check_ok c1 s1 _ H1.out).mono ?_
  rintro e w1 ⟨rfl, hb⟩
  obtain ⟨hc, hf⟩ := bcell hb
  have hz : w.heap.size + 2 < w1.heap.size := by have := hb.size; simp at this; omega
  go_wp2_with fail
  refine (dec_check_ok c2 s2 _ H2.out).mono ?_
  rintro e w2 ⟨rfl, hb2⟩
  obtain ⟨hc2, hf2⟩ := bcell (hb.trans (hb2.mono hb.size))
  clear hc hf
  have hz2 : w.heap.size + 2 < w2.heap.size := by have := hb2.size; omega
  go_wp2_with fail
  refine (dec_power (s2 - s1) _ (by omega) (by omega)).mono ?_
  rintro e w3 ⟨rfl, rfl⟩
  simp only [HE.out]
  go_wp2_with fail
  go_quiet (fail)
  generalize c2.tdiv u = q at *
  generalize c2.tmod u = r at *
  obtain ⟨k0, k1, k2, k3, k4, k5⟩ := HB.out
  clear HB
  have e2 : (-2000000000000000 : Int).tdiv u = -(2000000000000000 / u) := by
    rw [show (-2000000000000000 : Int) = -(2000000000000000) from rfl, Int.neg_tdiv, Int.tdiv_eq_ediv_of_nonneg (by omega)]
  by_cases t1 : 2000000000000000 / u + 1 < c1 + q
  · have K2 := Lib.hid (k2 t1)
    clear k2 k3 k4 k5
    go_wp2_with fail
    have := K2.out
    exact bodyPost_ret (v := .tuple #[decV 0 0, errV 1]) (by simp [results, Try.results19, go_sem, hc2, hz, hz2]) rfl ⟨⟨fun h => absurd h (by have := HV.out; omega), fun _ => rfl⟩, (by (repeat (first | with_reducible exact Below.refl _ _ | with_reducible refine bel_set ?_ ?_ | with_reducible refine bel_alloc ?_ ?_ | with_reducible refine Below.drew ?_ | with_reducible refine bel_drewN _ ?_ | with_reducible refine bel_call ?_ (by assumption) ?_)); all_goals (first | (simp; done) | omega | (simp; omega)))⟩
  by_cases t2 : c1 + q < -(2000000000000000 / u) - 1
  · have K3 := Lib.hid (k3 t2)
    clear k2 k3 k4 k5
    go_wp2_with fail
    have := K3.out
    exact bodyPost_ret (v := .tuple #[decV 0 0, errV 1]) (by simp [results, Try.results19, go_sem, hc2, hz, hz2]) rfl ⟨⟨fun h => absurd h (by have := HV.out; omega), fun _ => rfl⟩, (by (repeat (first | with_reducible exact Below.refl _ _ | with_reducible refine bel_set ?_ ?_ | with_reducible refine bel_alloc ?_ ?_ | with_reducible refine Below.drew ?_ | with_reducible refine bel_drewN _ ?_ | with_reducible refine bel_call ?_ (by assumption) ?_)); all_goals (first | (simp; done) | omega | (simp; omega)))⟩
  · have k4' := k4 (by omega)
    have k5' := k5 (by omega)
    clear k2 k3 k4 k5
    by_cases v1 : (c1 + q) * u + r < -1000000000000000
    · go_wp2_with fail
      exact bodyPost_ret (v := .tuple #[decV 0 0, errV 1]) (by simp [results, Try.results19, go_sem, hc2, hz, hz2]) rfl ⟨⟨fun h => absurd h (by have := HV.out; omega), fun _ => rfl⟩, (by (repeat (first | with_reducible exact Below.refl _ _ | with_reducible refine bel_set ?_ ?_ | with_reducible refine bel_alloc ?_ ?_ | with_reducible refine Below.drew ?_ | with_reducible refine bel_drewN _ ?_ | with_reducible refine bel_call ?_ (by assumption) ?_)); all_goals (first | (simp; done) | omega | (simp; omega)))⟩
    by_cases v2 : 1000000000000000 < (c1 + q) * u + r
    · go_wp2_with fail
      exact bodyPost_ret (v := .tuple #[decV 0 0, errV 1]) (by simp [results, Try.results19, go_sem, hc2, hz, hz2]) rfl ⟨⟨fun h => absurd h (by have := HV.out; omega), fun _ => rfl⟩, (by (repeat (first | with_reducible exact Below.refl _ _ | with_reducible refine bel_set ?_ ?_ | with_reducible refine bel_alloc ?_ ?_ | with_reducible refine Below.drew ?_ | with_reducible refine bel_drewN _ ?_ | with_reducible refine bel_call ?_ (by assumption) ?_)); all_goals (first | (simp; done) | omega | (simp; omega)))⟩
    · go_wp2_with fail
      exact bodyPost_ret (v := .tuple #[decV ((c1 + q) * u + r) s2, .nilIface]) (by simp [results, Try.results19, go_sem, hc2, hz, hz2]) rfl ⟨⟨fun _ => by rw [HV.out], fun h => absurd h (by have := HV.out; omega)⟩, (by (repeat (first | with_reducible exact Below.refl _ _ | with_reducible refine bel_set ?_ ?_ | with_reducible refine bel_alloc ?_ ?_ | with_reducible refine Below.drew ?_ | with_reducible refine bel_drewN _ ?_ | with_reducible refine bel_call ?_ (by assumption) ?_)); all_goals (first | (simp; done) | omega | (simp; omega)))⟩

set_option maxHeartbeats 1600000 in
theorem dec_add_gt (c1 s1 c2 s2 : Int) (w : World) (h1 : decOk c1 s1) (h2 : decOk c2 s2) (hs : s2 < s1) :
    Calls Try.prog 19 #[decV c1 s1, decV c2 s2] w fun e w' => AddPost (c2 * ten (s1 - s2).toNat + c1) s1 e ∧ Below w.heap.size w w' := by
  have H1 := Lib.hid h1
  have H2 := Lib.hid h2
  obtain ⟨a1, a2, a3, a4⟩ := h1
  obtain ⟨b1, b2, b3, b4⟩ := h2
  obtain ⟨hu1, hu2⟩ := ten_bd9 (s1 - s2).toNat (by omega)
  generalize hue : ten (s1 - s2).toNat = u at hu1 hu2 ⊢
  have HE := Lib.hid hue
  clear hue
  obtain ⟨q1, q2, r1, r2, hqr, _, _⟩ := tdiv_facts c1 u hu1 a3 a4
  have HV := Lib.hid (add_v c2 c1 u hqr)
  have HB := Lib.hid (add_bound (c2 + c1.tdiv u) (c1.tmod u) u hu1 hu2 r1 r2)
  clear hqr
  go_enter Try.func19, Try.ntmps19
  go_wp2_with fail
  refine (dec_check_ok c1 s1 _ H1.out).mono ?_
  rintro e w1 ⟨rfl, hb⟩
  obtain ⟨hc, hf⟩ := bcell hb
  have hz : w.heap.size + 2 < w1.heap.size := by have := hb.size; simp at this; omega
  go_wp2_with fail
  refine (dec_check_ok c2 s2 _ H2.out).mono ?_
  rintro e w2 ⟨rfl, hb2⟩
  obtain ⟨hc2, hf2⟩ := bcell (hb.trans (hb2.mono hb.size))
  clear hc hf
  have d00 : w2.cell? ⟨w.heap.size, 0, none⟩ = some (.int .i64 c1) := by rw [hc2 _ _ (by first | (simp; done) | (simp; omega))]; go_simp
  have d01 : w2.cell? ⟨w.heap.size, 1, none⟩ = some (.int .i64 s1) := by rw [hc2 _ _ (by first | (simp; done) | (simp; omega))]; go_simp
  have d10 : w2.cell? ⟨w.heap.size + 1, 0, none⟩ = some (.int .i64 c2) := by rw [hc2 _ _ (by first | (simp; done) | (simp; omega))]; go_simp
  have d11 : w2.cell? ⟨w.heap.size + 1, 1, none⟩ = some (.int .i64 s2) := by rw [hc2 _ _ (by first | (simp; done) | (simp; omega))]; go_simp
  have hz2 : w.heap.size + 2 < w2.heap.size := by have := hb2.size; omega
  go_wp2_with fail
  refine (dec_power (s1 - s2) _ (by omega) (by omega)).mono ?_
  rintro e w3 ⟨rfl, rfl⟩
  simp only [HE.out]
  go_wp2_with fail
  go_quiet (fail)
  generalize c1.tdiv u = q at *
  generalize c1.tmod u = r at *
  obtain ⟨k0, k1, k2, k3, k4, k5⟩ := HB.out
  clear HB
  have e2 : (-2000000000000000 : Int).tdiv u = -(2000000000000000 / u) := by
    rw [show (-2000000000000000 : Int) = -(2000000000000000) from rfl, Int.neg_tdiv, Int.tdiv_eq_ediv_of_nonneg (by omega)]
  by_cases t1 : 2000000000000000 / u + 1 < c2 + q
  · have K2 := Lib.hid (k2 t1)
    clear k2 k3 k4 k5
    go_wp2_with fail
    have := K2.out
    exact bodyPost_ret (v := .tuple #[decV 0 0, errV 1]) (by simp [results, Try.results19, go_sem, hc2, hz, hz2]) rfl ⟨⟨fun h => absurd h (by have := HV.out; omega), fun _ => rfl⟩, (by (repeat (first | with_reducible exact Below.refl _ _ | with_reducible refine bel_set ?_ ?_ | with_reducible refine bel_alloc ?_ ?_ | with_reducible refine Below.drew ?_ | with_reducible refine bel_drewN _ ?_ | with_reducible refine bel_call ?_ (by assumption) ?_)); all_goals (first | (simp; done) | omega | (simp; omega)))⟩
  by_cases t2 : c2 + q < -(2000000000000000 / u) - 1
  · have K3 := Lib.hid (k3 t2)
    clear k2 k3 k4 k5
    go_wp2_with fail
    have := K3.out
    exact bodyPost_ret (v := .tuple #[decV 0 0, errV 1]) (by simp [results, Try.results19, go_sem, hc2, hz, hz2]) rfl ⟨⟨fun h => absurd h (by have := HV.out; omega), fun _ => rfl⟩, (by (repeat (first | with_reducible exact Below.refl _ _ | with_reducible refine bel_set ?_ ?_ | with_reducible refine bel_alloc ?_ ?_ | with_reducible refine Below.drew ?_ | with_reducible refine bel_drewN _ ?_ | with_reducible refine bel_call ?_ (by assumption) ?_)); all_goals (first | (simp; done) | omega | (simp; omega)))⟩
  · have k4' := k4 (by omega)
    have k5' := k5 (by omega)
    clear k2 k3 k4 k5
    by_cases v1 : (c2 + q) * u + r < -1000000000000000
    · go_wp2_with fail
      exact bodyPost_ret (v := .tuple #[decV 0 0, errV 1]) (by simp [results, Try.results19, go_sem, hc2, hz, hz2]) rfl ⟨⟨fun h => absurd h (by have := HV.out; omega), fun _ => rfl⟩, (by (repeat (first | with_reducible exact Below.refl _ _ | with_reducible refine bel_set ?_ ?_ | with_reducible refine bel_alloc ?_ ?_ | with_reducible refine Below.drew ?_ | with_reducible refine bel_drewN _ ?_ | with_reducible refine bel_call ?_ (by assumption) ?_)); all_goals (first | (simp; done) | omega | (simp; omega)))⟩
    by_cases v2 : 1000000000000000 < (c2 + q) * u + r
    · go_wp2_with fail
      exact bodyPost_ret (v := .tuple #[decV 0 0, errV 1]) (by simp [results, Try.results19, go_sem, hc2, hz, hz2]) rfl ⟨⟨fun h => absurd h (by have := HV.out; omega), fun _ => rfl⟩, (by (repeat (first | with_reducible exact Below.refl _ _ | with_reducible refine bel_set ?_ ?_ | with_reducible refine bel_alloc ?_ ?_ | with_reducible refine Below.drew ?_ | with_reducible refine bel_drewN _ ?_ | with_reducible refine bel_call ?_ (by assumption) ?_)); all_goals (first | (simp; done) | omega | (simp; omega)))⟩
    · go_wp2_with fail
      exact bodyPost_ret (v := .tuple #[decV ((c2 + q) * u + r) s1, .nilIface]) (by simp [results, Try.results19, go_sem, hc2, hz, hz2]) rfl ⟨⟨fun _ => by rw [HV.out], fun h => absurd h (by have := HV.out; omega)⟩, (by (repeat (first | with_reducible exact Below.refl _ _ | with_reducible refine bel_set ?_ ?_ | with_reducible refine bel_alloc ?_ ?_ | with_reducible refine Below.drew ?_ | with_reducible refine bel_drewN _ ?_ | with_reducible refine bel_call ?_ (by assumption) ?_)); all_goals (first | (simp; done) | omega | (simp; omega)))⟩

/-- dec.Round, whole. -/
def RoundPost (c s scale way : Int) (e : Ending) : Prop :=
  (rndOk c s scale way → e = .returned (.tuple #[decV (rnd c s scale way) scale, .nilIface])) ∧ (¬ rndOk c s scale way → ∃ k, e = .returned (.tuple #[decV 0 0, errV k]))

theorem dec_round (c s scale way : Int) (w : World) :
    Calls Try.prog 20 #[decV c s, .int .i64 scale, .int .i64 way] w fun e w' => RoundPost c s scale way e ∧ Below w.heap.size w w' := by
  by_cases h1 : decOk c s
  · by_cases h2 : 0 ≤ scale ∧ scale ≤ 9
    · by_cases h3 : 1 ≤ way ∧ way ≤ 5
      · by_cases h4 : s ≤ scale
        · have ev : rnd c s scale way = c * ten (scale - s).toNat := by unfold rnd; rw [if_pos h4]
          have ok : rndOk c s scale way ↔ (-1000000000000000 ≤ c * ten (scale - s).toNat ∧ c * ten (scale - s).toNat ≤ 1000000000000000) :=
            ⟨fun h => h.2.2.2.2.2 h4, fun h => ⟨h1, h2.1, h2.2, h3.1, h3.2, fun _ => h⟩⟩
          have ht := ten_bd9 (scale - s).toNat (by have := h1.1; omega)
          unfold RoundPost
          rw [ev, ok]
          by_cases h5 : 0 ≤ c
          · have hm : 0 ≤ c * ten (scale - s).toNat := Int.mul_nonneg h5 (by omega)
            refine (dec_round_up c s scale way w h1 h2.1 h2.2 h3.1 h3.2 h4 h5).mono ?_
            rintro e w' ⟨⟨p1, p2⟩, hb⟩
            exact ⟨⟨fun h => by rw [p1 h.2, Int.one_mul], fun h => ⟨1, p2 (by omega)⟩⟩, hb⟩
          · have hm : 0 ≤ -c * ten (scale - s).toNat := Int.mul_nonneg (by omega) (by omega)
            have en : -c * ten (scale - s).toNat = -(c * ten (scale - s).toNat) := Int.neg_mul _ _
            refine (dec_round_up_neg c s scale way w h1 h2.1 h2.2 h3.1 h3.2 h4 (by omega)).mono ?_
            rintro e w' ⟨⟨p1, p2⟩, hb⟩
            rw [en] at p1 p2 hm
            exact ⟨⟨fun h => by rw [p1 (by omega)]; congr 5; omega, fun h => ⟨1, p2 (by omega)⟩⟩, hb⟩
        · have ok : rndOk c s scale way := ⟨h1, h2.1, h2.2, h3.1, h3.2, fun h => absurd h h4⟩
          unfold RoundPost
          by_cases h5 : 0 ≤ c
          · refine (dec_round_down c s scale way w h1 h2.1 h2.2 h3.1 h3.2 (by omega) h5).mono ?_
            rintro e w' ⟨p, hb⟩
            exact ⟨⟨fun _ => by rw [p]; unfold rnd; rw [if_neg h4, if_neg (show ¬ c < 0 by omega)], fun h => absurd ok h⟩, hb⟩
          · refine (dec_round_down_neg c s scale way w h1 h2.1 h2.2 h3.1 h3.2 (by omega) (by omega)).mono ?_
            rintro e w' ⟨p, hb⟩
            exact ⟨⟨fun _ => by rw [p]; unfold rnd; rw [if_neg h4, if_pos (show c < 0 by omega)], fun h => absurd ok h⟩, hb⟩
      · refine (dec_round_way c s scale way w h1 h2.1 h2.2 h3).mono ?_
        rintro e w' ⟨p, hb⟩
        exact ⟨⟨fun h => absurd ⟨h.2.2.2.1, h.2.2.2.2.1⟩ h3, fun _ => ⟨3, p⟩⟩, hb⟩
    · refine (dec_round_scale c s scale way w h1 h2).mono ?_
      rintro e w' ⟨p, hb⟩
      exact ⟨⟨fun h => absurd ⟨h.2.1, h.2.2.1⟩ h2, fun _ => ⟨1, p⟩⟩, hb⟩
  · refine (dec_round_check c s scale way w h1).mono ?_
    rintro e w' ⟨p, hb⟩
    exact ⟨⟨fun h => absurd h.1 h1, fun _ => ⟨1, p⟩⟩, hb⟩

end Go.Proofs.Ytbbafdhgoekdiaa
