/- plural.Kind. -/
import Derived.Test.YtkklemhhimcahaaGreatDoorPlural
namespace Go.Proofs.YtkklemhhimcahaaGreatDoor
open Go.RowKit

def KindsAt (w : World) : Prop := ∀ k, k < 5 → w.cell? ⟨0, k, none⟩ = some (.string (kindT k))
theorem KindsAt.below {w w' : World} (h : KindsAt w) (hb : Below w.heap.size w w') : KindsAt w' := fun k hk => carry hb (h k hk)
theorem opsC_fits (c : Int) (s : Nat) (h : decOk c s) : (opsC c s).fits := by
  obtain ⟨h1, h2, h3, h4⟩ := h
  have ht := ten_bd9 s (by omega)
  have ha : 0 ≤ absI c ∧ absI c ≤ 1000000000000000 := by unfold absI; split <;> omega
  have hd := Int.ediv_le_self (ten s) ha.1
  have hd0 := Int.ediv_nonneg ha.1 (by omega : 0 ≤ ten s)
  have hm := Int.emod_nonneg (absI c) (by omega : ten s ≠ 0)
  have hm2 := emod_le_self (b := ten s) ha.1
  have hs := strip_le s _ hm
  unfold opsC OpsC.fits
  simp only
  generalize strip s (absI c % ten s) = q at *
  refine ⟨⟨?_, ?_⟩, ⟨?_, ?_⟩, ⟨?_, ?_⟩, ⟨?_, ?_⟩, ⟨?_, ?_⟩⟩ <;> omega

set_option maxHeartbeats 1000000 in
theorem kind_bad (s : SetC) (c d : Int) (w : World) (hE : RuleEnv w) (hs : s.small) (h : s.ok = false) :
    Calls Tryz.prog 12 #[setV s.s0 s.s1 s.s2 s.s3 s.s4, decV c d] w fun e w' => e = .returned (.tuple #[.string ⟨#[]⟩, errV 3]) ∧ Below w.heap.size w w' := by
  have KC := Lib.hid (fun W (hb : Below w.heap.size w W) => plural_check s W (hE.below hb) hs)
  rw [h] at KC
  clear h hE hs
  obtain ⟨s0, s1, s2, s3, s4⟩ := s
  simp only at *
  go_enter Tryz.func12, Tryz.ntmps12
  go_wp2_with fail
  refine (KC.out _ (by (repeat (first | with_reducible exact Below.refl _ _ | with_reducible refine bel_set ?_ ?_ | with_reducible refine bel_alloc ?_ ?_ | with_reducible refine Below.drew ?_ | with_reducible refine bel_drewN _ ?_ | with_reducible refine bel_call ?_ (by assumption) ?_)); all_goals (first | (simp; done) | omega | (simp; omega)))).mono ?_
  rintro e w1 ⟨rfl, hb⟩
  rw [show okV false = errV 3 from rfl]
  have HB1 : Hid (Below w.heap.size w w1) := Lib.hid (by (repeat (first | with_reducible exact Below.refl _ _ | with_reducible refine bel_set ?_ ?_ | with_reducible refine bel_alloc ?_ ?_ | with_reducible refine Below.drew ?_ | with_reducible refine bel_drewN _ ?_ | with_reducible refine bel_call ?_ (by assumption) ?_)); all_goals (first | (simp; done) | omega | (simp; omega)))
  clear hb
  go_wp2_with fail
  go_ret2
  exact ⟨rfl, HB1.out⟩

set_option maxHeartbeats 1000000 in
theorem kind_dec (s : SetC) (c d : Int) (w : World) (hE : RuleEnv w) (hs : s.small) (h : s.ok = true) (hd : ¬ decOk c d) :
    Calls Tryz.prog 12 #[setV s.s0 s.s1 s.s2 s.s3 s.s4, decV c d] w fun e w' => e = .returned (.tuple #[.string ⟨#[]⟩, errV 1]) ∧ Below w.heap.size w w' := by
  have KC := Lib.hid (fun W (hb : Below w.heap.size w W) => plural_check s W (hE.below hb) hs)
  have KD := Lib.hid (fun W => ops_of_no c d W hd)
  rw [h] at KC
  clear h hE hs hd
  obtain ⟨s0, s1, s2, s3, s4⟩ := s
  simp only at *
  go_enter Tryz.func12, Tryz.ntmps12
  go_wp2_with fail
  refine (KC.out _ (by (repeat (first | with_reducible exact Below.refl _ _ | with_reducible refine bel_set ?_ ?_ | with_reducible refine bel_alloc ?_ ?_ | with_reducible refine Below.drew ?_ | with_reducible refine bel_drewN _ ?_ | with_reducible refine bel_call ?_ (by assumption) ?_)); all_goals (first | (simp; done) | omega | (simp; omega)))).mono ?_
  rintro e w1 ⟨rfl, hb⟩
  rw [show okV true = .nilIface from rfl]
  have c0 : w1.cell? ⟨w.heap.size + 1, 0, none⟩ = some (.int .i64 c) := carry hb (by go_simp)
  have c1 : w1.cell? ⟨w.heap.size + 1, 1, none⟩ = some (.int .i64 d) := carry hb (by go_simp)
  have HB1 : Hid (Below w.heap.size w w1) := Lib.hid (by (repeat (first | with_reducible exact Below.refl _ _ | with_reducible refine bel_set ?_ ?_ | with_reducible refine bel_alloc ?_ ?_ | with_reducible refine Below.drew ?_ | with_reducible refine bel_drewN _ ?_ | with_reducible refine bel_call ?_ (by assumption) ?_)); all_goals (first | (simp; done) | omega | (simp; omega)))
  clear hb
  go_wp2_with fail
  refine (KD.out _).mono ?_
  rintro e w2 ⟨rfl, hb⟩
  have HB2 : Hid (Below w.heap.size w w2) := Lib.hid (HB1.out.trans (hb.mono HB1.out.size))
  clear hb
  go_wp2_with fail
  go_ret2
  exact ⟨rfl, (HB2.out).alloc HB2.out.size _⟩

set_option maxHeartbeats 4000000 in
theorem kind_ok (s : SetC) (c : Int) (d : Nat) (w : World) (hE : RuleEnv w) (hK : KindsAt w) (hs : s.small) (h : s.ok = true) (hd : decOk c d) :
    Calls Tryz.prog 12 #[setV s.s0 s.s1 s.s2 s.s3 s.s4, decV c d] w fun e w' => e = .returned (.tuple #[.string (kindT (s.kind (opsC c d))), .nilIface]) ∧ Below w.heap.size w w' := by
  have KC := Lib.hid (fun W (hb : Below w.heap.size w W) => plural_check s W (hE.below hb) hs)
  have KO := Lib.hid (fun W => ops_of c d W hd)
  have KT := Lib.hid (plural_texts s)
  have KI := Lib.hid (set_index s)
  have KP := Lib.hid (fun i (hi : i < 5) (he : (s.at i).toList.isEmpty = false) W (hb : Below w.heap.size w W) => parse_yes (s.at i) W (hE.below hb) (hs i) (by have := s.ok_good h i hi; unfold SetC.good at this; rw [he] at this; exact this))
  have KH := Lib.hid (fun i (hi : i < 5) (he : (s.at i).toList.isEmpty = false) A c' ps W (hp : ruleC ps = parseB (s.at i)) (hr : RuleIn W A ps) hc hc2 => holds_yes (s.at i) A c' ps (opsC c d) W hp (by have := s.ok_good h i hi; unfold SetC.good at this; rw [he] at this; exact this) hr hc hc2 (opsC_fits c d hd))
  have HG : Hid (∀ i, s.hit (opsC c d) i = (!(s.at i).toList.isEmpty && ruleHolds (parseB (s.at i)) (opsC c d))) := Lib.hid fun i => rfl
  have HAT := Lib.hid (fun k hk h0 h1 => SetC.kind_at (s := s) (o := opsC c d) (k := k) hk h0 h1)
  have HNO := Lib.hid (fun h0 => SetC.kind_none (s := s) (o := opsC c d) h0)
  have HK := Lib.hid hK
  rw [h] at KC
  clear h hE hs hd hK
  generalize s.kind (opsC c d) = N at *
  generalize s.hit (opsC c d) = G at *
  generalize s.at = T at *
  generalize opsC c d = o at *
  obtain ⟨s0, s1, s2, s3, s4⟩ := s
  obtain ⟨oi, ov, ow, of', ot⟩ := o
  simp only at *
  go_enter Tryz.func12, Tryz.ntmps12
  go_wp2_with fail
  refine (KC.out _ (by (repeat (first | with_reducible exact Below.refl _ _ | with_reducible refine bel_set ?_ ?_ | with_reducible refine bel_alloc ?_ ?_ | with_reducible refine Below.drew ?_ | with_reducible refine bel_drewN _ ?_ | with_reducible refine bel_call ?_ (by assumption) ?_)); all_goals (first | (simp; done) | omega | (simp; omega)))).mono ?_
  rintro e w1 ⟨rfl, hb⟩
  rw [show okV true = .nilIface from rfl]
  have c0 : w1.cell? ⟨w.heap.size + 1, 0, none⟩ = some (.int .i64 c) := carry hb (by go_simp)
  have c1 : w1.cell? ⟨w.heap.size + 1, 1, none⟩ = some (.int .i64 d) := carry hb (by go_simp)
  have x0 : w1.cell? ⟨w.heap.size, 0, none⟩ = some (.string s0) := carry hb (by go_simp)
  have x1 : w1.cell? ⟨w.heap.size, 1, none⟩ = some (.string s1) := carry hb (by go_simp)
  have x2 : w1.cell? ⟨w.heap.size, 2, none⟩ = some (.string s2) := carry hb (by go_simp)
  have x3 : w1.cell? ⟨w.heap.size, 3, none⟩ = some (.string s3) := carry hb (by go_simp)
  have x4 : w1.cell? ⟨w.heap.size, 4, none⟩ = some (.string s4) := carry hb (by go_simp)
  have HB1 : Hid (Below w.heap.size w w1) := Lib.hid (by (repeat (first | with_reducible exact Below.refl _ _ | with_reducible refine bel_set ?_ ?_ | with_reducible refine bel_alloc ?_ ?_ | with_reducible refine Below.drew ?_ | with_reducible refine bel_drewN _ ?_ | with_reducible refine bel_call ?_ (by assumption) ?_)); all_goals (first | (simp; done) | omega | (simp; omega)))
  clear hb
  go_wp2_with fail
  refine (KO.out _).mono ?_
  rintro e w2 ⟨rfl, hb⟩
  have HB2 : Hid (Below w.heap.size w w2) := Lib.hid (HB1.out.trans (hb.mono HB1.out.size))
  have y0 := carry hb x0
  have y1 := carry hb x1
  have y2 := carry hb x2
  have y3 := carry hb x3
  have y4 := carry hb x4
  have s2' := lt_of_cell y0
  clear hb c0 c1 x0 x1 x2 x3 x4
  go_wp2_with fail
  refine (KT.out _).mono ?_
  rintro e w3 ⟨rfl, hb⟩
  have z0 : w3.cell? ⟨w2.heap.size, 0, none⟩ = some (.int .i64 oi) := carry hb (by go_simp)
  have z1 : w3.cell? ⟨w2.heap.size, 1, none⟩ = some (.int .i64 ov) := carry hb (by go_simp)
  have z2 : w3.cell? ⟨w2.heap.size, 2, none⟩ = some (.int .i64 ow) := carry hb (by go_simp)
  have z3 : w3.cell? ⟨w2.heap.size, 3, none⟩ = some (.int .i64 of') := carry hb (by go_simp)
  have z4 : w3.cell? ⟨w2.heap.size, 4, none⟩ = some (.int .i64 ot) := carry hb (by go_simp)
  have HX3 : Hid (OpsAt w3 w2.heap.size ⟨oi, ov, ow, of', ot⟩) := Lib.hid ⟨z0, z1, z2, z3, z4⟩
  have HB3 : Hid (Below w.heap.size w w3) := Lib.hid ((HB2.out.alloc HB2.out.size _).trans (hb.mono (by have := HB2.out.size; simp; omega)))
  clear hb y0 y1 y2 y3 y4 z0 z1 z2 z3 z4
  generalize w2.heap.size = b at *
  go_wp2_with fail
  go_loopw [30] (fun i wr => ∃ k : Nat, k ≤ 5 ∧ i = .int .i64 k ∧ Hid (∀ j, j < k → G j = false) ∧ Hid (OpsAt wr b ⟨oi, ov, ow, of', ot⟩) ∧ Hid (Below w.heap.size w wr)) (fun i _ => 5 - (intOf i).toNat)
  case atStart => exact ⟨0, by omega, rfl, Lib.hid (fun j hj => by omega), HX3, HB3⟩
  case round =>
    obtain ⟨k, hk, rfl, HJ, HX, HB⟩ := hrel
    by_cases hlt : k < 5
    · have hix := KI.out k hlt
      have hg := HG.out k
      have i1 : (0 : Int) ≤ (k : Int) := by omega
      have i2 : (k : Int) < 5 := by omega
      cases he : (T k).toList.isEmpty
      · have HP := Lib.hid (KP.out k hlt he _ HB.out)
        have HH := Lib.hid (KH.out k hlt he)
        have x1 := emp_no he
        have HGK : Hid (G k = ruleHolds (parseB (T k)) ⟨oi, ov, ow, of', ot⟩) := Lib.hid (by rw [hg, he]; rfl)
        clear hg
        generalize T k = t at *
        generalize ruleHolds (parseB t) ⟨oi, ov, ow, of', ot⟩ = R at *
        go_wp2_with fail
        refine HP.out.mono ?_
        rintro e w4 ⟨⟨A, c4, ps, rfl, hp, hr, hc4, hc5⟩, hb⟩
        have HB4 : Hid (Below w.heap.size w w4) := Lib.hid (HB.out.trans (hb.mono HB.out.size))
        have HX4 := Lib.hid (HX.out.below hb)
        have HR := Lib.hid (HH.out A c4 ps w4 hp hr hc4 hc5)
        obtain ⟨y0, y1, y2, y3, y4⟩ := HX4.out
        clear hb hp hr
        go_wp2_with fail
        refine HR.out.mono ?_
        rintro e w5 ⟨rfl, hb⟩
        have HB5 : Hid (Below w.heap.size w w5) := Lib.hid (HB4.out.trans (hb.mono HB4.out.size))
        have HX5 := Lib.hid (HX4.out.below hb)
        clear hb y0 y1 y2 y3 y4
        cases R
        · go_wp2_with fail
          go_roundw
          case rel => exact ⟨k + 1, by omega, by go_num, Lib.hid (fun j hj => by rcases Nat.lt_succ_iff_lt_or_eq.1 hj with h | rfl; exact HJ.out j h; exact HGK.out), HX5, HB5⟩
          case measure => simp [intOf]; omega
        · have hkc := (HK.out.below HB5.out) k hlt
          have HN := Lib.hid (HAT.out k hlt HJ.out HGK.out)
          go_wp2_with fail
          go_ret2
          exact ⟨by rw [HN.out]; rfl, HB5.out⟩
      · have HG2 : Hid (G k = false) := Lib.hid (by rw [hg, he]; rfl)
        have x1 := emp_yes he
        clear hg
        generalize T k = t at *
        go_wp2_with fail
        go_roundw
        case rel => exact ⟨k + 1, by omega, by go_num, Lib.hid (fun j hj => by rcases Nat.lt_succ_iff_lt_or_eq.1 hj with h | rfl; exact HJ.out j h; exact HG2.out), HX, HB⟩
        case measure => simp [intOf]; omega
    · obtain rfl : k = 5 := by omega
      have HN := Lib.hid (HNO.out (fun i hi => HJ.out i hi))
      go_wp2_with fail
      go_ret2
      exact ⟨by rw [HN.out]; rfl, HB.out⟩
end Go.Proofs.YtkklemhhimcahaaGreatDoor
