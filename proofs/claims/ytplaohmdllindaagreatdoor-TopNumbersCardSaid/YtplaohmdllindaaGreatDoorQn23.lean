/- Ops: texts put together. -/
import Derived.Test.YtplaohmdllindaaGreatDoorQn11
import Derived.Test.YtplaohmdllindaaGreatDoorQn6
import Derived.Test.YtplaohmdllindaaGreatDoorQn1
import Derived.IntWalk
import Derived.Deep.RegionHeld3
import Derived.Deep.DrawnRows
set_option linter.unusedVariables false
set_option linter.unusedSimpArgs false
/- ops.Of. -/
namespace Go.Proofs.YtplaohmdllindaaGreatDoor
open Go.RowKit
attribute [local go_sem ↓] Go.wp_at_zero Go.wp_at_succ

abbrev opsA (i v w f t : Int) : Value := .agg #[.int .i64 i, .int .i64 v, .int .i64 w, .int .i64 f, .int .i64 t]

def Ops5 (w : World) (b : Nat) (i v ww f t : Int) : Prop := (w.cell? ⟨b, 0, none⟩ = some (.int .i64 i) ∧ w.cell? ⟨b, 1, none⟩ = some (.int .i64 v) ∧ w.cell? ⟨b, 2, none⟩ = some (.int .i64 ww) ∧ w.cell? ⟨b, 3, none⟩ = some (.int .i64 f) ∧ w.cell? ⟨b, 4, none⟩ = some (.int .i64 t)) ∧ ∀ j, w.frozen? ⟨b, j, none⟩ = false
theorem ops5_new (w : World) (q k r : Int) : Ops5 (w.alloc (.cells #[.int .i64 q, .int .i64 k, .int .i64 k, .int .i64 r, .int .i64 r] 73)).drew w.heap.size q k k r r := by
  refine ⟨⟨?_, ?_, ?_, ?_, ?_⟩, fun j => ?_⟩ <;> go_simp
theorem Ops5.turn {w : World} {b : Nat} {i v ww f t : Int} (h : Ops5 w b i v ww f t) (ww' t' : Int) : Ops5 ((w.setCell ⟨b, 2, none⟩ (.int .i64 ww')).setCell ⟨b, 4, none⟩ (.int .i64 t')) b i v ww' f t' := by
  obtain ⟨⟨h0, h1, h2, h3, h4⟩, hf⟩ := h
  refine ⟨⟨?_, ?_, ?_, ?_, ?_⟩, fun j => ?_⟩
  · exact cell_other (cell_other h0 (by simp)) (by simp)
  · exact cell_other (cell_other h1 (by simp)) (by simp)
  · exact cell_other (cell_same h2) (by simp)
  · exact cell_other (cell_other h3 (by simp)) (by simp)
  · exact cell_same (cell_other h4 (by simp))
  · have := hf j
    go_simp

theorem ops_of_no (c s : Int) (w : World) (h : ¬ decOk c s) :
    Calls Tryz.prog 21 #[decV c s] w fun e w' => e = .returned (.tuple #[opsA 0 0 0 0 0, errV 1]) ∧ Below w.heap.size w w' := by
  go_enter Tryz.func21, Tryz.ntmps21
  go_wp2_with fail
  refine (dec_check_no c s _ h).mono ?_
  rintro e w1 ⟨rfl, hb⟩
  obtain ⟨hc, hf⟩ := bcell hb
  have hz : w.heap.size + 1 < w1.heap.size := by have := hb.size; simp at this; omega
  go_wp2_with fail
  exact bodyPost_ret (v := .tuple #[opsA 0 0 0 0 0, errV 1]) (by simp [results, Tryz.results21, go_sem, hc, hz]) rfl ⟨rfl, belx⟩

set_option maxRecDepth 100000 in
set_option maxHeartbeats 2000000 in
theorem ops_of (c : Int) (s : Nat) (w : World) (h : decOk c s) :
    Calls Tryz.prog 21 #[decV c s] w fun e w' => e = .returned (.tuple #[opsA (opsC c s).i (opsC c s).v (opsC c s).w (opsC c s).f (opsC c s).t, .nilIface]) ∧ Below w.heap.size w w' := by
  have H := Lib.hid h
  obtain ⟨h1, h2, h3, h4⟩ := h
  have ht := ten_bd9 s (by omega)
  have ha : 0 ≤ absI c ∧ absI c ≤ 1000000000000000 := by unfold absI; split <;> omega
  have hmx : max c (-c) = absI c := by unfold absI; split <;> omega
  obtain ⟨a0, a1⟩ := ha
  go_enter Tryz.func21, Tryz.ntmps21
  go_wp2_with fail
  refine (dec_check_ok c s _ H.out).mono ?_
  rintro e w1 ⟨rfl, hb⟩
  obtain ⟨hc, hf⟩ := bcell hb
  have hz : w.heap.size + 1 < w1.heap.size := by have := hb.size; simp at this; omega
  have HB1 : Hid (Below w.heap.size w w1) := Lib.hid belx
  clear hb
  go_wp2_with fail
  go_loop [5, 16] (fun u i => ∃ k : Nat, k ≤ s ∧ i = .int .i64 k ∧ u = .int .i64 (ten k)) (fun _ i => s - (intOf i).toNat)
  case atStart => exact ⟨0, Nat.zero_le _, rfl, rfl⟩
  case round =>
    obtain ⟨k, hk, rfl, rfl⟩ := hrel
    have hbt := ten_bd9 k (by omega)
    by_cases hlt : k < s
    · have hb2 := ten_bd9 (k + 1) (by omega)
      have hs := ten_succ k
      have hx : ten k * 10 ≤ 10000000000 := by omega
      have H := Lib.hid hs
      clear hs
      go_wp2
      go_round
      case rel => exact ⟨k + 1, by omega, by go_num, by rw [H.out]⟩
      case measure => simp [intOf]; omega
    · obtain rfl : k = s := by omega
      clear hbt
      go_wp2
      · have hn : absI c = -c := by unfold absI; split <;> omega
        have HA : Hid (absI c = -c) := Lib.hid hn
        clear hmx
        obtain ⟨n, rfl⟩ : ∃ n, c = -n := ⟨-c, by omega⟩
        rw [Int.neg_neg] at *
        have a0 : 0 ≤ n := by omega
        have a1 : n ≤ 1000000000000000 := by omega
        clear hn
        have hu0 : ten k ≠ 0 := by omega
        have hu1 : 0 < ten k := by omega
        have hq0 := Int.ediv_nonneg a0 (by omega : 0 ≤ ten k)
        have hq1 := Int.ediv_le_self (ten k) a0
        have hm0 := Int.emod_nonneg n hu0
        have hm1 := emod_le_self (b := ten k) a0
        have hdv : n.tdiv (ten k) = n / ten k := Int.tdiv_eq_ediv_of_nonneg a0
        have hmd : n.tmod (ten k) = n % ten k := Int.tmod_eq_emod_of_nonneg a0
        have HR : Hid (opsC (-n) k = ⟨n / ten k, k, (strip k (n % ten k)).1, n % ten k, (strip k (n % ten k)).2⟩) := Lib.hid (by unfold opsC; rw [HA.out])
        have d0 : w1.cell? ⟨w.heap.size, 0, none⟩ = some (.int .i64 (-n)) := by rw [hc _ _ (by simp; omega)]; go_simp
        have d1 : w1.cell? ⟨w.heap.size, 1, none⟩ = some (.int .i64 k) := by rw [hc _ _ (by simp; omega)]; go_simp
        have r0 : ∀ j, j < 5 → w1.cell? ⟨w.heap.size + 1, j, none⟩ = some (.int .i64 0) := by
          intro j hj
          rw [hc _ _ (by simp)]
          match j, hj with
          | 0, _ => go_simp
          | 1, _ => go_simp
          | 2, _ => go_simp
          | 3, _ => go_simp
          | 4, _ => go_simp
        have f0 : ∀ j, w1.frozen? ⟨w.heap.size + 1, j, none⟩ = false := by
          intro j
          rw [hf _ _ (by simp)]
          go_simp
        have HD0 := Lib.hid d0
        have HD1 := Lib.hid d1
        have HR0 := Lib.hid r0
        have HF0 := Lib.hid f0
        have t0 := World.new_ne w1 _ d0
        have t1 := World.new_ne w1 _ d1
        have hmx : Tryz.prog.follows .mixedOrders = true := by kernel_rfl
        clear hc hf r0 f0 HA
        generalize n / ten k = q at *
        generalize n % ten k = r at *
        have hrb : r ≤ 1000000000000000 := by omega
        have hdw : IntKind.i64.wrap q = q := IntWalk.i64_in _ (by omega)
        go_region_held3 (fun w' => w'.cell? ⟨w.heap.size, 0, none⟩ = some (.int .i64 (-n)) ∧ w'.cell? ⟨w.heap.size, 1, none⟩ = some (.int .i64 k)) (go_keep) (fail)
        have HO0 := Lib.hid (ops5_new w1 q k r)
        have HBW : Hid (Below w.heap.size w (w1.alloc (.cells #[.int .i64 q, .int .i64 k, .int .i64 k, .int .i64 r, .int .i64 r] 73)).drew) := Lib.hid ((HB1.out.alloc (by omega) _).drew)
        have HRC : Hid (∀ j, j < 5 → (w1.alloc (.cells #[.int .i64 q, .int .i64 k, .int .i64 k, .int .i64 r, .int .i64 r] 73)).drew.cell? ⟨w.heap.size + 1, j, none⟩ = some (.int .i64 0)) := Lib.hid (fun j hj => carry (((Below.refl w1.heap.size w1).alloc (Nat.le_refl _) _).drew) (HR0.out j hj))
        have HRF : Hid (∀ j, (w1.alloc (.cells #[.int .i64 q, .int .i64 k, .int .i64 k, .int .i64 r, .int .i64 r] 73)).drew.frozen? ⟨w.heap.size + 1, j, none⟩ = false) := Lib.hid (fun j => (Below.frozen (((Below.refl w1.heap.size w1).alloc (Nat.le_refl _) _).drew) (p := ⟨w.heap.size + 1, j, none⟩) hz).trans (HF0.out j))
        clear HR0 HF0 HD0 HD1 d0 d1 t0 t1 hdv hmd hdw
        clear H HB1 hu0 hu1 hq0 hq1 hm1 a0 a1 h3 h4 h ht
        generalize (w1.alloc (.cells #[.int .i64 q, .int .i64 k, .int .i64 k, .int .i64 r, .int .i64 r] 73)).drew = wb at *
        generalize w1.heap.size = b at *
        go_wp2
        go_loopw [] (fun wr => ∃ (ww : Nat) (tt : Int), 0 ≤ tt ∧ tt ≤ 1000000000000000 ∧ ww ≤ k ∧ Hid (strip ww tt = strip k r) ∧ Hid (Ops5 wr b q k ww r tt) ∧ Hid (Off [b] wb wr)) (fun wr => match wr.cell? ⟨b, 2, none⟩ with | some (.int _ m) => m.toNat | _ => 0)
        case atStart => exact ⟨k, r, hm0, hrb, Nat.le_refl _, Lib.hid rfl, HO0, Lib.hid (Off.refl _ _)⟩
        case round =>
          obtain ⟨ww, tt, ht0, ht2, hwk, HS, HO, HF⟩ := hrel
          obtain ⟨⟨c0, c1, c2, c3, c4⟩, cf⟩ := HO.out
          have f2 := cf 2
          have f4 := cf 4
          have hbw : Below w.heap.size w wr := HBW.out.trans (HF.out.toBelow (by simp; omega) HBW.out.size)
          by_cases hw0 : ww = 0
          · subst hw0
            have hs : strip k r = (0, tt) := HS.out.symm
            clear cf f2 f4 HS
            have HRR : Hid (opsC (-n) k = ⟨q, k, ((0 : Nat) : Int), r, tt⟩) := Lib.hid (by rw [HR.out, hs])
            have rc0 := HF.out.cell (HRC.out 0 (by omega)) (by simp; omega)
            have rc1 := HF.out.cell (HRC.out 1 (by omega)) (by simp; omega)
            have rc2 := HF.out.cell (HRC.out 2 (by omega)) (by simp; omega)
            have rc3 := HF.out.cell (HRC.out 3 (by omega)) (by simp; omega)
            have rc4 := HF.out.cell (HRC.out 4 (by omega)) (by simp; omega)
            have hlt := lt_of_cell (HRC.out 0 (by omega))
            have rf0 := (HF.out.frozen hlt (o := 0) (by simp; omega)).trans (HRF.out 0)
            have rf1 := (HF.out.frozen hlt (o := 1) (by simp; omega)).trans (HRF.out 1)
            have rf2 := (HF.out.frozen hlt (o := 2) (by simp; omega)).trans (HRF.out 2)
            have rf3 := (HF.out.frozen hlt (o := 3) (by simp; omega)).trans (HRF.out 3)
            have rf4 := (HF.out.frozen hlt (o := 4) (by simp; omega)).trans (HRF.out 4)
            have hne : ¬ (w.heap.size + 1 = b) := by omega
            have HBE := Lib.hid hbw
            clear hs hbw
            go_wp2
            rw [HRR.out]
            exact bodyPost_ret (v := .tuple #[opsA q k ((0 : Nat) : Int) r tt, .nilIface]) (by simp [results, Tryz.results21, go_sem, rc0, rc1, rc2, rc3, rc4]) rfl ⟨rfl, ((((((HBE.out.setCell (by simp) _).setCell (by simp) _).setCell (by simp) _).setCell (by simp) _).setCell (by simp) _))⟩
          · by_cases ht1 : tt % 10 = 0
            · obtain ⟨m, rfl⟩ : ∃ m, ww = m + 1 := ⟨ww - 1, by omega⟩
              have HS2 : Hid (strip m (tt / 10) = strip k r) := Lib.hid (by rw [← HS.out, strip_go ht1])
              have HO2 : Hid (Ops5 ((wr.setCell ⟨b, 2, none⟩ (.int .i64 m)).setCell ⟨b, 4, none⟩ (.int .i64 (tt / 10))) b q k m r (tt / 10)) := Lib.hid (HO.out.turn _ _)
              have HF2 : Hid (Off [b] wb ((wr.setCell ⟨b, 2, none⟩ (.int .i64 m)).setCell ⟨b, 4, none⟩ (.int .i64 (tt / 10)))) := Lib.hid ((HF.out.setCell _ _ (by simp)).setCell _ _ (by simp))
              have hq2 : 0 ≤ tt / 10 := by omega
              have hb1 : (tt % 10 == 0) = true := by rw [ht1]; rfl
              clear cf HS HO HF ht1 hbw
              go_wp2
              go_roundw
              case rel => exact ⟨m, tt / 10, hq2, by omega, by omega, HS2, HO2, HF2⟩
              case measure => go_simp
            · obtain ⟨m, rfl⟩ : ∃ m, ww = m + 1 := ⟨ww - 1, by omega⟩
              have hs : strip k r = (m + 1, tt) := by rw [← HS.out, strip_end ht1]
              have hb1 : (tt % 10 == 0) = false := by rw [beq_eq_false_iff_ne]; exact ht1
              clear cf f2 f4 HS ht1
              have HRR : Hid (opsC (-n) k = ⟨q, k, ((m + 1 : Nat) : Int), r, tt⟩) := Lib.hid (by rw [HR.out, hs])
              have rc0 := HF.out.cell (HRC.out 0 (by omega)) (by simp; omega)
              have rc1 := HF.out.cell (HRC.out 1 (by omega)) (by simp; omega)
              have rc2 := HF.out.cell (HRC.out 2 (by omega)) (by simp; omega)
              have rc3 := HF.out.cell (HRC.out 3 (by omega)) (by simp; omega)
              have rc4 := HF.out.cell (HRC.out 4 (by omega)) (by simp; omega)
              have hlt := lt_of_cell (HRC.out 0 (by omega))
              have rf0 := (HF.out.frozen hlt (o := 0) (by simp; omega)).trans (HRF.out 0)
              have rf1 := (HF.out.frozen hlt (o := 1) (by simp; omega)).trans (HRF.out 1)
              have rf2 := (HF.out.frozen hlt (o := 2) (by simp; omega)).trans (HRF.out 2)
              have rf3 := (HF.out.frozen hlt (o := 3) (by simp; omega)).trans (HRF.out 3)
              have rf4 := (HF.out.frozen hlt (o := 4) (by simp; omega)).trans (HRF.out 4)
              have hne : ¬ (w.heap.size + 1 = b) := by omega
              have HBE := Lib.hid hbw
              clear hs hbw
              go_wp2
              rw [HRR.out]
              exact bodyPost_ret (v := .tuple #[opsA q k ((m + 1 : Nat) : Int) r tt, .nilIface]) (by simp [results, Tryz.results21, go_sem, rc0, rc1, rc2, rc3, rc4]) rfl ⟨rfl, ((((((HBE.out.setCell (by simp) _).setCell (by simp) _).setCell (by simp) _).setCell (by simp) _).setCell (by simp) _))⟩
      · have hn : absI c = c := by unfold absI; split <;> omega
        have HA : Hid (absI c = c) := Lib.hid hn
        have a0 : 0 ≤ c := by omega
        have a1 : c ≤ 1000000000000000 := by omega
        clear hmx hn
        obtain ⟨n, rfl⟩ : ∃ n, n = c := ⟨_, rfl⟩
        have hu0 : ten k ≠ 0 := by omega
        have hu1 : 0 < ten k := by omega
        have hq0 := Int.ediv_nonneg a0 (by omega : 0 ≤ ten k)
        have hq1 := Int.ediv_le_self (ten k) a0
        have hm0 := Int.emod_nonneg n hu0
        have hm1 := emod_le_self (b := ten k) a0
        have hdv : n.tdiv (ten k) = n / ten k := Int.tdiv_eq_ediv_of_nonneg a0
        have hmd : n.tmod (ten k) = n % ten k := Int.tmod_eq_emod_of_nonneg a0
        have HR : Hid (opsC (n) k = ⟨n / ten k, k, (strip k (n % ten k)).1, n % ten k, (strip k (n % ten k)).2⟩) := Lib.hid (by unfold opsC; rw [HA.out])
        have d0 : w1.cell? ⟨w.heap.size, 0, none⟩ = some (.int .i64 (n)) := by rw [hc _ _ (by simp; omega)]; go_simp
        have d1 : w1.cell? ⟨w.heap.size, 1, none⟩ = some (.int .i64 k) := by rw [hc _ _ (by simp; omega)]; go_simp
        have r0 : ∀ j, j < 5 → w1.cell? ⟨w.heap.size + 1, j, none⟩ = some (.int .i64 0) := by
          intro j hj
          rw [hc _ _ (by simp)]
          match j, hj with
          | 0, _ => go_simp
          | 1, _ => go_simp
          | 2, _ => go_simp
          | 3, _ => go_simp
          | 4, _ => go_simp
        have f0 : ∀ j, w1.frozen? ⟨w.heap.size + 1, j, none⟩ = false := by
          intro j
          rw [hf _ _ (by simp)]
          go_simp
        have HD0 := Lib.hid d0
        have HD1 := Lib.hid d1
        have HR0 := Lib.hid r0
        have HF0 := Lib.hid f0
        have t0 := World.new_ne w1 _ d0
        have t1 := World.new_ne w1 _ d1
        have hmx : Tryz.prog.follows .mixedOrders = true := by kernel_rfl
        clear hc hf r0 f0 HA
        generalize n / ten k = q at *
        generalize n % ten k = r at *
        have hrb : r ≤ 1000000000000000 := by omega
        have hdw : IntKind.i64.wrap q = q := IntWalk.i64_in _ (by omega)
        go_region_held3 (fun w' => w'.cell? ⟨w.heap.size, 0, none⟩ = some (.int .i64 (n)) ∧ w'.cell? ⟨w.heap.size, 1, none⟩ = some (.int .i64 k)) (go_keep) (fail)
        have HO0 := Lib.hid (ops5_new w1 q k r)
        have HBW : Hid (Below w.heap.size w (w1.alloc (.cells #[.int .i64 q, .int .i64 k, .int .i64 k, .int .i64 r, .int .i64 r] 73)).drew) := Lib.hid ((HB1.out.alloc (by omega) _).drew)
        have HRC : Hid (∀ j, j < 5 → (w1.alloc (.cells #[.int .i64 q, .int .i64 k, .int .i64 k, .int .i64 r, .int .i64 r] 73)).drew.cell? ⟨w.heap.size + 1, j, none⟩ = some (.int .i64 0)) := Lib.hid (fun j hj => carry (((Below.refl w1.heap.size w1).alloc (Nat.le_refl _) _).drew) (HR0.out j hj))
        have HRF : Hid (∀ j, (w1.alloc (.cells #[.int .i64 q, .int .i64 k, .int .i64 k, .int .i64 r, .int .i64 r] 73)).drew.frozen? ⟨w.heap.size + 1, j, none⟩ = false) := Lib.hid (fun j => (Below.frozen (((Below.refl w1.heap.size w1).alloc (Nat.le_refl _) _).drew) (p := ⟨w.heap.size + 1, j, none⟩) hz).trans (HF0.out j))
        clear HR0 HF0 HD0 HD1 d0 d1 t0 t1 hdv hmd hdw
        clear H HB1 hu0 hu1 hq0 hq1 hm1 a0 a1 h3 h4 h ht
        generalize (w1.alloc (.cells #[.int .i64 q, .int .i64 k, .int .i64 k, .int .i64 r, .int .i64 r] 73)).drew = wb at *
        generalize w1.heap.size = b at *
        go_wp2
        go_loopw [] (fun wr => ∃ (ww : Nat) (tt : Int), 0 ≤ tt ∧ tt ≤ 1000000000000000 ∧ ww ≤ k ∧ Hid (strip ww tt = strip k r) ∧ Hid (Ops5 wr b q k ww r tt) ∧ Hid (Off [b] wb wr)) (fun wr => match wr.cell? ⟨b, 2, none⟩ with | some (.int _ m) => m.toNat | _ => 0)
        case atStart => exact ⟨k, r, hm0, hrb, Nat.le_refl _, Lib.hid rfl, HO0, Lib.hid (Off.refl _ _)⟩
        case round =>
          obtain ⟨ww, tt, ht0, ht2, hwk, HS, HO, HF⟩ := hrel
          obtain ⟨⟨c0, c1, c2, c3, c4⟩, cf⟩ := HO.out
          have f2 := cf 2
          have f4 := cf 4
          have hbw : Below w.heap.size w wr := HBW.out.trans (HF.out.toBelow (by simp; omega) HBW.out.size)
          by_cases hw0 : ww = 0
          · subst hw0
            have hs : strip k r = (0, tt) := HS.out.symm
            clear cf f2 f4 HS
            have HRR : Hid (opsC (n) k = ⟨q, k, ((0 : Nat) : Int), r, tt⟩) := Lib.hid (by rw [HR.out, hs])
            have rc0 := HF.out.cell (HRC.out 0 (by omega)) (by simp; omega)
            have rc1 := HF.out.cell (HRC.out 1 (by omega)) (by simp; omega)
            have rc2 := HF.out.cell (HRC.out 2 (by omega)) (by simp; omega)
            have rc3 := HF.out.cell (HRC.out 3 (by omega)) (by simp; omega)
            have rc4 := HF.out.cell (HRC.out 4 (by omega)) (by simp; omega)
            have hlt := lt_of_cell (HRC.out 0 (by omega))
            have rf0 := (HF.out.frozen hlt (o := 0) (by simp; omega)).trans (HRF.out 0)
            have rf1 := (HF.out.frozen hlt (o := 1) (by simp; omega)).trans (HRF.out 1)
            have rf2 := (HF.out.frozen hlt (o := 2) (by simp; omega)).trans (HRF.out 2)
            have rf3 := (HF.out.frozen hlt (o := 3) (by simp; omega)).trans (HRF.out 3)
            have rf4 := (HF.out.frozen hlt (o := 4) (by simp; omega)).trans (HRF.out 4)
            have hne : ¬ (w.heap.size + 1 = b) := by omega
            have HBE := Lib.hid hbw
            clear hs hbw
            go_wp2
            rw [HRR.out]
            exact bodyPost_ret (v := .tuple #[opsA q k ((0 : Nat) : Int) r tt, .nilIface]) (by simp [results, Tryz.results21, go_sem, rc0, rc1, rc2, rc3, rc4]) rfl ⟨rfl, ((((((HBE.out.setCell (by simp) _).setCell (by simp) _).setCell (by simp) _).setCell (by simp) _).setCell (by simp) _))⟩
          · by_cases ht1 : tt % 10 = 0
            · obtain ⟨m, rfl⟩ : ∃ m, ww = m + 1 := ⟨ww - 1, by omega⟩
              have HS2 : Hid (strip m (tt / 10) = strip k r) := Lib.hid (by rw [← HS.out, strip_go ht1])
              have HO2 : Hid (Ops5 ((wr.setCell ⟨b, 2, none⟩ (.int .i64 m)).setCell ⟨b, 4, none⟩ (.int .i64 (tt / 10))) b q k m r (tt / 10)) := Lib.hid (HO.out.turn _ _)
              have HF2 : Hid (Off [b] wb ((wr.setCell ⟨b, 2, none⟩ (.int .i64 m)).setCell ⟨b, 4, none⟩ (.int .i64 (tt / 10)))) := Lib.hid ((HF.out.setCell _ _ (by simp)).setCell _ _ (by simp))
              have hq2 : 0 ≤ tt / 10 := by omega
              have hb1 : (tt % 10 == 0) = true := by rw [ht1]; rfl
              clear cf HS HO HF ht1 hbw
              go_wp2
              go_roundw
              case rel => exact ⟨m, tt / 10, hq2, by omega, by omega, HS2, HO2, HF2⟩
              case measure => go_simp
            · obtain ⟨m, rfl⟩ : ∃ m, ww = m + 1 := ⟨ww - 1, by omega⟩
              have hs : strip k r = (m + 1, tt) := by rw [← HS.out, strip_end ht1]
              have hb1 : (tt % 10 == 0) = false := by rw [beq_eq_false_iff_ne]; exact ht1
              clear cf f2 f4 HS ht1
              have HRR : Hid (opsC (n) k = ⟨q, k, ((m + 1 : Nat) : Int), r, tt⟩) := Lib.hid (by rw [HR.out, hs])
              have rc0 := HF.out.cell (HRC.out 0 (by omega)) (by simp; omega)
              have rc1 := HF.out.cell (HRC.out 1 (by omega)) (by simp; omega)
              have rc2 := HF.out.cell (HRC.out 2 (by omega)) (by simp; omega)
              have rc3 := HF.out.cell (HRC.out 3 (by omega)) (by simp; omega)
              have rc4 := HF.out.cell (HRC.out 4 (by omega)) (by simp; omega)
              have hlt := lt_of_cell (HRC.out 0 (by omega))
              have rf0 := (HF.out.frozen hlt (o := 0) (by simp; omega)).trans (HRF.out 0)
              have rf1 := (HF.out.frozen hlt (o := 1) (by simp; omega)).trans (HRF.out 1)
              have rf2 := (HF.out.frozen hlt (o := 2) (by simp; omega)).trans (HRF.out 2)
              have rf3 := (HF.out.frozen hlt (o := 3) (by simp; omega)).trans (HRF.out 3)
              have rf4 := (HF.out.frozen hlt (o := 4) (by simp; omega)).trans (HRF.out 4)
              have hne : ¬ (w.heap.size + 1 = b) := by omega
              have HBE := Lib.hid hbw
              clear hs hbw
              go_wp2
              rw [HRR.out]
              exact bodyPost_ret (v := .tuple #[opsA q k ((m + 1 : Nat) : Int) r tt, .nilIface]) (by simp [results, Tryz.results21, go_sem, rc0, rc1, rc2, rc3, rc4]) rfl ⟨rfl, ((((((HBE.out.setCell (by simp) _).setCell (by simp) _).setCell (by simp) _).setCell (by simp) _).setCell (by simp) _))⟩
end Go.Proofs.YtplaohmdllindaaGreatDoor
