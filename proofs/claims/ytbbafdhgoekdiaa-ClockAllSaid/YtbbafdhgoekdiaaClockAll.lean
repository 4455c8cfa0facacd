/- ClockAll: the law's walk. -/
import Derived.Test.YtbbafdhgoekdiaaClockGets
import Derived.Deep.RegionWith
import Derived.BigRegion
namespace Go.Proofs.Ytbbafdhgoekdiaa
open Go.RowKit

def Distinct (xs : List ByteArray) : Prop := ∀ (i j : Nat) (x : ByteArray), xs[i]? = some x → xs[j]? = some x → i = j
theorem Distinct.nil : Distinct [] := fun i j x h => by simp at h
theorem inB_mem {xs : List ByteArray} {s : ByteArray} {i : Nat} (h : xs[i]? = some s) : inB xs s = true := by
  unfold inB
  rw [List.any_eq_true]
  exact ⟨s, List.mem_of_getElem? h, by simp⟩
theorem Distinct.snoc {xs : List ByteArray} {y : ByteArray} (h : Distinct xs) (hy : inB xs y = false) : Distinct (xs ++ [y]) := by
  intro i j x hi hj
  have no : ∀ k, xs[k]? ≠ some y := fun k hk => by rw [inB_mem hk] at hy; cases hy
  have key : ∀ k, (xs ++ [y])[k]? = some x → (k < xs.length ∧ xs[k]? = some x) ∨ (k = xs.length ∧ x = y) := fun k hk => by
    rw [List.getElem?_append] at hk
    split at hk
    · exact .inl ⟨by assumption, hk⟩
    · have : k - xs.length = 0 := by
        rcases Nat.eq_zero_or_pos (k - xs.length) with h0 | h0
        · exact h0
        · rw [List.getElem?_eq_none (by simp; omega)] at hk; cases hk
      rw [this] at hk
      simp at hk
      exact .inr ⟨by omega, hk.symm⟩
  rcases key i hi with ⟨_, h1⟩ | ⟨rfl, rfl⟩ <;> rcases key j hj with ⟨_, h2⟩ | ⟨rfl, h2⟩
  · exact h i j x h1 h2
  · subst h2; exact absurd h1 (no i)
  · exact absurd h2 (no j)
  · rfl

/-- The first k places hold the first k texts, the others nothing. -/
def Filled (S : Cch) (n k : Nat) (xs : List ByteArray) : Prop := ∀ i, i < n → S.U i = decide (i < k) ∧ (i < k → ∀ x, xs[i]? = some x → S.K i = x ∧ S.V i = vOf x)
theorem Filled.zero (n : Nat) (xs : List ByteArray) : Filled Cch.none n 0 xs := fun i _ => ⟨by simp [Cch.none], fun h => by omega⟩
theorem Filled.put {S : Cch} {n k : Nat} {xs : List ByteArray} (h : Filled S n k xs) {y : ByteArray} (hy : xs[k]? = some y) : Filled (S.put k y (vOf y)) n (k + 1) xs := by
  intro i hi
  obtain ⟨h1, h2⟩ := h i hi
  simp only [Cch.put]
  by_cases e : i = k
  · subst e
    refine ⟨by simp, fun _ x hx => ?_⟩
    obtain rfl := Option.some.inj (hy.symm.trans hx)
    simp
  · rw [if_neg e, if_neg e, if_neg e]
    refine ⟨by rw [h1]; simp; omega, fun hk x hx => h2 (by omega) x hx⟩
theorem Filled.not {S : Cch} {n k : Nat} {xs : List ByteArray} (h : Filled S n k xs) (hd : Distinct xs) (hn : k < xs.length) {y : ByteArray} (hy : xs[k]? = some y) : ∀ j, j < n → isAt S y j = false := by
  intro j hj
  obtain ⟨h1, h2⟩ := h j hj
  unfold isAt
  rw [h1]
  by_cases hjk : j < k
  · have hx : xs[j]? = some xs[j] := List.getElem?_eq_getElem (by omega)
    rw [(h2 hjk _ hx).1]
    cases hb : (xs[j].toList == y.toList) with
    | false => simp
    | true =>
      rw [← bytes_eq hb] at hy
      have := hd j k _ hx hy
      omega
  · simp [hjk]
theorem Filled.free {S : Cch} {n k : Nat} {xs : List ByteArray} (h : Filled S n k xs) (hk : k < n) : isFree S k = true ∧ ∀ j, j < k → isFree S j = false := by
  refine ⟨by unfold isFree; rw [(h k hk).1]; simp, fun j hj => by unfold isFree; rw [(h j (by omega)).1]; simp [hj]⟩
theorem Filled.at {S : Cch} {n : Nat} {xs : List ByteArray} (h : Filled S n xs.length xs) (hd : Distinct xs) {j : Nat} (hj : j < n) {y : ByteArray} (hy : xs[j]? = some y) :
    isAt S y j = true ∧ (∀ i, i < j → isAt S y i = false) ∧ S.V j = vOf y := by
  have hjl : j < xs.length := (List.getElem?_eq_some_iff.1 hy).1
  obtain ⟨h1, h2⟩ := h j hj
  obtain ⟨h3, h4⟩ := h2 hjl y hy
  refine ⟨by unfold isAt; rw [h1, h3]; simp [hjl], fun i hi => ?_, h4⟩
  obtain ⟨g1, g2⟩ := h i (by omega)
  have hx : xs[i]? = some xs[i] := List.getElem?_eq_getElem (by omega)
  unfold isAt
  rw [g1, (g2 (by omega) _ hx).1]
  cases hb : (xs[i].toList == y.toList) with
  | false => simp
  | true =>
    rw [← bytes_eq hb] at hy
    have := hd i j _ hx hy
    omega
theorem Filled.keys {S : Cch} {n : Nat} {xs : List ByteArray} (h : Filled S n xs.length xs) (hn : xs.length ≤ n) : keysOf S n = xs := by
  have key : ∀ m, m ≤ n → keysOf S m = xs.take m := by
    intro m
    induction m with
    | zero => intro _; simp [keysOf]
    | succ m ih =>
      intro hm
      obtain ⟨h1, h2⟩ := h m (by omega)
      by_cases hl : m < xs.length
      · have hx : xs[m]? = some xs[m] := List.getElem?_eq_getElem hl
        rw [keysOf_succ_on S m (by rw [h1]; simp [hl]), ih (by omega), (h2 hl _ hx).1, List.take_add_one, hx]
        rfl
      · rw [keysOf_succ_off S m (by rw [h1]; simp [hl]), ih (by omega), List.take_of_length_le (by omega), List.take_of_length_le (by omega)]
  rw [key n (Nat.le_refl _), List.take_of_length_le hn]
theorem Filled.mark {S : Cch} {n k : Nat} {xs : List ByteArray} (h : Filled S n k xs) (M : Nat → Bool) : Filled { S with M := M } n k xs := h
theorem keysOf_none (n : Nat) : keysOf Cch.none n = [] := by
  unfold keysOf
  rw [show Cch.none.U = fun _ => false from rfl]
  simp

theorem all_no (n : Int) (A : Option Addr) (c : Nat) (xs : List ByteArray) (w : World) (h : ¬ (1 ≤ n ∧ n ≤ 50)) :
    Calls Try.prog 5 #[.int .i64 n, .slice A xs.length c] w fun e w' => e = .returned (.bool true) ∧ Below w.heap.size w w' := by
  go_enter Try.func5, Try.ntmps5
  go_wp2_with fail
  refine (new_no n w h).mono ?_
  rintro e w1 ⟨rfl, rfl⟩
  have hz : (decide (n < 1) || decide (50 < n)) = true := by simp; omega
  go_wp2_with fail
  all_goals go_ret
  all_goals exact ⟨by first | rfl | exact ret_bool hz, (by (repeat (first | with_reducible exact Below.refl _ _ | with_reducible refine bel_set ?_ ?_ | with_reducible refine bel_alloc ?_ ?_ | with_reducible refine Below.drew ?_ | with_reducible refine bel_drewN _ ?_ | with_reducible refine bel_call ?_ (by assumption) ?_)); all_goals (first | (simp; done) | omega | (simp; omega)))⟩

set_option maxHeartbeats 2000000 in
theorem all_ok (n : Nat) (A : Option Addr) (c : Nat) (xs : List ByteArray) (w : World) (h0 : 1 ≤ n) (h1 : n ≤ 50) (hA : StrsIn w A xs)
    (hx : xs.length ≤ 9000000000000000) (hxs : ∀ x ∈ xs, x.size ≤ 9000000000000000) :
    Calls Try.prog 5 #[.int .i64 n, .slice A xs.length c] w fun e w' => e = .returned (.bool true) ∧ Below w.heap.size w w' := by
  have HA := Lib.hid hA
  have HXS := Lib.hid hxs
  clear hA hxs
  go_enter Try.func5, Try.ntmps5
  go_wp2_with fail
  refine (new_ok n w h0 h1).mono ?_
  rintro e w1 ⟨cb, pb, rfl, hC1, lc, lp, hb1⟩
  have HC1 := Lib.hid hC1
  have s1 := hb1.size
  have lcb := hC1.lcb
  have lpb := hC1.lpb
  clear hC1
  go_wp2_with fail
  go_loopw [7, 8] (fun v i wr => ∃ (k : Nat) (B : Option Addr) (d : Nat) (ys : List ByteArray), k ≤ xs.length ∧ i = .int .i64 k ∧ v = .slice B ys.length d ∧ ys.length ≤ n ∧ Hid (OwnsS wr w1.heap.size (.slice B ys.length d) ys) ∧ Hid (Distinct ys) ∧ Hid (∀ y ∈ ys, y.size ≤ 9000000000000000) ∧ Hid (Below w1.heap.size w1 wr)) (fun _ i _ => xs.length - (intOf i).toNat)
  case atStart => exact ⟨0, none, 0, [], Nat.zero_le _, rfl, rfl, Nat.zero_le _, Lib.hid (OwnsS.nil _ _), Lib.hid Distinct.nil, Lib.hid (fun y hy => by cases hy), Lib.hid (Below.refl _ _)⟩
  case round =>
    obtain ⟨k, B, d, ys, hk, rfl, rfl, hyn, HO, HD, HYS, HB1⟩ := hrel
    have hbr : Below w.heap.size w wr := hb1.trans (HB1.out.mono s1)
    have sr := HB1.out.size
    by_cases hlt : k < xs.length
    · have hg : xs[k]? = some xs[k] := List.getElem?_eq_getElem hlt
      have hsz := HXS.out _ (List.getElem_mem hlt)
      have HAr := Lib.hid (HA.out.below hbr)
      rcases HAr.out with e0 | ⟨bk, o, rfl, hc⟩
      · subst e0; simp at hlt
      have hcell := hc k _ hg
      clear hc hg
      generalize xs[k] = x at *
      have i1 : (0 : Int) ≤ (k : Int) := by omega
      have i2 : (k : Int) < (xs.length : Int) := by omega
      have i3 : (ys.length : Int) ≤ (n : Int) := by omega
      go_wp2_with fail
      refine (in_ok B d ys x _ HO.out.strs (by omega)).mono ?_
      cases hin : inB ys x
      · rintro e w2 ⟨rfl, rfl⟩
        by_cases hl : ys.length < n
        · have hd2 : decide ((ys.length : Int) < (n : Int)) = true := by simp; omega
          go_wp2_with (at_builtin; refine wpList_append_one rfl _ _ rfl x rfl rfl (HO.out.alloc _) (by go_simp) (by simp; omega) (by omega) ?_; intro v' w' ho hoff)
          have hbl : Below w1.heap.size _ w' := OwnsS.grown (HO.out.alloc (.cells #[.string x] 9)) hoff (by simp; omega)
          have HB2 : Hid (Below w1.heap.size w1 w') := Lib.hid ((HB1.out.alloc sr _).trans hbl)
          have HD2 := Lib.hid (HD.out.snoc hin)
          have HY2 : Hid (∀ y ∈ ys ++ [x], y.size ≤ 9000000000000000) := Lib.hid (fun y hy => (List.mem_append.1 hy).elim (fun h => HYS.out y h) (fun h => by simp only [List.mem_singleton] at h; rw [h]; exact hsz))
          obtain ⟨B', d', rfl, _⟩ := ho.form
          have HO2 := Lib.hid ho
          clear ho hoff hbl hin HD HYS HB1 HO HAr hbr hcell
          go_roundw
          case rel => exact ⟨k + 1, B', d', ys ++ [x], by omega, by go_num, rfl, by simp; omega, HO2, HD2, HY2, HB2⟩
          case measure => simp [intOf]; omega
        · have hd2 : decide ((ys.length : Int) < (n : Int)) = false := by simp; omega
          clear hin
          go_wp2_with fail
          go_roundw
          case rel => exact ⟨k + 1, B, d, ys, by omega, by go_num, rfl, hyn, HO, HD, HYS, HB1⟩
          case measure => simp [intOf]; omega
      · rintro e w2 ⟨rfl, rfl⟩
        clear hin
        go_wp2_with fail
        go_roundw
        case rel => exact ⟨k + 1, B, d, ys, by omega, by go_num, rfl, hyn, HO, HD, HYS, HB1⟩
        case measure => simp [intOf]; omega
    · obtain ⟨w2, rfl⟩ : ∃ w2 : World, w2 = wr := ⟨_, rfl⟩
      obtain rfl : k = xs.length := by omega
      have HC2 := Lib.hid (HC1.out.below HB1.out)
      have hL : ∀ g, (Value.slice B ys.length d).ownBlock = some g → g ∉ [cb, pb] := fun g hg => by
        obtain ⟨_, _, _, _, _, h5⟩ := HO.out.form
        have := (h5 g hg).1
        simp; omega
      have HL := Lib.hid hL
      have HW2 := Lib.hid hbr
      clear hL hbr HB1 HC1 hb1 HXS HA
      go_wp2_with fail
      go_loopw [9, 10, 11] (fun i _ _ wr => ∃ (k g : Nat) (S : Cch), k ≤ ys.length ∧ i = .int .i64 k ∧ Hid (CacheAt wr cb pb n S g) ∧ Hid (Filled S n k ys) ∧ Hid (Off [cb, pb] w2 wr)) (fun i _ _ _ => ys.length - (intOf i).toNat)
      case atStart => exact ⟨0, 0, _, Nat.zero_le _, rfl, HC2, Lib.hid (Filled.zero n ys), Lib.hid (Off.refl _ _)⟩
      case round =>
        obtain ⟨k, g, S, hk, rfl, HC, HF, HQ⟩ := hrel
        have HRr := Lib.hid ((HO.out.off HQ.out HL.out).strs)
        by_cases hlt : k < ys.length
        · have hg : ys[k]? = some ys[k] := List.getElem?_eq_getElem hlt
          have hsz := HYS.out _ (List.getElem_mem hlt)
          have HNo := Lib.hid (HF.out.not HD.out hlt hg)
          have HFr := Lib.hid (HF.out.free (show k < n by omega))
          have HF2 := Lib.hid (HF.out.put hg)
          rcases HRr.out with e0 | ⟨bk, o, rfl, hc⟩
          · subst e0; simp at hlt
          have hcell := hc k _ hg
          clear hc hg HF HRr
          generalize ys[k] = y at *
          have i1 : (0 : Int) ≤ (k : Int) := by omega
          have i2 : (k : Int) < (ys.length : Int) := by omega
          have r1 : ∀ W : World, (Op.stringOp .add ⟨#[118]⟩ y).run Try.prog W = .ok (.string (⟨#[118]⟩ ++ y)) W := fun W => run_string_add_sum W _ _ (by show 1 + _ ≤ _; omega)
          have HCd : Hid (CacheAt wr.drew cb pb n S g) := Lib.hid (HC.out.drewN 1)
          have HQd : Hid (Off [cb, pb] w2 wr.drew) := Lib.hid (HQ.out.drewN 1)
          clear HC HQ
          have hbn : k < n := by omega
          go_wp2_with fail
          go_region_with (go_at_call 11; refine (put_free k y (vOf y) cb pb n g S _ HCd.out hbn HNo.out HFr.out.1 HFr.out.2).mono ?_; rintro e w4 ⟨rfl, hC4, hO4⟩)
          all_goals (
            have HC4 := Lib.hid hC4
            have HQ4 := Lib.hid (HQd.out.trans hO4)
            clear hC4 hO4 HCd HQd HNo HFr
            go_wp2_with fail
            go_roundw
            case rel => exact ⟨k + 1, g, _, by omega, by go_num, HC4, HF2, HQ4⟩
            case measure => simp [intOf]; omega)
        · obtain ⟨w3, rfl⟩ : ∃ w3 : World, w3 = wr := ⟨_, rfl⟩
          obtain rfl : k = ys.length := by omega
          have hs2 := HW2.out.size
          have hbw3 : Below w.heap.size w w3 := HW2.out.trans (HQ.out.toBelow (by simp; omega) hs2)
          have hs3 := HQ.out.size
          have HO3 := Lib.hid (HO.out.off HQ.out HL.out)
          have hkeys := HF.out.keys hyn
          go_wp2_with fail
          refine (keys_ok cb pb n g S _ HC.out).mono ?_
          rw [hkeys]
          rintro e w5 ⟨v5, rfl, hown5, hb5⟩
          have HW5 : Hid (Below w.heap.size w w5) := Lib.hid (hbw3.trans (hb5.mono (by omega)))
          have HO5 := Lib.hid (HO3.out.below hb5)
          have HC5 := Lib.hid (HC.out.below hb5)
          have hs5 := hb5.size
          obtain ⟨A5, c5, rfl, _, hs, _⟩ := hown5.form
          have HS5 := Lib.hid hs
          clear hs hown5 hb5 hkeys HC HQ HRr HO hbw3 HC2 HO3
          go_wp2_with fail
          refine (texts_same A5 B c5 d ys _ HS5.out HO5.out.strs (by omega)).mono ?_
          rintro e w6 ⟨rfl, m6, e6⟩
          have HW6 : Hid (Below w.heap.size w w6) := Lib.hid (e6 ▸ bel_drewN _ HW5.out)
          have HO6 : Hid (OwnsS w6 w1.heap.size (.slice B ys.length d) ys) := Lib.hid (e6 ▸ HO5.out.drewN m6)
          have HC6 : Hid (CacheAt w6 cb pb n S g) := Lib.hid (e6 ▸ HC5.out.drewN m6)
          have hs6 : w5.heap.size ≤ w6.heap.size := by rw [e6]; simp
          clear HW5 HO5 HC5 HS5 e6
          go_wp2_with fail
          go_loopw [13, 14, 15] (fun i _ _ wr => ∃ (k : Nat) (M : Nat → Bool), k ≤ ys.length ∧ i = .int .i64 k ∧ Hid (CacheAt wr cb pb n { S with M := M } g) ∧ Hid (Off [cb, pb] w6 wr)) (fun i _ _ _ => ys.length - (intOf i).toNat)
          case atStart => exact ⟨0, S.M, Nat.zero_le _, rfl, HC6, Lib.hid (Off.refl _ _)⟩
          case round =>
            obtain ⟨k, M, hk, rfl, HC, HQ⟩ := hrel
            have HRr := Lib.hid ((HO6.out.off HQ.out HL.out).strs)
            by_cases hlt : k < ys.length
            · have hg : ys[k]? = some ys[k] := List.getElem?_eq_getElem hlt
              have hsz := HYS.out _ (List.getElem_mem hlt)
              obtain ⟨h3, h4, h5⟩ := HF.out.at HD.out (show k < n by omega) hg
              have hget := get_yes k ys[k] cb pb n g { S with M := M } wr HC.out (by omega) h3 h4
              simp only [h5] at hget
              have HGet := Lib.hid hget
              have HGJ := Lib.hid hg
              clear h3 h4 h5 hget
              rcases HRr.out with e0 | ⟨bk, o, rfl, hc⟩
              · subst e0; simp at hlt
              have hcell := hc k _ hg
              clear hc hg
              generalize ys[k] = y at *
              have i1 : (0 : Int) ≤ (k : Int) := by omega
              have i2 : (k : Int) < (ys.length : Int) := by omega
              have r1 : ∀ W : World, (Op.stringOp .add ⟨#[118]⟩ y).run Try.prog W = .ok (.string (⟨#[118]⟩ ++ y)) W := fun W => run_string_add_sum W _ _ (by show 1 + _ ≤ _; omega)
              go_wp2_with fail
              refine HGet.out.mono ?_
              rintro e w7 ⟨rfl, hC7, hO7⟩
              have HC7 := Lib.hid hC7
              have HQ7 := Lib.hid (HQ.out.trans hO7)
              have hcell7 := (HO6.out.off HQ7.out HL.out).strs.at HGJ.out
              unfold vOf
              clear hC7 hO7 HC HQ HRr HGet hcell
              go_wp2_with fail
              go_roundw
              case rel => exact ⟨k + 1, fun j => if j = k then true else M j, by omega, by go_num, HC7, HQ7⟩
              case measure => simp [intOf]; omega
            · obtain rfl : k = ys.length := by omega
              have hbwr : Below w.heap.size w wr := HW6.out.trans (HQ.out.toBelow (by simp; omega) (by omega))
              have hsr := hbwr.size
              go_wp2_with fail
              refine (clear_ok cb pb n g { S with M := M } wr HC.out).mono ?_
              rintro e w8 ⟨rfl, hC8, hO8⟩
              have HC8 := Lib.hid hC8
              have hbw8 : Below w.heap.size w w8 := hbwr.trans (hO8.toBelow (by simp; omega) hsr)
              have hs8 := hbw8.size
              clear hC8 hO8 HC HQ HRr
              go_wp2_with fail
              refine (keys_ok cb wr.heap.size n 0 Cch.none w8 HC8.out).mono ?_
              rw [keysOf_none]
              rintro e w9 ⟨v9, rfl, hown9, hb9⟩
              obtain ⟨A9, c9, rfl, _, _, _⟩ := hown9.form
              have hb := hbw8.trans (hb9.mono hs8)
              clear hown9 hb9
              go_wp2_with fail
              go_ret
              exact ⟨rfl, hb⟩
end Go.Proofs.Ytbbafdhgoekdiaa
