/- ClockGets: the law's walk. -/
import Derived.Test.YtbbafdhgoekdiaaClockNew
import Derived.Test.YtbbafdhgoekdiaaInTexts
namespace Go.Proofs.Ytbbafdhgoekdiaa
open Go.RowKit

/-- Put, whatever it meets: one place is written, and marks. -/
theorem put_any (key val : ByteArray) (cb pb n h : Nat) (S : Cch) (w : World) (hc : CacheAt w cb pb n S h) :
    Calls Try.prog 11 #[.pointer (some ⟨cb, 0, none⟩), .string key, .string val] w fun e w' =>
      ∃ (i h' : Nat) (M : Nat → Bool) (r : Value), i < n ∧ e = .returned r ∧ CacheAt w' cb pb n (Cch.put { S with M := M } i key val) h' ∧ Off [cb, pb] w w' := by
  rcases least n (isAt S key) with ⟨i, hi, h1, h2⟩ | h0
  · exact (put_old i key val cb pb n h S w hc hi h1 h2).mono fun e w' ⟨a, b, c⟩ => ⟨i, h, S.M, _, hi, a, b, c⟩
  · rcases least n (isFree S) with ⟨i, hi, h1, h2⟩ | h1
    · exact (put_free i key val cb pb n h S w hc hi h0 h1 h2).mono fun e w' ⟨a, b, c⟩ => ⟨i, h, S.M, _, hi, a, b, c⟩
    · exact (put_evict key val cb pb n h S w hc h0 h1).mono fun e w' ⟨i, h', M, hi, a, b, c⟩ => ⟨i, h', M, _, hi, a, b, c⟩

def vOf (x : ByteArray) : ByteArray := ⟨#[118]⟩ ++ x
/-- Each value is its key's. -/
def GoodC (S : Cch) (n : Nat) : Prop := ∀ i, i < n → S.U i = true → S.V i = vOf (S.K i)
theorem GoodC.put {S : Cch} {n : Nat} (h : GoodC S n) (M : Nat → Bool) (i : Nat) (key : ByteArray) : GoodC (Cch.put { S with M := M } i key (vOf key)) n := by
  intro j hj hu
  simp only [Cch.put] at *
  by_cases e : j = i
  · simp [e]
  · simp only [if_neg e] at *
    exact h j hj hu
theorem keysOf_any (S : Cch) (key : ByteArray) (n : Nat) : inB (keysOf S n) key = (List.range n).any (isAt S key) := by
  unfold inB keysOf
  rw [List.any_map, List.any_filter]
  rfl
theorem inB_yes (S : Cch) (key : ByteArray) (n i : Nat) (hi : i < n) (h : isAt S key i = true) : inB (keysOf S n) key = true := by
  rw [keysOf_any, List.any_eq_true]
  exact ⟨i, by simpa using hi, h⟩
theorem inB_no (S : Cch) (key : ByteArray) (n : Nat) (h : ∀ j, j < n → isAt S key j = false) : inB (keysOf S n) key = false := by
  rw [keysOf_any, List.any_eq_false]
  intro j hj
  rw [h j (by simpa using hj)]
  simp
theorem keysOf_congr (S T : Cch) (n : Nat) (hK : S.K = T.K) (hU : S.U = T.U) : keysOf S n = keysOf T n := by unfold keysOf; rw [hK, hU]
theorem keysOf_pos (S : Cch) (n i : Nat) (hi : i < n) (h : S.U i = true) : 0 < (keysOf S n).length := by
  unfold keysOf
  rw [List.length_map, List.length_pos_iff_exists_mem]
  exact ⟨i, by simp [hi, h]⟩
/-- Some key is there, if any was put. -/
def SomeC (S : Cch) (n k : Nat) : Prop := 0 < k → ∃ i, i < n ∧ S.U i = true
theorem SomeC.put {S : Cch} {n k : Nat} (i : Nat) (hi : i < n) (key val : ByteArray) : SomeC (Cch.put S i key val) n k := fun _ => ⟨i, hi, by simp [Cch.put]⟩

theorem Off.ofBelow {l : List Nat} {a b : World} (h : Below a.heap.size a b) : Off l a b := (Off.refl l a).below h (Nat.le_refl _)

theorem CacheAt.off {w w1 : World} {cb pb n h : Nat} {S : Cch} {l : List Nat} (c : CacheAt w cb pb n S h) (hb : Off l w w1) (h1 : cb ∉ l) (h2 : pb ∉ l) : CacheAt w1 cb pb n S h :=
  ⟨c.n0, c.n1, c.hh, c.ne, hb.cell c.head h1, hb.cell c.hand h1, fun i hi => hb.cell (c.k i hi) h2, fun i hi => hb.cell (c.v i hi) h2, fun i hi => hb.cell (c.u i hi) h2, fun i hi => hb.cell (c.m i hi) h2,
    fun o => (hb.frozen c.lcb h1).trans (c.fc o), fun o => (hb.frozen c.lpb h2).trans (c.fp o)⟩

theorem gets_no (n : Int) (A B : Option Addr) (c d : Nat) (xs ys : List ByteArray) (w : World) (h : ¬ (1 ≤ n ∧ n ≤ 50)) :
    Calls Try.prog 4 #[.int .i64 n, .slice A xs.length c, .slice B ys.length d] w fun e w' => e = .returned (.bool true) ∧ Below w.heap.size w w' := by
  go_enter Try.func4, Try.ntmps4
  go_wp2_with fail
  refine (new_no n w h).mono ?_
  rintro e w1 ⟨rfl, rfl⟩
  have hz : (decide (n < 1) || decide (50 < n)) = true := by simp; omega
  go_wp2_with fail
  all_goals go_ret
  all_goals exact ⟨by first | rfl | exact ret_bool hz, (by (repeat (first | with_reducible exact Below.refl _ _ | with_reducible refine bel_set ?_ ?_ | with_reducible refine bel_alloc ?_ ?_ | with_reducible refine Below.drew ?_ | with_reducible refine bel_drewN _ ?_ | with_reducible refine bel_call ?_ (by assumption) ?_)); all_goals (first | (simp; done) | omega | (simp; omega)))⟩

theorem gets_ok (n : Nat) (A B : Option Addr) (c d : Nat) (xs ys : List ByteArray) (w : World) (h0 : 1 ≤ n) (h1 : n ≤ 50) (hA : StrsIn w A xs) (hB : StrsIn w B ys)
    (hx : xs.length ≤ 9000000000000000) (hy : ys.length ≤ 9000000000000000) (hxs : ∀ x ∈ xs, x.size ≤ 9000000000000000) (hys : ∀ y ∈ ys, y.size ≤ 9000000000000000) :
    Calls Try.prog 4 #[.int .i64 n, .slice A xs.length c, .slice B ys.length d] w fun e w' => e = .returned (.bool true) ∧ Below w.heap.size w w' := by
  have HA := Lib.hid hA
  have HB := Lib.hid hB
  have HXS := Lib.hid hxs
  have HYS := Lib.hid hys
  clear hA hB hxs hys
  go_enter Try.func4, Try.ntmps4
  go_wp2_with fail
  refine (new_ok n w h0 h1).mono ?_
  rintro e w1 ⟨cb, pb, rfl, hC1, lc, lp, hb1⟩
  have HC1 := Lib.hid hC1
  have s1 := hb1.size
  clear hC1
  go_wp2_with fail
  go_loopw [9] (fun i wr => ∃ (k g : Nat) (S : Cch), k ≤ xs.length ∧ i = .int .i64 k ∧ Hid (CacheAt wr cb pb n S g) ∧ Hid (GoodC S n) ∧ Hid (SomeC S n k) ∧ Hid (Off [cb, pb] w1 wr)) (fun i _ => xs.length - (intOf i).toNat)
  case atStart => exact ⟨0, 0, _, Nat.zero_le _, rfl, HC1, Lib.hid (fun i hi hu => by cases hu), Lib.hid (fun h => by omega), Lib.hid (Off.refl _ _)⟩
  case round =>
    obtain ⟨k, g, S, hk, rfl, HC, HG, HS, HO⟩ := hrel
    have hbr : Below w.heap.size w wr := hb1.trans (HO.out.toBelow (by simp; omega) s1)
    have sr := hbr.size
    have HAr := Lib.hid (HA.out.below hbr)
    have HBr := Lib.hid (HB.out.below hbr)
    by_cases hlt : k < xs.length
    · have hg : xs[k]? = some xs[k] := List.getElem?_eq_getElem hlt
      have hsz := HXS.out _ (List.getElem_mem hlt)
      rcases HAr.out with e0 | ⟨bk, o, rfl, hc⟩
      · subst e0; simp at hlt
      have hcell := hc k _ hg
      clear hc hg
      generalize xs[k] = x at *
      have i1 : (0 : Int) ≤ (k : Int) := by omega
      have i2 : (k : Int) < (xs.length : Int) := by omega
      have r1 : ∀ W : World, (Op.stringOp .add ⟨#[118]⟩ x).run Try.prog W = .ok (.string (⟨#[118]⟩ ++ x)) W := fun W => run_string_add_sum W _ _ (by show 1 + _ ≤ _; omega)
      have hcl : ({ heap := wr.heap, tape := wr.tape, drawn := wr.drawn + 1, os := wr.os, output := wr.output } : World).cell? ⟨bk, o + k, none⟩ = some (.string x) := hcell
      go_wp2_with fail
      go_still_tail 10, (by kernel_rfl)
      change wpList _ _ _ _ _ wr.drew
      obtain ⟨w2, e2⟩ : ∃ w2, w2 = wr.drew := ⟨_, rfl⟩
      rw [← e2]
      have HC2 : Hid (CacheAt w2 cb pb n S g) := Lib.hid (e2 ▸ HC.out.drewN 1)
      have HO2 : Hid (Off [cb, pb] w1 w2) := Lib.hid (e2 ▸ HO.out.drewN 1)
      clear hcl hcell HC HO HAr HBr hbr e2
      go_wp2_with fail
      refine (put_any x (vOf x) cb pb n g S w2 HC2.out).mono ?_
      rintro e w3 ⟨i, g', M, r, hi, rfl, hC3, hO3⟩
      have HC3 := Lib.hid hC3
      have HO3 := Lib.hid (HO2.out.trans hO3)
      have HG3 := Lib.hid (HG.out.put M i x)
      have HS3 : Hid (SomeC (Cch.put { S with M := M } i x (vOf x)) n (k + 1)) := Lib.hid (SomeC.put i hi x _)
      clear hC3 hO3 HG HS
      go_wp2_with fail
      go_roundw
      case rel => exact ⟨k + 1, g', _, by omega, by go_num, HC3, HG3, HS3, HO3⟩
      case measure => simp [intOf]; omega
    · obtain ⟨wo, rfl⟩ : ∃ wo : World, wo = wr := ⟨_, rfl⟩
      obtain rfl : k = xs.length := by omega
      have lcb := HC.out.lcb
      have lpb := HC.out.lpb
      go_wp2_with fail
      refine (keys_ok cb pb n g S _ (HC.out.below ((Below.refl _ _).alloc (Nat.le_refl _) _))).mono ?_
      rintro e wk ⟨v, rfl, hown, hbk⟩
      have s3 : wo.heap.size < wk.heap.size := by have := hbk.size; simp at this; omega
      have HCk := Lib.hid ((HC.out.below ((Below.refl _ _).alloc (Nat.le_refl _) (.cells #[] 9))).below hbk)
      have hbrk : Below wo.heap.size wo wk := ((Below.refl _ _).alloc (Nat.le_refl _) (.cells #[] 9)).trans (hbk.mono (by simp))
      have hrow := (OwnsS.lit wo (Nat.le_refl _)).below hbk
      have HOk := Lib.hid (HO.out.below hbrk HO.out.size)
      have HBk := Lib.hid (HBr.out.below hbrk)
      obtain ⟨A1, c1, rfl, hA1, hs1, hl1⟩ := hown.form
      have hkl := keysOf_len S n
      clear hown hbk hbrk HA HAr HXS HBr HO HC
      go_wp2_with (at_builtin; refine wpList_append_many rfl _ _ rfl rfl rfl hrow hs1 hA1 (by omega) (by simp; omega) ?_; intro v2 w2 ho2 hoff2)
      have hoff : Off [wo.heap.size] wk w2 := hoff2
      clear hoff2 hrow hs1 hl1 hA1
      have s2 := hoff.size
      have HW2 := Lib.hid ((hb1.trans (HOk.out.toBelow (B := w.heap.size) (by simp; omega) s1)).trans (hoff.toBelow (B := w.heap.size) (by simp; omega) (by omega)))
      have HC2 := Lib.hid (HCk.out.off hoff (by simp; omega) (by simp; omega))
      have HR2 : Hid (OwnsS w2 wo.heap.size v2 (keysOf S n)) := Lib.hid ho2
      clear ho2 hoff HCk HOk HBk hb1
      obtain ⟨A2, c2, rfl, hA2, _, hl2⟩ := HR2.out.form
      have hown2 : ∀ k, (Value.slice A2 (keysOf S n).length c2).ownBlock = some k → k ∉ [cb, pb] := fun k hk => by have := (hl2 k hk).1; simp; omega
      have HL2 := Lib.hid hown2
      clear hl2 hA2 hown2
      go_loopw [11, 12, 13] (fun i _ _ wr => ∃ (j : Nat) (M : Nat → Bool), j ≤ ys.length ∧ i = .int .i64 j ∧ Hid (CacheAt wr cb pb n { S with M := M } g) ∧ Hid (Off [cb, pb] w2 wr)) (fun i _ _ _ => ys.length - (intOf i).toNat)
      case atStart => exact ⟨0, S.M, Nat.zero_le _, rfl, HC2, Lib.hid (Off.refl _ _)⟩
      case round =>
        obtain ⟨j, M, hj, rfl, HC, HO⟩ := hrel
        have hbq : Below w.heap.size w wr := HW2.out.trans (HO.out.toBelow (by simp; omega) (by have := HW2.out.size; omega))
        have hsq := hbq.size
        have HBq := Lib.hid (HB.out.below hbq)
        have HRq := Lib.hid ((HR2.out.off HO.out HL2.out).strs)
        by_cases hlt : j < ys.length
        · have hg : ys[j]? = some ys[j] := List.getElem?_eq_getElem hlt
          have hsz := HYS.out _ (List.getElem_mem hlt)
          rcases HBq.out with e0 | ⟨bk, o, rfl, hc⟩
          · subst e0; simp at hlt
          have hcell := hc j _ hg
          have HGJ := Lib.hid hg
          clear hc hg
          generalize ys[j] = y at *
          have i1 : (0 : Int) ≤ (j : Int) := by omega
          have i2 : (j : Int) < (ys.length : Int) := by omega
          have r1 : ∀ W : World, (Op.stringOp .add ⟨#[118]⟩ y).run Try.prog W = .ok (.string (⟨#[118]⟩ ++ y)) W := fun W => run_string_add_sum W _ _ (by show 1 + _ ≤ _; omega)
          rcases least n (isAt S y) with ⟨i, hi, h3, h4⟩ | h3
          · have hin := inB_yes S y n i hi h3
            have hv : S.V i = ⟨#[118]⟩ ++ y := by
              have h5 := h3
              unfold isAt at h5
              rw [Bool.and_eq_true] at h5
              rw [HG.out i hi h5.1, bytes_eq h5.2]
              rfl
            have hget := get_yes i y cb pb n g { S with M := M } wr HC.out hi h3 h4
            simp only [hv] at hget
            have HGet := Lib.hid hget
            have HIn := Lib.hid hin
            clear hget hin hv h3 h4
            go_wp2_with fail
            refine HGet.out.mono ?_
            rintro e w3 ⟨rfl, hC3, hO3⟩
            have HC3 := Lib.hid hC3
            have HO3 := Lib.hid (HO.out.trans hO3)
            have hbw3 : Below w.heap.size w w3 := hbq.trans (hO3.toBelow (by simp; omega) hsq)
            have HR3 := Lib.hid ((HR2.out.off HO3.out HL2.out).strs)
            have hcell3 := (HB.out.below hbw3).at HGJ.out
            clear hC3 hO3 HC HO HBq HRq HGet
            go_wp2_with fail
            refine (in_ok A2 c2 (keysOf S n) y _ HR3.out (by omega)).mono ?_
            rw [HIn.out]
            rintro e w4 ⟨rfl, rfl⟩
            go_wp2_with fail
            go_roundw
            case rel => exact ⟨j + 1, fun j => if j = i then true else M j, by omega, by go_num, HC3, HO3⟩
            case measure => simp [intOf]; omega
          · have hin := inB_no S y n h3
            have HGet := Lib.hid (get_no y cb pb n g { S with M := M } wr HC.out h3)
            have HIn := Lib.hid hin
            clear hin h3
            go_wp2_with fail
            refine HGet.out.mono ?_
            rintro e w3 ⟨rfl, hb3⟩
            have HC3 := Lib.hid (HC.out.below hb3)
            have HO3 := Lib.hid (HO.out.trans (Off.ofBelow hb3))
            have hbw3 : Below w.heap.size w w3 := hbq.trans (hb3.mono hsq)
            have HR3 := Lib.hid ((HR2.out.off HO3.out HL2.out).strs)
            have hcell3 := (HB.out.below hbw3).at HGJ.out
            clear hb3 HC HO HBq HRq HGet
            go_wp2_with fail
            refine (in_ok A2 c2 (keysOf S n) y _ HR3.out (by omega)).mono ?_
            rw [HIn.out]
            rintro e w4 ⟨rfl, rfl⟩
            go_wp2_with fail
            go_roundw
            case rel => exact ⟨j + 1, M, by omega, by go_num, HC3, HO3⟩
            case measure => simp [intOf]; omega
        · obtain rfl : j = ys.length := by omega
          go_wp2_with fail
          refine (keys_ok cb pb n g { S with M := M } _ HC.out).mono ?_
          rw [keysOf_congr { S with M := M } S n rfl rfl]
          rintro e w5 ⟨v5, rfl, hown5, hb5⟩
          have hbw5 : Below w.heap.size w w5 := hbq.trans (hb5.mono hsq)
          have HR5 := Lib.hid ((HR2.out.off (HO.out.trans (Off.ofBelow hb5)) HL2.out).strs)
          obtain ⟨A5, c5, rfl, _, hs5, _⟩ := hown5.form
          have HS5 := Lib.hid hs5
          clear hs5 hown5 hb5 HRq HR2 HBq HC HO
          go_wp2_with fail
          refine (texts_same A5 A2 c5 c2 (keysOf S n) _ HS5.out HR5.out (by omega)).mono ?_
          rintro e w6 ⟨rfl, m6, rfl⟩
          by_cases hx0 : xs.length = 0
          · have hz : ((xs.length : Int) == 0) = true := by simp [hx0]
            go_wp2_with fail
            go_ret
            exact ⟨rfl, bel_drewN _ hbw5⟩
          · obtain ⟨i, hi, hu⟩ := HS.out (by omega)
            have hpos := keysOf_pos S n i hi hu
            have hz : ((xs.length : Int) == 0) = false := by rw [beq_eq_false_iff_ne]; omega
            have hz2 : (0 : Int) < ((keysOf S n).length : Int) := by omega
            clear hu
            go_wp2_with fail
            go_ret
            exact ⟨rfl, bel_drewN _ hbw5⟩

end Go.Proofs.Ytbbafdhgoekdiaa
