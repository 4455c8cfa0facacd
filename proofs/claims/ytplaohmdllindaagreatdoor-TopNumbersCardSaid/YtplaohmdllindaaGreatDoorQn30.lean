/- TagCheck, TagCheck2, TagText, RIn, TagRow, Less: texts put together. -/
import Derived.Test.YtplaohmdllindaaGreatDoorQn2
import Derived.Test.YtplaohmdllindaaGreatDoorQn29
import Derived.Test.YtplaohmdllindaaGreatDoorQn1
import Derived.Test.YtplaohmdllindaaGreatDoorQn28
import Derived.Test.YtplaohmdllindaaGreatDoorQn3
import Derived.Maps.AppendAt
set_option linter.unusedVariables false
set_option linter.unusedSimpArgs false
/- tag.script, region, Check. -/
namespace Go.Proofs.YtplaohmdllindaaGreatDoor
open Go.RowKit

theorem tag_script (s : ByteArray) (w : World) (hs : s.size ≤ 9223372036854775807) :
    Calls Tryz.prog 211 #[.string s] w fun e w' => e = .returned (.bool (scriptB s.data.toList)) ∧ w = w' := by
  by_cases h4 : s.size = 4
  · have i4 : ((s.size : Int) = 4) := by omega
    have hl : s.data.toList.length = 4 := by simpa using h4
    have h0 : 0 < s.size := by omega
    have i0 : (0 : Int) < (s.size : Int) := by omega
    have i1 : (1 : Int) ≤ (s.size : Int) := by omega
    have e0 : s.data.toList.getD 0 0 = s[0] := by
      rw [List.getD_eq_getElem?_getD, List.getElem?_eq_getElem (by omega)]; rfl
    have e1 : (s.extract 1 s.size).data.toList = s.data.toList.drop 1 := by
      rw [Lib.extract_data, List.take_of_length_le (by rw [List.length_drop]; simp)]
    have E0 := Lib.hid e0
    have E1 := Lib.hid e1
    have HL := Lib.hid hl
    have KH := Lib.hid (fun W => tag_high s[0] W)
    have KM := Lib.hid (fun W => made_low (s.extract 1 s.size) 3 3 W (by simp; omega) (by omega) (by omega))
    have b4 : ((s.size : Int) == 4) = true := by simpa using i4
    clear e0 e1 hl h4 i4
    cases hh : highB s[0]
    · have K2 := Lib.hid (fun W => by have := KH.out W; rw [hh] at this; exact this)
      have HH := Lib.hid hh
      clear hh KH
      go_enter Tryz.func211, Tryz.ntmps211
      go_wp2_with fail
      refine (K2.out _).mono ?_
      rintro e w1 ⟨rfl, rfl⟩
      go_wp2_with fail
      go_ret
      exact ⟨ret_bool (by unfold scriptB; rw [HL.out, E0.out, HH.out]; rfl), rfl⟩
    · have K2 := Lib.hid (fun W => by have := KH.out W; rw [hh] at this; exact this)
      have HH := Lib.hid hh
      clear hh KH
      go_enter Tryz.func211, Tryz.ntmps211
      go_wp2_with fail
      refine (K2.out _).mono ?_
      rintro e w1 ⟨rfl, rfl⟩
      go_wp2_with fail
      refine (KM.out _).mono ?_
      rintro e w1 ⟨rfl, rfl⟩
      go_wp2_with fail
      go_ret
      refine ⟨ret_bool ?_, rfl⟩
      unfold scriptB
      rw [HL.out, E0.out, HH.out]
      first
        | rw [E1.out]
        | rw [List.take_of_length_le (by simp), ← List.drop_one]
      rfl
  · have hd : scriptB s.data.toList = false := by
      unfold scriptB
      have : s.data.toList.length ≠ 4 := by simpa using h4
      rw [decide_eq_false this]; rfl
    have HD := Lib.hid hd
    have b4 : ((s.size : Int) == 4) = false := by simp; omega
    clear hd h4
    go_enter Tryz.func211, Tryz.ntmps211
    go_wp2_with fail
    go_ret
    exact ⟨ret_bool HD.out.symm, rfl⟩
theorem tag_region (s : ByteArray) (w : World) (hs : s.size ≤ 9223372036854775807) :
    Calls Tryz.prog 167 #[.string s] w fun e w' => e = .returned (.bool (regionB s.data.toList)) ∧ w = w' := by
  have KH := Lib.hid (fun W => made_high s 2 2 W hs (by omega) (by omega))
  have KD := Lib.hid (fun W => made_digit s 3 3 W hs (by omega) (by omega))
  cases hh : madeB highB s.data.toList 2 2
  · have K2 := Lib.hid (fun W => by have := KH.out W; rw [hh] at this; exact this)
    have HH := Lib.hid hh
    clear hh KH
    go_enter Tryz.func167, Tryz.ntmps167
    go_wp2_with fail
    refine (K2.out _).mono ?_
    rintro e w1 ⟨rfl, rfl⟩
    go_wp2_with fail
    refine (KD.out _).mono ?_
    rintro e w1 ⟨rfl, rfl⟩
    go_wp2_with fail
    go_ret
    exact ⟨ret_bool (by unfold regionB; rw [HH.out]; rfl), rfl⟩
  · have K2 := Lib.hid (fun W => by have := KH.out W; rw [hh] at this; exact this)
    have HH := Lib.hid hh
    clear hh KH
    go_enter Tryz.func167, Tryz.ntmps167
    go_wp2_with fail
    refine (K2.out _).mono ?_
    rintro e w1 ⟨rfl, rfl⟩
    go_wp2_with fail
    go_ret
    exact ⟨ret_bool (by unfold regionB; rw [HH.out]; rfl), rfl⟩

/-- a tag as a value -/
abbrev tagV (l s r : ByteArray) (A : Option Addr) (n c : Nat) : Value := .agg #[.string l, .string s, .string r, .slice A n c]
theorem containsS_lists (zs : List ByteArray) (x : ByteArray) : Lib.containsS zs x = (listsOf zs).contains x.data.toList := by
  rw [Bool.eq_iff_iff, Lib.containsS_iff, List.contains_iff_mem, List.mem_map]
  constructor
  · intro h; exact ⟨x, h, rfl⟩
  · rintro ⟨y, hy, e⟩
    have : y = x := ByteArray.ext (Array.ext' e)
    exact this ▸ hy
/-- slices.Contains of a row of texts -/
theorem contains_strs (A : Option Addr) (c k : Nat) (vs : List ByteArray) (x : ByteArray) (w : World) (h : StrsIn w A vs) (hk : k ≤ vs.length) (hn : vs.length ≤ 9223372036854775807) :
    Calls Tryz.prog 188 #[.slice A k c, .string x] w fun e w' => e = .returned (.bool ((listsOf (vs.take k)).contains x.data.toList)) ∧ w = w' := by
  rcases h with rfl | ⟨bk, o, rfl, hc⟩
  · obtain rfl : k = 0 := by simpa using hk
    refine (Tryz.slices_Contains_string_empty A c x w).mono ?_
    rintro e w' ⟨rfl, rfl⟩
    exact ⟨rfl, rfl⟩
  · refine (Tryz.slices_Contains_string bk o k c vs x w hk (by omega) (fun j hj => ?_)).mono ?_
    · rw [hc j vs[j] (List.getElem?_eq_getElem hj), List.getD_eq_getElem?_getD, List.getElem?_eq_getElem hj]; rfl
    · rintro e w' ⟨rfl, rfl⟩
      exact ⟨by rw [containsS_lists], rfl⟩

theorem varErr_step (vs : List ByteArray) (k : Nat) (v : ByteArray) (h : vs[k]? = some v) : varErr (listsOf (vs.take k)) (listsOf (vs.drop k)) =
    if madeB bothB v.data.toList 5 8 = false then 3 else if (listsOf (vs.take k)).contains v.data.toList then 5 else varErr (listsOf (vs.take (k + 1))) (listsOf (vs.drop (k + 1))) := by
  have hk : k < vs.length := (List.getElem?_eq_some_iff.1 h).1
  have hv : vs[k] = v := (List.getElem?_eq_some_iff.1 h).2
  have e1 : vs.drop k = v :: vs.drop (k + 1) := by rw [List.drop_eq_getElem_cons hk, hv]
  have e2 : vs.take (k + 1) = vs.take k ++ [v] := by rw [List.take_add_one, h]; rfl
  unfold listsOf
  rw [e1, e2, List.map_cons, varErr, List.map_append]
  rfl
end Go.Proofs.YtplaohmdllindaaGreatDoor

/- tag.Check. -/
namespace Go.Proofs.YtplaohmdllindaaGreatDoor
open Go.RowKit

def tailErr (E : Int) (n : Nat) : Int := if E = 0 then (if 3 < n then 4 else 0) else E
theorem errTail_no (k : Int) (n : Nat) (h : k ≠ 0) : errOf (tailErr k n) = errT k := by unfold tailErr; rw [if_neg h]; unfold errOf; rw [if_neg h]
theorem errTail_full (n : Nat) (h : 3 < n) : errOf (tailErr 0 n) = errT 4 := by unfold tailErr; rw [if_pos rfl, if_pos h]; rfl
theorem errTail_ok (n : Nat) (h : ¬ 3 < n) : errOf (tailErr 0 n) = .nilIface := by unfold tailErr; rw [if_pos rfl, if_neg h]; rfl

theorem tag_check_l (l s r : ByteArray) (A : Option Addr) (c : Nat) (vs : List ByteArray) (w : World) (hl : l.size ≤ 9223372036854775807) (hs : s.size ≤ 9223372036854775807) (hr : r.size ≤ 9223372036854775807) (h1 : madeB lowB l.data.toList 2 3 = false) :
    Calls Tryz.prog 169 #[tagV l s r A vs.length c] w fun e w' => e = .returned (errT 3) ∧ Below w.heap.size w w' := by
  have KL := Lib.hid (fun W => made_low l 2 3 W hl (by omega) (by omega))
  have K1 := Lib.hid (fun W => by have := KL.out W; rw [h1] at this; exact this)
  clear h1 KL
  go_enter Tryz.func169, Tryz.ntmps169
  go_wp2_with fail
  refine (K1.out _).mono ?_
  rintro e w1 ⟨rfl, rfl⟩
  go_wp2_with fail
  go_ret
  exact ⟨rfl, (Below.refl _ _).alloc (Nat.le_refl _) _⟩

set_option maxHeartbeats 1000000 in
theorem tag_check_f (l s r : ByteArray) (A : Option Addr) (c : Nat) (vs : List ByteArray) (w : World) (hl : l.size ≤ 9223372036854775807) (hs : s.size ≤ 9223372036854775807) (hr : r.size ≤ 9223372036854775807) (h1 : madeB lowB l.data.toList 2 3 = true) (hS : s.data.toList.isEmpty = false) (hS2 : scriptB s.data.toList = false) :
    Calls Tryz.prog 169 #[tagV l s r A vs.length c] w fun e w' => e = .returned (errT 3) ∧ Below w.heap.size w w' := by
  have KL := Lib.hid (fun W => made_low l 2 3 W hl (by omega) (by omega))
  have KS := Lib.hid (fun W => tag_script s W hs)
  have KR := Lib.hid (fun W => tag_region r W hr)
  have K1 := Lib.hid (fun W => by have := KL.out W; rw [h1] at this; exact this)
  have K2 := Lib.hid (fun W => by have := KS.out W; rw [hS2] at this; exact this)
  have s1 : ¬ s.toList = [] := by rw [Lib.toList_data]; intro hq; rw [hq] at hS; cases hS
  have s2 : s.toList.isEmpty = false := by cases hq : s.toList with | nil => exact absurd hq s1 | cons x xl => rfl
  clear KL KS KR h1 hS hS2
  go_enter Tryz.func169, Tryz.ntmps169
  go_wp2_with fail
  refine (K1.out _).mono ?_
  rintro e w1 ⟨rfl, rfl⟩
  go_wp2_with fail
  refine (K2.out _).mono ?_
  rintro e w1 ⟨rfl, rfl⟩
  go_wp2_with fail
  go_ret
  exact ⟨rfl, (Below.refl _ _).alloc (Nat.le_refl _) _⟩

set_option maxHeartbeats 1000000 in
theorem tag_check_ef (l s r : ByteArray) (A : Option Addr) (c : Nat) (vs : List ByteArray) (w : World) (hl : l.size ≤ 9223372036854775807) (hs : s.size ≤ 9223372036854775807) (hr : r.size ≤ 9223372036854775807) (h1 : madeB lowB l.data.toList 2 3 = true) (hS : s.data.toList.isEmpty = true) (hR : r.data.toList.isEmpty = false) (hR2 : regionB r.data.toList = false) :
    Calls Tryz.prog 169 #[tagV l s r A vs.length c] w fun e w' => e = .returned (errT 3) ∧ Below w.heap.size w w' := by
  have KL := Lib.hid (fun W => made_low l 2 3 W hl (by omega) (by omega))
  have KS := Lib.hid (fun W => tag_script s W hs)
  have KR := Lib.hid (fun W => tag_region r W hr)
  have K1 := Lib.hid (fun W => by have := KL.out W; rw [h1] at this; exact this)
  have K3 := Lib.hid (fun W => by have := KR.out W; rw [hR2] at this; exact this)
  have s1 : s.toList = [] := by rw [Lib.toList_data]; exact List.isEmpty_iff.1 hS
  have r1 : ¬ r.toList = [] := by rw [Lib.toList_data]; intro hq; rw [hq] at hR; cases hR
  have r2 : r.toList.isEmpty = false := by cases hq : r.toList with | nil => exact absurd hq r1 | cons x xl => rfl
  clear KL KS KR h1 hS hR hR2
  go_enter Tryz.func169, Tryz.ntmps169
  go_wp2_with fail
  refine (K1.out _).mono ?_
  rintro e w1 ⟨rfl, rfl⟩
  go_wp2_with fail
  refine (K3.out _).mono ?_
  rintro e w1 ⟨rfl, rfl⟩
  go_wp2_with fail
  go_ret
  exact ⟨rfl, (Below.refl _ _).alloc (Nat.le_refl _) _⟩

set_option maxHeartbeats 1000000 in
theorem tag_check_tf (l s r : ByteArray) (A : Option Addr) (c : Nat) (vs : List ByteArray) (w : World) (hl : l.size ≤ 9223372036854775807) (hs : s.size ≤ 9223372036854775807) (hr : r.size ≤ 9223372036854775807) (h1 : madeB lowB l.data.toList 2 3 = true) (hS : s.data.toList.isEmpty = false) (hS2 : scriptB s.data.toList = true) (hR : r.data.toList.isEmpty = false) (hR2 : regionB r.data.toList = false) :
    Calls Tryz.prog 169 #[tagV l s r A vs.length c] w fun e w' => e = .returned (errT 3) ∧ Below w.heap.size w w' := by
  have KL := Lib.hid (fun W => made_low l 2 3 W hl (by omega) (by omega))
  have KS := Lib.hid (fun W => tag_script s W hs)
  have KR := Lib.hid (fun W => tag_region r W hr)
  have K1 := Lib.hid (fun W => by have := KL.out W; rw [h1] at this; exact this)
  have K2 := Lib.hid (fun W => by have := KS.out W; rw [hS2] at this; exact this)
  have K3 := Lib.hid (fun W => by have := KR.out W; rw [hR2] at this; exact this)
  have s1 : ¬ s.toList = [] := by rw [Lib.toList_data]; intro hq; rw [hq] at hS; cases hS
  have s2 : s.toList.isEmpty = false := by cases hq : s.toList with | nil => exact absurd hq s1 | cons x xl => rfl
  have r1 : ¬ r.toList = [] := by rw [Lib.toList_data]; intro hq; rw [hq] at hR; cases hR
  have r2 : r.toList.isEmpty = false := by cases hq : r.toList with | nil => exact absurd hq r1 | cons x xl => rfl
  clear KL KS KR h1 hS hS2 hR hR2
  go_enter Tryz.func169, Tryz.ntmps169
  go_wp2_with fail
  refine (K1.out _).mono ?_
  rintro e w1 ⟨rfl, rfl⟩
  go_wp2_with fail
  refine (K2.out _).mono ?_
  rintro e w1 ⟨rfl, rfl⟩
  go_wp2_with fail
  refine (K3.out _).mono ?_
  rintro e w1 ⟨rfl, rfl⟩
  go_wp2_with fail
  go_ret
  exact ⟨rfl, (Below.refl _ _).alloc (Nat.le_refl _) _⟩

theorem StrsIn.alloc {w : World} {A : Option Addr} {xs : List ByteArray} (h : StrsIn w A xs) (o : Obj) : StrsIn (w.alloc o) A xs := h.below ((Below.refl _ _).alloc (Nat.le_refl _) o)

set_option maxHeartbeats 2000000 in
theorem tag_check_ee (l s r : ByteArray) (A : Option Addr) (c : Nat) (vs : List ByteArray) (w : World) (hl : l.size ≤ 9223372036854775807) (hs : s.size ≤ 9223372036854775807) (hr : r.size ≤ 9223372036854775807) (hX : StrsIn w A vs) (hn : vs.length ≤ 9223372036854775807) (hcap : vs.length ≤ c) (hz : ∀ v ∈ vs, v.size ≤ 9223372036854775807) (E : Int) (hE : varErr [] (listsOf vs) = E) (h1 : madeB lowB l.data.toList 2 3 = true) (hS : s.data.toList.isEmpty = true) (hR : r.data.toList.isEmpty = true) :
    Calls Tryz.prog 169 #[tagV l s r A vs.length c] w fun e w' => e = .returned (errOf (tailErr E vs.length)) ∧ Below w.heap.size w w' := by
  have HX := Lib.hid hX
  have HZ := Lib.hid hz
  have HE : Hid (varErr (listsOf (vs.take 0)) (listsOf (vs.drop 0)) = E) := Lib.hid hE
  clear hX hz hE
  have KL := Lib.hid (fun W => made_low l 2 3 W hl (by omega) (by omega))
  have KS := Lib.hid (fun W => tag_script s W hs)
  have KR := Lib.hid (fun W => tag_region r W hr)
  have K1 := Lib.hid (fun W => by have := KL.out W; rw [h1] at this; exact this)
  have s1 : s.toList = [] := by rw [Lib.toList_data]; exact List.isEmpty_iff.1 hS
  have r1 : r.toList = [] := by rw [Lib.toList_data]; exact List.isEmpty_iff.1 hR
  clear KL KS KR h1 hS hR
  go_enter Tryz.func169, Tryz.ntmps169
  go_wp2_with fail
  refine (K1.out _).mono ?_
  rintro e w1 ⟨rfl, rfl⟩
  go_wp2_with fail
  go_loop [35] (fun i => ∃ k : Nat, k ≤ vs.length ∧ i = .int .i64 k ∧ Hid (varErr (listsOf (vs.take k)) (listsOf (vs.drop k)) = E)) (fun i => vs.length - (intOf i).toNat)
  case atStart => exact ⟨0, Nat.zero_le _, rfl, HE⟩
  case round =>
    obtain ⟨k, hk, rfl, HV⟩ := hrel
    by_cases hlt : k < vs.length
    · obtain ⟨bk, o, rfl, hc⟩ : ∃ bk o, A = some ⟨bk, o, none⟩ ∧ ∀ (j : Nat) x, vs[j]? = some x → w.cell? ⟨bk, o + j, none⟩ = some (.string x) := by
        rcases HX.out with h | h
        · rw [h] at hlt; simp at hlt
        · exact h
      obtain ⟨v, hv⟩ : ∃ v, vs[k]? = some v := ⟨vs[k], List.getElem?_eq_getElem hlt⟩
      have hcv := hc k v hv
      have hst := varErr_step vs k v hv
      rw [HV.out] at hst
      have hbl := lt_of_cell hcv
      have i0 : (0 : Int) ≤ (k : Int) := by omega
      have i1 : (k : Int) < (vs.length : Int) := by omega
      have i2 : (k : Int) ≤ (c : Int) := by omega
      have KM := Lib.hid (fun W => made_both v 5 8 W (HZ.out v (List.mem_of_getElem? hv)) (by omega) (by omega))
      have KC := Lib.hid (fun (W : World) (h : StrsIn W (some ⟨bk, o, none⟩) vs) => contains_strs (some ⟨bk, o, none⟩) c k vs v W h hk hn)
      cases hm : madeB bothB v.data.toList 5 8
      · have K4 := Lib.hid (fun W => by have := KM.out W; rw [hm] at this; exact this)
        rw [if_pos hm] at hst
        have HF := Lib.hid hst
        clear hst hm KM KC hc hv
        go_wp2_with fail
        refine (K4.out _).mono ?_
        rintro e w1 ⟨rfl, rfl⟩
        go_wp2_with fail
        go_ret
        exact ⟨by (rw [HF.out, errTail_no 3 _ (by decide)]; first | done | rfl), (Below.refl _ _).alloc (Nat.le_refl _) _⟩
      · have K4 := Lib.hid (fun W => by have := KM.out W; rw [hm] at this; exact this)
        rw [if_neg (by rw [hm]; decide)] at hst
        cases hcn : (listsOf (vs.take k)).contains v.data.toList
        · have K5 := Lib.hid (fun W h => by have := KC.out W h; rw [hcn] at this; exact this)
          rw [if_neg (by rw [hcn]; decide)] at hst
          have HF := Lib.hid hst
          clear hst hm hcn KM KC hc hv
          go_wp2_with fail
          refine (K4.out _).mono ?_
          rintro e w1 ⟨rfl, rfl⟩
          go_wp2_with fail
          refine (K5.out _ (HX.out.alloc _)).mono ?_
          rintro e w1 ⟨rfl, rfl⟩
          go_wp2_with fail
          go_round
          case rel => exact ⟨k + 1, by omega, by go_num, Lib.hid HF.out.symm⟩
          case measure => simp [intOf]; omega
        · have K5 := Lib.hid (fun W h => by have := KC.out W h; rw [hcn] at this; exact this)
          rw [if_pos hcn] at hst
          have HF := Lib.hid hst
          clear hst hm hcn KM KC hc hv
          go_wp2_with fail
          refine (K4.out _).mono ?_
          rintro e w1 ⟨rfl, rfl⟩
          go_wp2_with fail
          refine (K5.out _ (HX.out.alloc _)).mono ?_
          rintro e w1 ⟨rfl, rfl⟩
          go_wp2_with fail
          go_ret
          exact ⟨by (rw [HF.out, errTail_no 5 _ (by decide)]; first | done | rfl), (Below.refl _ _).alloc (Nat.le_refl _) _⟩
    · have h0 : E = 0 := by
        have := HV.out
        rw [List.drop_of_length_le (by omega)] at this
        exact this.symm
      have H0 := Lib.hid h0
      clear h0
      by_cases h3 : (3 : Int) < (vs.length : Int)
      · have H3 := Lib.hid h3
        go_wp2_with fail
        go_ret
        exact ⟨by (rw [H0.out, errTail_full _ (by have := H3.out; omega)]; first | done | rfl), (Below.refl _ _).alloc (Nat.le_refl _) _⟩
      · have H3 := Lib.hid h3
        go_wp2_with fail
        go_ret
        exact ⟨by (rw [H0.out, errTail_ok _ (by have := H3.out; omega)]; first | done | rfl), (Below.refl _ _).alloc (Nat.le_refl _) _⟩

set_option maxHeartbeats 2000000 in
theorem tag_check_et (l s r : ByteArray) (A : Option Addr) (c : Nat) (vs : List ByteArray) (w : World) (hl : l.size ≤ 9223372036854775807) (hs : s.size ≤ 9223372036854775807) (hr : r.size ≤ 9223372036854775807) (hX : StrsIn w A vs) (hn : vs.length ≤ 9223372036854775807) (hcap : vs.length ≤ c) (hz : ∀ v ∈ vs, v.size ≤ 9223372036854775807) (E : Int) (hE : varErr [] (listsOf vs) = E) (h1 : madeB lowB l.data.toList 2 3 = true) (hS : s.data.toList.isEmpty = true) (hR : r.data.toList.isEmpty = false) (hR2 : regionB r.data.toList = true) :
    Calls Tryz.prog 169 #[tagV l s r A vs.length c] w fun e w' => e = .returned (errOf (tailErr E vs.length)) ∧ Below w.heap.size w w' := by
  have HX := Lib.hid hX
  have HZ := Lib.hid hz
  have HE : Hid (varErr (listsOf (vs.take 0)) (listsOf (vs.drop 0)) = E) := Lib.hid hE
  clear hX hz hE
  have KL := Lib.hid (fun W => made_low l 2 3 W hl (by omega) (by omega))
  have KS := Lib.hid (fun W => tag_script s W hs)
  have KR := Lib.hid (fun W => tag_region r W hr)
  have K1 := Lib.hid (fun W => by have := KL.out W; rw [h1] at this; exact this)
  have K3 := Lib.hid (fun W => by have := KR.out W; rw [hR2] at this; exact this)
  have s1 : s.toList = [] := by rw [Lib.toList_data]; exact List.isEmpty_iff.1 hS
  have r1 : ¬ r.toList = [] := by rw [Lib.toList_data]; intro hq; rw [hq] at hR; cases hR
  have r2 : r.toList.isEmpty = false := by cases hq : r.toList with | nil => exact absurd hq r1 | cons x xl => rfl
  clear KL KS KR h1 hS hR hR2
  go_enter Tryz.func169, Tryz.ntmps169
  go_wp2_with fail
  refine (K1.out _).mono ?_
  rintro e w1 ⟨rfl, rfl⟩
  go_wp2_with fail
  refine (K3.out _).mono ?_
  rintro e w1 ⟨rfl, rfl⟩
  go_wp2_with fail
  go_loop [35] (fun i => ∃ k : Nat, k ≤ vs.length ∧ i = .int .i64 k ∧ Hid (varErr (listsOf (vs.take k)) (listsOf (vs.drop k)) = E)) (fun i => vs.length - (intOf i).toNat)
  case atStart => exact ⟨0, Nat.zero_le _, rfl, HE⟩
  case round =>
    obtain ⟨k, hk, rfl, HV⟩ := hrel
    by_cases hlt : k < vs.length
    · obtain ⟨bk, o, rfl, hc⟩ : ∃ bk o, A = some ⟨bk, o, none⟩ ∧ ∀ (j : Nat) x, vs[j]? = some x → w.cell? ⟨bk, o + j, none⟩ = some (.string x) := by
        rcases HX.out with h | h
        · rw [h] at hlt; simp at hlt
        · exact h
      obtain ⟨v, hv⟩ : ∃ v, vs[k]? = some v := ⟨vs[k], List.getElem?_eq_getElem hlt⟩
      have hcv := hc k v hv
      have hst := varErr_step vs k v hv
      rw [HV.out] at hst
      have hbl := lt_of_cell hcv
      have i0 : (0 : Int) ≤ (k : Int) := by omega
      have i1 : (k : Int) < (vs.length : Int) := by omega
      have i2 : (k : Int) ≤ (c : Int) := by omega
      have KM := Lib.hid (fun W => made_both v 5 8 W (HZ.out v (List.mem_of_getElem? hv)) (by omega) (by omega))
      have KC := Lib.hid (fun (W : World) (h : StrsIn W (some ⟨bk, o, none⟩) vs) => contains_strs (some ⟨bk, o, none⟩) c k vs v W h hk hn)
      cases hm : madeB bothB v.data.toList 5 8
      · have K4 := Lib.hid (fun W => by have := KM.out W; rw [hm] at this; exact this)
        rw [if_pos hm] at hst
        have HF := Lib.hid hst
        clear hst hm KM KC hc hv
        go_wp2_with fail
        refine (K4.out _).mono ?_
        rintro e w1 ⟨rfl, rfl⟩
        go_wp2_with fail
        go_ret
        exact ⟨by (rw [HF.out, errTail_no 3 _ (by decide)]; first | done | rfl), (Below.refl _ _).alloc (Nat.le_refl _) _⟩
      · have K4 := Lib.hid (fun W => by have := KM.out W; rw [hm] at this; exact this)
        rw [if_neg (by rw [hm]; decide)] at hst
        cases hcn : (listsOf (vs.take k)).contains v.data.toList
        · have K5 := Lib.hid (fun W h => by have := KC.out W h; rw [hcn] at this; exact this)
          rw [if_neg (by rw [hcn]; decide)] at hst
          have HF := Lib.hid hst
          clear hst hm hcn KM KC hc hv
          go_wp2_with fail
          refine (K4.out _).mono ?_
          rintro e w1 ⟨rfl, rfl⟩
          go_wp2_with fail
          refine (K5.out _ (HX.out.alloc _)).mono ?_
          rintro e w1 ⟨rfl, rfl⟩
          go_wp2_with fail
          go_round
          case rel => exact ⟨k + 1, by omega, by go_num, Lib.hid HF.out.symm⟩
          case measure => simp [intOf]; omega
        · have K5 := Lib.hid (fun W h => by have := KC.out W h; rw [hcn] at this; exact this)
          rw [if_pos hcn] at hst
          have HF := Lib.hid hst
          clear hst hm hcn KM KC hc hv
          go_wp2_with fail
          refine (K4.out _).mono ?_
          rintro e w1 ⟨rfl, rfl⟩
          go_wp2_with fail
          refine (K5.out _ (HX.out.alloc _)).mono ?_
          rintro e w1 ⟨rfl, rfl⟩
          go_wp2_with fail
          go_ret
          exact ⟨by (rw [HF.out, errTail_no 5 _ (by decide)]; first | done | rfl), (Below.refl _ _).alloc (Nat.le_refl _) _⟩
    · have h0 : E = 0 := by
        have := HV.out
        rw [List.drop_of_length_le (by omega)] at this
        exact this.symm
      have H0 := Lib.hid h0
      clear h0
      by_cases h3 : (3 : Int) < (vs.length : Int)
      · have H3 := Lib.hid h3
        go_wp2_with fail
        go_ret
        exact ⟨by (rw [H0.out, errTail_full _ (by have := H3.out; omega)]; first | done | rfl), (Below.refl _ _).alloc (Nat.le_refl _) _⟩
      · have H3 := Lib.hid h3
        go_wp2_with fail
        go_ret
        exact ⟨by (rw [H0.out, errTail_ok _ (by have := H3.out; omega)]; first | done | rfl), (Below.refl _ _).alloc (Nat.le_refl _) _⟩

set_option maxHeartbeats 2000000 in
theorem tag_check_te (l s r : ByteArray) (A : Option Addr) (c : Nat) (vs : List ByteArray) (w : World) (hl : l.size ≤ 9223372036854775807) (hs : s.size ≤ 9223372036854775807) (hr : r.size ≤ 9223372036854775807) (hX : StrsIn w A vs) (hn : vs.length ≤ 9223372036854775807) (hcap : vs.length ≤ c) (hz : ∀ v ∈ vs, v.size ≤ 9223372036854775807) (E : Int) (hE : varErr [] (listsOf vs) = E) (h1 : madeB lowB l.data.toList 2 3 = true) (hS : s.data.toList.isEmpty = false) (hS2 : scriptB s.data.toList = true) (hR : r.data.toList.isEmpty = true) :
    Calls Tryz.prog 169 #[tagV l s r A vs.length c] w fun e w' => e = .returned (errOf (tailErr E vs.length)) ∧ Below w.heap.size w w' := by
  have HX := Lib.hid hX
  have HZ := Lib.hid hz
  have HE : Hid (varErr (listsOf (vs.take 0)) (listsOf (vs.drop 0)) = E) := Lib.hid hE
  clear hX hz hE
  have KL := Lib.hid (fun W => made_low l 2 3 W hl (by omega) (by omega))
  have KS := Lib.hid (fun W => tag_script s W hs)
  have KR := Lib.hid (fun W => tag_region r W hr)
  have K1 := Lib.hid (fun W => by have := KL.out W; rw [h1] at this; exact this)
  have K2 := Lib.hid (fun W => by have := KS.out W; rw [hS2] at this; exact this)
  have s1 : ¬ s.toList = [] := by rw [Lib.toList_data]; intro hq; rw [hq] at hS; cases hS
  have s2 : s.toList.isEmpty = false := by cases hq : s.toList with | nil => exact absurd hq s1 | cons x xl => rfl
  have r1 : r.toList = [] := by rw [Lib.toList_data]; exact List.isEmpty_iff.1 hR
  clear KL KS KR h1 hS hS2 hR
  go_enter Tryz.func169, Tryz.ntmps169
  go_wp2_with fail
  refine (K1.out _).mono ?_
  rintro e w1 ⟨rfl, rfl⟩
  go_wp2_with fail
  refine (K2.out _).mono ?_
  rintro e w1 ⟨rfl, rfl⟩
  go_wp2_with fail
  go_loop [35] (fun i => ∃ k : Nat, k ≤ vs.length ∧ i = .int .i64 k ∧ Hid (varErr (listsOf (vs.take k)) (listsOf (vs.drop k)) = E)) (fun i => vs.length - (intOf i).toNat)
  case atStart => exact ⟨0, Nat.zero_le _, rfl, HE⟩
  case round =>
    obtain ⟨k, hk, rfl, HV⟩ := hrel
    by_cases hlt : k < vs.length
    · obtain ⟨bk, o, rfl, hc⟩ : ∃ bk o, A = some ⟨bk, o, none⟩ ∧ ∀ (j : Nat) x, vs[j]? = some x → w.cell? ⟨bk, o + j, none⟩ = some (.string x) := by
        rcases HX.out with h | h
        · rw [h] at hlt; simp at hlt
        · exact h
      obtain ⟨v, hv⟩ : ∃ v, vs[k]? = some v := ⟨vs[k], List.getElem?_eq_getElem hlt⟩
      have hcv := hc k v hv
      have hst := varErr_step vs k v hv
      rw [HV.out] at hst
      have hbl := lt_of_cell hcv
      have i0 : (0 : Int) ≤ (k : Int) := by omega
      have i1 : (k : Int) < (vs.length : Int) := by omega
      have i2 : (k : Int) ≤ (c : Int) := by omega
      have KM := Lib.hid (fun W => made_both v 5 8 W (HZ.out v (List.mem_of_getElem? hv)) (by omega) (by omega))
      have KC := Lib.hid (fun (W : World) (h : StrsIn W (some ⟨bk, o, none⟩) vs) => contains_strs (some ⟨bk, o, none⟩) c k vs v W h hk hn)
      cases hm : madeB bothB v.data.toList 5 8
      · have K4 := Lib.hid (fun W => by have := KM.out W; rw [hm] at this; exact this)
        rw [if_pos hm] at hst
        have HF := Lib.hid hst
        clear hst hm KM KC hc hv
        go_wp2_with fail
        refine (K4.out _).mono ?_
        rintro e w1 ⟨rfl, rfl⟩
        go_wp2_with fail
        go_ret
        exact ⟨by (rw [HF.out, errTail_no 3 _ (by decide)]; first | done | rfl), (Below.refl _ _).alloc (Nat.le_refl _) _⟩
      · have K4 := Lib.hid (fun W => by have := KM.out W; rw [hm] at this; exact this)
        rw [if_neg (by rw [hm]; decide)] at hst
        cases hcn : (listsOf (vs.take k)).contains v.data.toList
        · have K5 := Lib.hid (fun W h => by have := KC.out W h; rw [hcn] at this; exact this)
          rw [if_neg (by rw [hcn]; decide)] at hst
          have HF := Lib.hid hst
          clear hst hm hcn KM KC hc hv
          go_wp2_with fail
          refine (K4.out _).mono ?_
          rintro e w1 ⟨rfl, rfl⟩
          go_wp2_with fail
          refine (K5.out _ (HX.out.alloc _)).mono ?_
          rintro e w1 ⟨rfl, rfl⟩
          go_wp2_with fail
          go_round
          case rel => exact ⟨k + 1, by omega, by go_num, Lib.hid HF.out.symm⟩
          case measure => simp [intOf]; omega
        · have K5 := Lib.hid (fun W h => by have := KC.out W h; rw [hcn] at this; exact this)
          rw [if_pos hcn] at hst
          have HF := Lib.hid hst
          clear hst hm hcn KM KC hc hv
          go_wp2_with fail
          refine (K4.out _).mono ?_
          rintro e w1 ⟨rfl, rfl⟩
          go_wp2_with fail
          refine (K5.out _ (HX.out.alloc _)).mono ?_
          rintro e w1 ⟨rfl, rfl⟩
          go_wp2_with fail
          go_ret
          exact ⟨by (rw [HF.out, errTail_no 5 _ (by decide)]; first | done | rfl), (Below.refl _ _).alloc (Nat.le_refl _) _⟩
    · have h0 : E = 0 := by
        have := HV.out
        rw [List.drop_of_length_le (by omega)] at this
        exact this.symm
      have H0 := Lib.hid h0
      clear h0
      by_cases h3 : (3 : Int) < (vs.length : Int)
      · have H3 := Lib.hid h3
        go_wp2_with fail
        go_ret
        exact ⟨by (rw [H0.out, errTail_full _ (by have := H3.out; omega)]; first | done | rfl), (Below.refl _ _).alloc (Nat.le_refl _) _⟩
      · have H3 := Lib.hid h3
        go_wp2_with fail
        go_ret
        exact ⟨by (rw [H0.out, errTail_ok _ (by have := H3.out; omega)]; first | done | rfl), (Below.refl _ _).alloc (Nat.le_refl _) _⟩

set_option maxHeartbeats 2000000 in
theorem tag_check_tt (l s r : ByteArray) (A : Option Addr) (c : Nat) (vs : List ByteArray) (w : World) (hl : l.size ≤ 9223372036854775807) (hs : s.size ≤ 9223372036854775807) (hr : r.size ≤ 9223372036854775807) (hX : StrsIn w A vs) (hn : vs.length ≤ 9223372036854775807) (hcap : vs.length ≤ c) (hz : ∀ v ∈ vs, v.size ≤ 9223372036854775807) (E : Int) (hE : varErr [] (listsOf vs) = E) (h1 : madeB lowB l.data.toList 2 3 = true) (hS : s.data.toList.isEmpty = false) (hS2 : scriptB s.data.toList = true) (hR : r.data.toList.isEmpty = false) (hR2 : regionB r.data.toList = true) :
    Calls Tryz.prog 169 #[tagV l s r A vs.length c] w fun e w' => e = .returned (errOf (tailErr E vs.length)) ∧ Below w.heap.size w w' := by
  have HX := Lib.hid hX
  have HZ := Lib.hid hz
  have HE : Hid (varErr (listsOf (vs.take 0)) (listsOf (vs.drop 0)) = E) := Lib.hid hE
  clear hX hz hE
  have KL := Lib.hid (fun W => made_low l 2 3 W hl (by omega) (by omega))
  have KS := Lib.hid (fun W => tag_script s W hs)
  have KR := Lib.hid (fun W => tag_region r W hr)
  have K1 := Lib.hid (fun W => by have := KL.out W; rw [h1] at this; exact this)
  have K2 := Lib.hid (fun W => by have := KS.out W; rw [hS2] at this; exact this)
  have K3 := Lib.hid (fun W => by have := KR.out W; rw [hR2] at this; exact this)
  have s1 : ¬ s.toList = [] := by rw [Lib.toList_data]; intro hq; rw [hq] at hS; cases hS
  have s2 : s.toList.isEmpty = false := by cases hq : s.toList with | nil => exact absurd hq s1 | cons x xl => rfl
  have r1 : ¬ r.toList = [] := by rw [Lib.toList_data]; intro hq; rw [hq] at hR; cases hR
  have r2 : r.toList.isEmpty = false := by cases hq : r.toList with | nil => exact absurd hq r1 | cons x xl => rfl
  clear KL KS KR h1 hS hS2 hR hR2
  go_enter Tryz.func169, Tryz.ntmps169
  go_wp2_with fail
  refine (K1.out _).mono ?_
  rintro e w1 ⟨rfl, rfl⟩
  go_wp2_with fail
  refine (K2.out _).mono ?_
  rintro e w1 ⟨rfl, rfl⟩
  go_wp2_with fail
  refine (K3.out _).mono ?_
  rintro e w1 ⟨rfl, rfl⟩
  go_wp2_with fail
  go_loop [35] (fun i => ∃ k : Nat, k ≤ vs.length ∧ i = .int .i64 k ∧ Hid (varErr (listsOf (vs.take k)) (listsOf (vs.drop k)) = E)) (fun i => vs.length - (intOf i).toNat)
  case atStart => exact ⟨0, Nat.zero_le _, rfl, HE⟩
  case round =>
    obtain ⟨k, hk, rfl, HV⟩ := hrel
    by_cases hlt : k < vs.length
    · obtain ⟨bk, o, rfl, hc⟩ : ∃ bk o, A = some ⟨bk, o, none⟩ ∧ ∀ (j : Nat) x, vs[j]? = some x → w.cell? ⟨bk, o + j, none⟩ = some (.string x) := by
        rcases HX.out with h | h
        · rw [h] at hlt; simp at hlt
        · exact h
      obtain ⟨v, hv⟩ : ∃ v, vs[k]? = some v := ⟨vs[k], List.getElem?_eq_getElem hlt⟩
      have hcv := hc k v hv
      have hst := varErr_step vs k v hv
      rw [HV.out] at hst
      have hbl := lt_of_cell hcv
      have i0 : (0 : Int) ≤ (k : Int) := by omega
      have i1 : (k : Int) < (vs.length : Int) := by omega
      have i2 : (k : Int) ≤ (c : Int) := by omega
      have KM := Lib.hid (fun W => made_both v 5 8 W (HZ.out v (List.mem_of_getElem? hv)) (by omega) (by omega))
      have KC := Lib.hid (fun (W : World) (h : StrsIn W (some ⟨bk, o, none⟩) vs) => contains_strs (some ⟨bk, o, none⟩) c k vs v W h hk hn)
      cases hm : madeB bothB v.data.toList 5 8
      · have K4 := Lib.hid (fun W => by have := KM.out W; rw [hm] at this; exact this)
        rw [if_pos hm] at hst
        have HF := Lib.hid hst
        clear hst hm KM KC hc hv
        go_wp2_with fail
        refine (K4.out _).mono ?_
        rintro e w1 ⟨rfl, rfl⟩
        go_wp2_with fail
        go_ret
        exact ⟨by (rw [HF.out, errTail_no 3 _ (by decide)]; first | done | rfl), (Below.refl _ _).alloc (Nat.le_refl _) _⟩
      · have K4 := Lib.hid (fun W => by have := KM.out W; rw [hm] at this; exact this)
        rw [if_neg (by rw [hm]; decide)] at hst
        cases hcn : (listsOf (vs.take k)).contains v.data.toList
        · have K5 := Lib.hid (fun W h => by have := KC.out W h; rw [hcn] at this; exact this)
          rw [if_neg (by rw [hcn]; decide)] at hst
          have HF := Lib.hid hst
          clear hst hm hcn KM KC hc hv
          go_wp2_with fail
          refine (K4.out _).mono ?_
          rintro e w1 ⟨rfl, rfl⟩
          go_wp2_with fail
          refine (K5.out _ (HX.out.alloc _)).mono ?_
          rintro e w1 ⟨rfl, rfl⟩
          go_wp2_with fail
          go_round
          case rel => exact ⟨k + 1, by omega, by go_num, Lib.hid HF.out.symm⟩
          case measure => simp [intOf]; omega
        · have K5 := Lib.hid (fun W h => by have := KC.out W h; rw [hcn] at this; exact this)
          rw [if_pos hcn] at hst
          have HF := Lib.hid hst
          clear hst hm hcn KM KC hc hv
          go_wp2_with fail
          refine (K4.out _).mono ?_
          rintro e w1 ⟨rfl, rfl⟩
          go_wp2_with fail
          refine (K5.out _ (HX.out.alloc _)).mono ?_
          rintro e w1 ⟨rfl, rfl⟩
          go_wp2_with fail
          go_ret
          exact ⟨by (rw [HF.out, errTail_no 5 _ (by decide)]; first | done | rfl), (Below.refl _ _).alloc (Nat.le_refl _) _⟩
    · have h0 : E = 0 := by
        have := HV.out
        rw [List.drop_of_length_le (by omega)] at this
        exact this.symm
      have H0 := Lib.hid h0
      clear h0
      by_cases h3 : (3 : Int) < (vs.length : Int)
      · have H3 := Lib.hid h3
        go_wp2_with fail
        go_ret
        exact ⟨by (rw [H0.out, errTail_full _ (by have := H3.out; omega)]; first | done | rfl), (Below.refl _ _).alloc (Nat.le_refl _) _⟩
      · have H3 := Lib.hid h3
        go_wp2_with fail
        go_ret
        exact ⟨by (rw [H0.out, errTail_ok _ (by have := H3.out; omega)]; first | done | rfl), (Below.refl _ _).alloc (Nat.le_refl _) _⟩

theorem tag_check (l s r : ByteArray) (A : Option Addr) (c : Nat) (vs : List ByteArray) (w : World) (hl : l.size ≤ 9223372036854775807) (hs : s.size ≤ 9223372036854775807) (hr : r.size ≤ 9223372036854775807) (hX : StrsIn w A vs) (hn : vs.length ≤ 9223372036854775807) (hcap : vs.length ≤ c) (hz : ∀ v ∈ vs, v.size ≤ 9223372036854775807) :
    Calls Tryz.prog 169 #[tagV l s r A vs.length c] w fun e w' => e = .returned (errOf (tagErr l.data.toList s.data.toList r.data.toList (listsOf vs))) ∧ Below w.heap.size w w' := by
  have hlen : (listsOf vs).length = vs.length := List.length_map ..
  have e3 : errT 3 = errOf 3 := rfl
  unfold tagErr headB
  rw [hlen]
  cases h1 : madeB lowB l.data.toList 2 3
  · exact tag_check_l l s r A c vs w hl hs hr h1
  · have bad : ∀ b : Bool, b = false → Calls Tryz.prog 169 #[tagV l s r A vs.length c] w (fun e w' => e = .returned (errT 3) ∧ Below w.heap.size w w') → Calls Tryz.prog 169 #[tagV l s r A vs.length c] w (fun e w' => e = .returned (errOf (if (true && b) = false then 3 else if varErr [] (listsOf vs) = 0 then if 3 < vs.length then 4 else 0 else varErr [] (listsOf vs))) ∧ Below w.heap.size w w') := by
      intro b hb h
      subst hb
      exact h
    have ok : ∀ b : Bool, b = true → Calls Tryz.prog 169 #[tagV l s r A vs.length c] w (fun e w' => e = .returned (errOf (tailErr (varErr [] (listsOf vs)) vs.length)) ∧ Below w.heap.size w w') → Calls Tryz.prog 169 #[tagV l s r A vs.length c] w (fun e w' => e = .returned (errOf (if (true && b) = false then 3 else if varErr [] (listsOf vs) = 0 then if 3 < vs.length then 4 else 0 else varErr [] (listsOf vs))) ∧ Below w.heap.size w w') := by
      intro b hb h
      subst hb
      exact h
    cases hS : s.data.toList.isEmpty
    · cases hS2 : scriptB s.data.toList
      · exact bad _ rfl (tag_check_f l s r A c vs w hl hs hr h1 hS hS2)
      · cases hR : r.data.toList.isEmpty
        · cases hR2 : regionB r.data.toList
          · exact bad _ rfl (tag_check_tf l s r A c vs w hl hs hr h1 hS hS2 hR hR2)
          · exact ok _ rfl (tag_check_tt l s r A c vs w hl hs hr hX hn hcap hz _ rfl h1 hS hS2 hR hR2)
        · exact ok _ rfl (tag_check_te l s r A c vs w hl hs hr hX hn hcap hz _ rfl h1 hS hS2 hR)
    · cases hR : r.data.toList.isEmpty
      · cases hR2 : regionB r.data.toList
        · exact bad _ rfl (tag_check_ef l s r A c vs w hl hs hr h1 hS hR hR2)
        · exact ok _ rfl (tag_check_et l s r A c vs w hl hs hr hX hn hcap hz _ rfl h1 hS hR hR2)
      · exact ok _ rfl (tag_check_ee l s r A c vs w hl hs hr hX hn hcap hz _ rfl h1 hS hR)
end Go.Proofs.YtplaohmdllindaaGreatDoor

/- tag.Text of a right tag. -/
namespace Go.Proofs.YtplaohmdllindaaGreatDoor
open Go.RowKit

theorem StrsIn.lit3 (w : World) (a b c : ByteArray) (k : Nat) (hk : k = w.heap.size) : StrsIn (w.alloc (.cells #[.string a, .string b, .string c] 9)) (some ⟨k, 0, none⟩) [a, b, c] := by
  subst hk
  refine .inr ⟨_, 0, rfl, fun j x hx => ?_⟩
  rw [World.cell?_alloc_at _ _ _ _ rfl]
  have hj : j < 3 := (List.getElem?_eq_some_iff.1 hx).1
  match j, hj with
  | 0, _ => cases hx; rfl
  | 1, _ => cases hx; rfl
  | 2, _ => cases hx; rfl
theorem parts_map (l s r : ByteArray) (vs : List ByteArray) : (([l, s, r] ++ vs).filter (fun x => !x.data.toList.isEmpty)).map (·.data.toList) = partsL l.data.toList s.data.toList r.data.toList (listsOf vs) := by
  unfold partsL listsOf
  rw [show [l.data.toList, s.data.toList, r.data.toList] ++ vs.map (·.data.toList) = ([l, s, r] ++ vs).map (·.data.toList) by simp, List.filter_map]
  rfl
theorem text_len {l s r : Bs} {vs : List Bs} (h : tagErr l s r vs = 0) : (tagText l s r vs).length ≤ 100 := by
  obtain ⟨h1, h2, h3, h4, h5⟩ := tagErr_ok h
  have hl := madeB_len h1
  have hs : s.length ≤ 4 := by
    rcases h2 with h2 | h2
    · rw [h2]; simp
    · exact Nat.le_of_eq (scriptB_len h2)
  have hr : r.length ≤ 3 := by
    rcases h3 with h3 | h3
    · rw [h3]; simp
    · exact (regionB_len h3).2
  have hv : ∀ vs : List Bs, (∀ v ∈ vs, v.length ≤ 8) → Lib.lens vs ≤ 8 * vs.length := by
    intro vs
    induction vs with
    | nil => intro _; simp [Lib.lens]
    | cons x t ih =>
      intro h
      have e1 := ih (fun v hv => h v (List.mem_cons_of_mem _ hv))
      have e2 := h x List.mem_cons_self
      simp only [Lib.lens, List.map_cons, List.sum_cons, List.length_cons] at *
      omega
  have h8 := hv vs (fun v h => (madeB_len (varErr_len vs [] h4 v h)).2.1)
  have e := parts_ok h
  unfold tagText
  rw [join_len, e]
  have f1 : Lib.lens ([s].filter (fun x => !x.isEmpty)) ≤ 4 ∧ ([s].filter (fun x => !x.isEmpty)).length ≤ 1 := by
    by_cases hh : s.isEmpty <;> simp [List.filter_cons, hh, Lib.lens] <;> omega
  have f2 : Lib.lens ([r].filter (fun x => !x.isEmpty)) ≤ 3 ∧ ([r].filter (fun x => !x.isEmpty)).length ≤ 1 := by
    by_cases hh : r.isEmpty <;> simp [List.filter_cons, hh, Lib.lens] <;> omega
  have la : ∀ a b : List Bs, Lib.lens (a ++ b) = Lib.lens a + Lib.lens b := by
    intro a b; simp [Lib.lens]
  have lc : ∀ (a : Bs) (b : List Bs), Lib.lens (a :: b) = a.length + Lib.lens b := by
    intro a b; simp [Lib.lens]
  rw [lc, la, la]
  generalize [s].filter (fun x => !x.isEmpty) = S at *
  generalize [r].filter (fun x => !x.isEmpty) = R at *
  simp only [List.length_cons, List.length_nil, List.length_append, Nat.zero_add, Nat.one_mul]
  omega

set_option maxHeartbeats 2000000 in
theorem tag_text (l s r : ByteArray) (A : Option Addr) (c : Nat) (vs : List ByteArray) (w : World) (hX : StrsIn w A vs) (hA : A = none → c = 0) (hok : tagErr l.data.toList s.data.toList r.data.toList (listsOf vs) = 0) :
    Calls Tryz.prog 108 #[tagV l s r A vs.length c] w fun e w' => e = .returned (.string ⟨(tagText l.data.toList s.data.toList r.data.toList (listsOf vs)).toArray⟩) ∧ Below w.heap.size w w' := by
  have hn : vs.length ≤ 3 := by
    have := (tagErr_ok hok).2.2.2.2
    simpa using this
  have hlen := text_len hok
  have hpm := parts_map l s r vs
  have hne := parts_ne hok
  unfold tagText at hlen ⊢
  rw [← hpm] at hlen hne ⊢
  generalize hJ : Lib.join ((([l, s, r] ++ vs).filter (fun x => !x.data.toList.isEmpty)).map (·.data.toList)) [45] = J at hlen ⊢
  have HL := Lib.hid hlen
  have HJ := Lib.hid hJ
  have HX := Lib.hid hX
  have HA := Lib.hid hA
  clear hlen hne hX hA hok hpm hJ
  go_enter Tryz.func108, Tryz.ntmps108
  go_wp2_with fail
  have hcc := fun W (e : W = ((w.alloc (.cells #[.string l, .string s, .string r, .slice A vs.length c] 204)).alloc (.cells #[.string l, .string s, .string r] 9)).alloc (.cells #[.slice (some ⟨w.heap.size + 1, 0, none⟩) 3 3, .slice A vs.length c] 177)) =>
    concat2 (w.heap.size + 1 + 1) (some ⟨w.heap.size + 1, 0, none⟩) A 3 c [l, s, r] vs W (by subst e; go_simp) (by subst e; go_simp)
      (by subst e; exact ((StrsIn.lit3 (w.alloc _) l s r _ (by simp)).alloc _)) (by subst e; exact ((HX.out.alloc _).alloc _).alloc _) (fun h => by cases h) HA.out (by simp) (by simp; omega) 2
  refine (hcc _ rfl).mono ?_
  clear hcc
  rintro e w1 ⟨v, rfl, ho, hb1⟩
  have s1 := hb1.size
  obtain ⟨A3, c3, rfl, _, _, _⟩ := ho.form
  have hcap := ho.cap.2
  have hpos : 0 < ([l, s, r] ++ vs).length := by simp
  have hle : ([l, s, r] ++ vs).length ≤ 6 := by simp; omega
  generalize [l, s, r] ++ vs = ps at *
  have hds : w.heap.size < w1.heap.size := by simp at s1; omega
  have KD := Lib.hid (del_empty (A := A3) (c := c3) ps.length w1 rfl ho hpos s1)
  have hfl : (ps.filter (fun x => !x.data.toList.isEmpty)).length ≤ ps.length := List.length_filter_le _ _
  clear ho
  generalize ps.filter (fun x => !x.data.toList.isEmpty) = ys at *
  go_wp2_with fail
  refine KD.out.mono ?_
  rintro e w2 ⟨rfl, hs2, hb2⟩
  have KJ := Lib.hid (strings_joinW (A := A3) (c := c3) _ ⟨#[45]⟩ w2 rfl hs2 (by omega) (by omega) (by rw [show (ByteArray.mk #[45]).data.toList = [45] from rfl, HJ.out]; exact Nat.le_trans HL.out (by decide)))
  clear hs2 KD
  go_wp2_with fail
  refine KJ.out.mono ?_
  rintro e w3 ⟨rfl, hb3⟩
  have s2 := hb2.size
  go_wp2_with fail
  go_ret
  exact ⟨by rw [← HJ.out]; rfl, belx⟩
end Go.Proofs.YtplaohmdllindaaGreatDoor

/- linguisterref1.In; the letters that linguisterref1.Only asks for. -/
namespace Go.Proofs.YtplaohmdllindaaGreatDoor
open Go.RowKit

end Go.Proofs.YtplaohmdllindaaGreatDoor

/- Rows of tags that are the call's own. -/
namespace Go.Proofs.YtplaohmdllindaaGreatDoor
open Go.RowKit

structure TagD where
  c : TagC
  A : Option Addr
  n : Nat
def TagD.val (t : TagD) : Value := tagV t.c.l t.c.s t.c.r t.A t.c.vs.length t.n
def TagD.cells (t : TagD) : List Value := [.string t.c.l, .string t.c.s, .string t.c.r, .slice t.A t.c.vs.length t.n]

/-- these texts lie in a block of texts -/
def StrsT (w : World) (A : Option Addr) (vs : List ByteArray) : Prop :=
  vs = [] ∨ ∃ bk o cs fr, A = some ⟨bk, o, none⟩ ∧ w.heap[bk]? = some (.cells cs 9 fr) ∧ ∀ (j : Nat) x, vs[j]? = some x → cs[o + j]? = some (.string x)
theorem StrsT.strs {w : World} {A : Option Addr} {vs : List ByteArray} (h : StrsT w A vs) : StrsIn w A vs := by
  rcases h with h | ⟨bk, o, cs, fr, rfl, h1, h2⟩
  · exact .inl h
  · exact .inr ⟨bk, o, rfl, fun j x hx => by simp [World.cell?, h1, h2 j x hx]⟩
theorem heap_lt {w : World} {b : Nat} {o : Obj} (h : w.heap[b]? = some o) : b < w.heap.size := (Array.getElem?_eq_some_iff.1 h).1
theorem StrsT.off {w w' : World} {A : Option Addr} {vs : List ByteArray} {l : List Nat} (h : StrsT w A vs) (hb : Off l w w') (hl : ∀ k ∈ l, ∀ cs fr, w.heap[k]? ≠ some (.cells cs 9 fr)) : StrsT w' A vs := by
  rcases h with h | ⟨bk, o, cs, fr, rfl, h1, h2⟩
  · exact .inl h
  · refine .inr ⟨bk, o, cs, fr, rfl, ?_, h2⟩
    rw [hb.block bk (heap_lt h1) (fun hm => hl bk hm cs fr h1)]
    exact h1
theorem StrsT.below {w w' : World} {A : Option Addr} {vs : List ByteArray} (h : StrsT w A vs) (hb : Below w.heap.size w w') : StrsT w' A vs :=
  h.off ((Off.refl [] w).below hb (Nat.le_refl _)) (fun k hk => by cases hk)
theorem OwnsS.typed {w : World} {base : Nat} {A : Option Addr} {n c : Nat} {xs : List ByteArray} (h : OwnsS w base (.slice A n c) xs) : StrsT w A xs := by
  rcases h.2 with ⟨h1, h2⟩ | ⟨g, cap, cur, h1, h3, h4, h5, h6, h7, h8⟩
  · exact .inl (List.length_eq_zero_iff.1 h2)
  · cases h1
    refine .inr ⟨g, 0, cur, _, rfl, h4, fun j x hx => ?_⟩
    have h9 : (cur.toList.take (xs.length * 1))[j]? = some (.string x) := by rw [h8, List.getElem?_map, hx]; rfl
    rw [List.getElem?_take] at h9
    split at h9
    · rw [Nat.zero_add, ← Array.getElem?_toList]; exact h9
    · cases h9

def TagD.ok (w : World) (t : TagD) : Prop := StrsT w t.A t.c.vs ∧ (t.A = none → t.n = 0) ∧ t.c.vs.length ≤ t.n
theorem TagD.ok.below {w w' : World} {t : TagD} (h : t.ok w) (hb : Below w.heap.size w w') : t.ok w' := ⟨h.1.below hb, h.2⟩
theorem TagD.ok.off {w w' : World} {t : TagD} {l : List Nat} (h : t.ok w) (hb : Off l w w') (hl : ∀ k ∈ l, ∀ cs fr, w.heap[k]? ≠ some (.cells cs 9 fr)) : t.ok w' := ⟨h.1.off hb hl, h.2⟩

def tagCells (ts : List TagD) : List Value := (ts.map TagD.cells).flatten
theorem tagCells_at (ts : List TagD) : ∀ (j : Nat) t i v, ts[j]? = some t → t.cells[i]? = some v → (tagCells ts)[j * 4 + i]? = some v := by
  induction ts with
  | nil => intro j t i v h; simp at h
  | cons x r ih =>
    intro j t i v h hv
    unfold tagCells at *
    rw [List.map_cons, List.flatten_cons]
    have hx : x.cells.length = 4 := rfl
    cases j with
    | zero =>
      simp at h
      subst h
      have hi : i < 4 := by have := (List.getElem?_eq_some_iff.1 hv).1; rw [hx] at this; exact this
      rw [Nat.zero_mul, Nat.zero_add, List.getElem?_append_left (by rw [hx]; exact hi)]
      exact hv
    | succ j =>
      simp only [List.getElem?_cons_succ] at h
      rw [List.getElem?_append_right (by rw [hx]; omega), hx, show (j + 1) * 4 + i - 4 = j * 4 + i by omega]
      exact ih j t i v h hv

/-- A row of tags that is the call's own. -/
def OwnsT (w : World) (base : Nat) (v : Value) (ts : List TagD) : Prop := w.ownsRow base 204 4 v ts.length (tagCells ts)
theorem OwnsT.alloc {w : World} {base : Nat} {v : Value} {ts : List TagD} (h : OwnsT w base v ts) (o : Obj) : OwnsT (w.alloc o) base v ts := World.ownsRow.alloc h o
theorem OwnsT.off {w w' : World} {base : Nat} {v : Value} {ts : List TagD} {l : List Nat} (h : OwnsT w base v ts) (hb : Off l w w') (hl : ∀ k, v.ownBlock = some k → k ∉ l) : OwnsT w' base v ts := by
  refine ⟨h.1, ?_⟩
  rcases h.2 with h2 | ⟨g, cap, cur, rfl, h3, h4, h5⟩
  · exact .inl h2
  · refine .inr ⟨g, cap, cur, rfl, h3, ?_, h5⟩
    rw [hb.block g (heap_lt h4) (hl g rfl)]
    exact h4
theorem OwnsT.below {w w' : World} {base : Nat} {v : Value} {ts : List TagD} (h : OwnsT w base v ts) (hb : Below w.heap.size w w') : OwnsT w' base v ts :=
  h.off ((Off.refl [] w).below hb (Nat.le_refl _)) (fun k _ => by simp)
theorem OwnsT.base {w : World} {base b' : Nat} {v : Value} {ts : List TagD} (h : OwnsT w base v ts) (hb : b' ≤ base) : OwnsT w b' v ts := by
  refine ⟨h.1, ?_⟩
  rcases h.2 with h2 | ⟨g, cap, cur, h1, h3, h4⟩
  · exact .inl h2
  · exact .inr ⟨g, cap, cur, h1, by omega, h4⟩
/-- its own block is no block of texts -/
theorem OwnsT.other {w : World} {base : Nat} {v : Value} {ts : List TagD} (h : OwnsT w base v ts) : ∀ k ∈ v.ownBlock.toList, ∀ cs fr, w.heap[k]? ≠ some (.cells cs 9 fr) := by
  intro k hk cs fr he
  rcases h.2 with ⟨h2, _⟩ | ⟨g, cap, cur, rfl, h3, h4, h5⟩
  · rw [h2] at hk; simp [Value.ownBlock] at hk
  · simp [Value.ownBlock] at hk
    subst hk
    rw [he] at h4
    injection h4 with h4
    injection h4 with _ ht
    exact absurd ht (by decide)
theorem OwnsT.form {w : World} {base : Nat} {v : Value} {ts : List TagD} (h : OwnsT w base v ts) (hp : 0 < ts.length) : ∃ g c, v = .slice (some ⟨g, 0, none⟩) ts.length c ∧ ts.length ≤ c ∧ base ≤ g ∧ g < w.heap.size ∧
    (∀ (j : Nat) t i u, ts[j]? = some t → t.cells[i]? = some u → w.cell? ⟨g, j * 4 + i, none⟩ = some u) := by
  rcases h.2 with ⟨_, h2⟩ | ⟨g, cap, cur, rfl, h3, h4, h5, _⟩
  · omega
  · refine ⟨g, cap, rfl, h5, h3, heap_lt h4, fun j t i u ht hu => ?_⟩
    have := World.ownsRow.cells h (g := g) rfl (j * 4 + i) u (tagCells_at ts j t i u ht hu)
    rw [Go.WideShapes.add_plain, Nat.zero_add] at this
    exact this
theorem OwnsT.grown {wa wb : World} {base : Nat} {v : Value} {ts : List TagD} (h : OwnsT wa base v ts) (hoff : Off v.ownBlock.toList wa wb) (hb : base ≤ wa.heap.size) : Below base wa wb := by
  refine hoff.toBelow (fun k hk => ?_) hb
  rcases h.2 with ⟨h2, _⟩ | ⟨g, cap, cur, rfl, h3, h4, h5⟩
  · rw [h2] at hk; simp [Value.ownBlock] at hk
  · simp [Value.ownBlock] at hk
    omega
theorem OwnsT.lit1 (w : World) (t : TagD) : OwnsT (w.alloc (.cells #[.string t.c.l, .string t.c.s, .string t.c.r, .slice t.A t.c.vs.length t.n] 204)) w.heap.size (.slice (some ⟨w.heap.size, 0, none⟩) 1 1) [t] :=
  World.ownsRow_lit w #[.string t.c.l, .string t.c.s, .string t.c.r, .slice t.A t.c.vs.length t.n] 1 (Nat.le_refl _) (by simp [maxLen]) rfl

theorem infoTag : ∃ i, Tryz.prog.info? 204 = some i ∧ i.zero = some (.agg #[.string ⟨#[]⟩, .string ⟨#[]⟩, .string ⟨#[]⟩, .slice none 0 0]) ∧ i.size = 4 ∧ i.bytes = 72 := by
  have h : (Tryz.prog.info? 204).map (fun i => (i.zero, i.size, i.bytes)) = some (some (.agg #[.string ⟨#[]⟩, .string ⟨#[]⟩, .string ⟨#[]⟩, .slice none 0 0]), 4, 72) := by kernel_rfl
  obtain ⟨i, hi, h2⟩ := Option.map_eq_some_iff.1 h
  simp only [Prod.mk.injEq] at h2
  exact ⟨i, hi, h2.1, h2.2.1, h2.2.2⟩

set_option maxRecDepth 100000 in
theorem append_tag {w : World} {base : Nat} {v : Value} {ts : List TagD} {b c : Nat} (t : TagD) (h : OwnsT w base v ts) (hc : ∀ i u, t.cells[i]? = some u → w.cell? ⟨b, i, none⟩ = some u) (ty : TypeId) (hb : base ≤ w.heap.size) (hn : ts.length ≤ 1000000) :
    ∃ v' w', (Builtin.append_ #[207, 207] ty #[v, .slice (some ⟨b, 0, none⟩) 1 c]).run Tryz.prog w = .ok v' w' ∧ OwnsT w' base v' (ts ++ [t]) ∧ Off v.ownBlock.toList w w' ∧ (v'.ownBlock = v.ownBlock ∨ v'.ownBlock = some w.heap.size) := by
  obtain ⟨i, hi, hz, hsz, hby⟩ := infoTag
  obtain ⟨v', w', h1, h2, h3, _, hat⟩ := run_append_own_at (P := Tryz.prog) w base 207 ty 204 i _ 4 72 Tryz.underlying207 hi hz hsz hby rfl (by omega) v ts.length _ h
    ⟨b, 0, none⟩ 1 c t.cells rfl (fun j u hj => by rw [Go.WideShapes.add_plain, Nat.zero_add]; exact hc j u hj)
    (by intro u hu; simp [TagD.cells] at hu; rcases hu with rfl | rfl | rfl | rfl <;> rfl) (by show ts.length + 1 ≤ 9223372036854775807; omega) (by omega) hb
  refine ⟨v', w', h1, ?_, grown_off h3 (fun k hk => by simp [hk]), hat⟩
  unfold OwnsT
  rw [List.length_append]
  have e : tagCells (ts ++ [t]) = tagCells ts ++ t.cells := by unfold tagCells; simp
  rw [e]
  exact h2
theorem wpList_append_tag {w : World} {ops : Array Oper} {rest : List Oper} {o : Oper} {a : Act} {Q : Exit → Act → World → Prop} (hgd : o.guard = none) (s x : Operand)
    (ho : o.op = .call { callee := .builtin .append, args := #[s, x], argTypes := #[207, 207] }) {base : Nat} {v : Value} {ts : List TagD} {b c : Nat} (t : TagD)
    (hs : a.eval s = v) {xv : Value} (hx : a.eval x = xv) (hxv : xv = .slice (some ⟨b, 0, none⟩) 1 c) (hown : OwnsT w base v ts) (hc : ∀ i u, t.cells[i]? = some u → w.cell? ⟨b, i, none⟩ = some u) (hb : base ≤ w.heap.size) (hn : ts.length ≤ 1000000)
    (h : ∀ v' w', OwnsT w' base v' (ts ++ [t]) → Off v.ownBlock.toList w w' → (v'.ownBlock = v.ownBlock ∨ v'.ownBlock = some w.heap.size) → wpList Tryz.prog ops Q rest (a.put o.dst v') w') : wpList Tryz.prog ops Q (o :: rest) a w := by
  refine wpList_plain hgd fun K hK => ?_
  obtain ⟨v', w', hr, h2, h3, h4⟩ := append_tag (c := c) t hown hc o.type hb hn
  rw [← hxv] at hr
  clear hxv hc hown hb hn
  unfold Oper.wp execOp
  simp only [ho, resolve, invoke, builtin, Sem.run_bind, Sem.run_pure, Result.andThen_ok, List.map_toArray, List.map_cons, List.map_nil, hs, hx, hr]
  exact hK _ _ (h v' w' h2 h3 h4)
end Go.Proofs.YtplaohmdllindaaGreatDoor

/- chain.less. -/
namespace Go.Proofs.YtplaohmdllindaaGreatDoor
open Go.RowKit

theorem StrsIn.front {w : World} {A : Option Addr} {vs : List ByteArray} (h : StrsIn w A vs) (m : Nat) : StrsIn w A (vs.take m) := by
  rcases h with h | ⟨bk, o, hA, hc⟩
  · subst h; exact .inl (by simp)
  · refine .inr ⟨bk, o, hA, fun j x hx => hc j x ?_⟩
    rw [List.getElem?_take] at hx
    split at hx
    · exact hx
    · cases hx
theorem ne_facts {s : ByteArray} (h : s.data.toList.isEmpty = false) : ¬ s.toList = [] ∧ s.toList.isEmpty = false := by
  have h1 : ¬ s.toList = [] := by rw [Lib.toList_data]; intro hq; rw [hq] at h; cases h
  exact ⟨h1, by cases hq : s.toList with | nil => exact absurd hq h1 | cons x xl => rfl⟩
theorem emp_facts {s : ByteArray} (h : s.data.toList.isEmpty = true) : s.toList = [] := by rw [Lib.toList_data]; exact List.isEmpty_iff.1 h

theorem wpList_append_n {w : World} {ops : Array Oper} {rest : List Oper} {o : Oper} {a : Act} {Q : Exit → Act → World → Prop} (hgd : o.guard = none) (s x : Operand)
    (ho : o.op = .call { callee := .builtin .append, args := #[s, x], argTypes := #[177, 177] }) {base : Nat} {v : Value} {xs ys : List ByteArray} {A : Option Addr} {m c : Nat} (hm : ys.length = m)
    (hs : a.eval s = v) (hx : a.eval x = .slice A m c) (hown : OwnsS w base v xs) (hy : StrsIn w A ys) (hA : A = none → c = 0) (hb : base ≤ w.heap.size) (hn : xs.length + m ≤ 8000000000000)
    (h : ∀ v' w', OwnsS w' base v' (xs ++ ys) → Off v.ownBlock.toList w w' → wpList Tryz.prog ops Q rest (a.put o.dst v') w') : wpList Tryz.prog ops Q (o :: rest) a w := by
  subst hm
  exact wpList_append_many hgd s x ho hs hx hown hy hA hb hn h

theorem bel_fin {B : Nat} {a b c : World} (h : Below B a b) (k : Below B b c) : Below B a c := h.trans k

set_option maxHeartbeats 1000000 in
theorem less_vs (t : TagD) (m : Nat) (w : World) (h : t.ok w) (hm : t.c.vs.length = m + 1) (h3 : m ≤ 1000) :
    Calls Tryz.prog 170 #[t.val] w fun e w' => ∃ t' : TagD, t'.c = { t.c with vs := t.c.vs.dropLast } ∧ e = .returned (.tuple #[t'.val, .bool true]) ∧ t'.ok w' ∧ Below w.heap.size w w' := by
  obtain ⟨⟨l, s, r, vs⟩, A, n⟩ := t
  simp only [TagD.val] at hm ⊢
  have hd : vs.dropLast = vs.take m := by rw [List.dropLast_eq_take, hm]; rfl
  rw [hm, hd]
  have hlen : (vs.take m).length = m := by rw [List.length_take]; omega
  have hX := h.1.strs.front m
  have hA : A = none → n = 0 := h.2.1
  have hn : m + 1 ≤ n := by have := h.2.2; simp only at this; omega
  generalize vs.take m = us at *
  clear h hd
  have HX := Lib.hid hX
  have HA := Lib.hid hA
  have HL := Lib.hid hlen
  clear hX hA hlen hm
  have HLIT : Hid (∀ W : World, W.heap.size = w.heap.size + 1 + 1 → OwnsS (W.alloc (.cells #[] 9)) (w.heap.size + 1 + 1) (.slice (some ⟨w.heap.size + 1 + 1, 0, none⟩) 0 0) []) := Lib.hid fun W hW => by
    have := OwnsS.lit W (base := w.heap.size + 1 + 1) (by omega)
    rw [hW] at this
    exact this
  go_enter Tryz.func170, Tryz.ntmps170
  go_wp2_with
    (at_builtin
     refine wpList_append_n rfl _ _ rfl HL.out (xs := []) rfl rfl (HLIT.out _ (by simp)) (((HX.out.alloc _).alloc _).alloc _) HA.out (by first | (simp; done) | (simp; omega)) (by first | (simp; done) | (simp; omega)) ?_
     intro v1 w1 ho1 hf1
     have hf2 : Off [w.heap.size + 1 + 1] _ w1 := hf1
     have ho2 : OwnsS w1 (w.heap.size + 1 + 1) v1 us := by simpa using ho1
     have hb1 : Below w.heap.size w w1 := ((((Below.refl w.heap.size w).alloc (Nat.le_refl _) _).alloc (by simp) _).alloc (by simp; omega) _).trans (hf2.toBelow (by simp; omega) (by simp; omega))
     have hs1 : w.heap.size + 1 + 1 < w1.heap.size := by have := hf2.size; simp at this; omega
     have x0 : w1.cell? ⟨w.heap.size, 0, none⟩ = some (.string l) := hf2.cell (by go_simp) (by first | (simp; done) | (simp; omega))
     have x1 : w1.cell? ⟨w.heap.size, 1, none⟩ = some (.string s) := hf2.cell (by go_simp) (by first | (simp; done) | (simp; omega))
     have x2 : w1.cell? ⟨w.heap.size, 2, none⟩ = some (.string r) := hf2.cell (by go_simp) (by first | (simp; done) | (simp; omega))
     have x3 : w1.cell? ⟨w.heap.size, 3, none⟩ = some (.slice A (m + 1) n) := hf2.cell (by go_simp) (by first | (simp; done) | (simp; omega))
     have xf0 : w1.frozen? ⟨w.heap.size, 0, none⟩ = false := (hf2.frozen (by first | (simp; done) | (simp; omega)) (by first | (simp; done) | (simp; omega))).trans (by go_simp)
     have xf1 : w1.frozen? ⟨w.heap.size, 1, none⟩ = false := (hf2.frozen (by first | (simp; done) | (simp; omega)) (by first | (simp; done) | (simp; omega))).trans (by go_simp)
     have xf2 : w1.frozen? ⟨w.heap.size, 2, none⟩ = false := (hf2.frozen (by first | (simp; done) | (simp; omega)) (by first | (simp; done) | (simp; omega))).trans (by go_simp)
     have xf3 : w1.frozen? ⟨w.heap.size, 3, none⟩ = false := (hf2.frozen (by first | (simp; done) | (simp; omega)) (by first | (simp; done) | (simp; omega))).trans (by go_simp)
     have y0 : w1.cell? ⟨w.heap.size + 1, 0, none⟩ = some (.string ⟨#[]⟩) := hf2.cell (by go_simp) (by first | (simp; done) | (simp; omega))
     have y1 : w1.cell? ⟨w.heap.size + 1, 1, none⟩ = some (.string ⟨#[]⟩) := hf2.cell (by go_simp) (by first | (simp; done) | (simp; omega))
     have y2 : w1.cell? ⟨w.heap.size + 1, 2, none⟩ = some (.string ⟨#[]⟩) := hf2.cell (by go_simp) (by first | (simp; done) | (simp; omega))
     have y3 : w1.cell? ⟨w.heap.size + 1, 3, none⟩ = some (.slice none 0 0) := hf2.cell (by go_simp) (by first | (simp; done) | (simp; omega))
     have yf0 : w1.frozen? ⟨w.heap.size + 1, 0, none⟩ = false := (hf2.frozen (by first | (simp; done) | (simp; omega)) (by first | (simp; done) | (simp; omega))).trans (by go_simp)
     have yf1 : w1.frozen? ⟨w.heap.size + 1, 1, none⟩ = false := (hf2.frozen (by first | (simp; done) | (simp; omega)) (by first | (simp; done) | (simp; omega))).trans (by go_simp)
     have yf2 : w1.frozen? ⟨w.heap.size + 1, 2, none⟩ = false := (hf2.frozen (by first | (simp; done) | (simp; omega)) (by first | (simp; done) | (simp; omega))).trans (by go_simp)
     have yf3 : w1.frozen? ⟨w.heap.size + 1, 3, none⟩ = false := (hf2.frozen (by first | (simp; done) | (simp; omega)) (by first | (simp; done) | (simp; omega))).trans (by go_simp)
     obtain ⟨A1, c1, rfl, k1, _, k2⟩ := ho2.form
     have HO := Lib.hid ho2
     have HB := Lib.hid hb1
     have HK := Lib.hid k1
     have HK2 := Lib.hid k2
     clear ho1 hf1 hf2 ho2 hb1 k1 k2)
  exact bodyPost_ret (v := .tuple #[tagV l s r A1 us.length c1, .bool true]) (by simp [results, Tryz.results170, go_sem, World.cell?_setCell_same, World.cell?_setCell_other, x0, x1, x2, x3, y0, y1, y2, y3]) rfl
    ⟨⟨⟨l, s, r, us⟩, A1, c1⟩, rfl, rfl, ⟨(OwnsS.off (l := [w.heap.size, w.heap.size + 1]) HO.out (by repeat (first | exact Off.refl _ _ | refine Off.setCell ?_ _ _ (by simp))) (fun k hk => by have := (HK2.out k hk).1; simp; omega)).typed, HK.out, HO.out.cap.2⟩, bel_fin HB.out (belx)⟩


set_option maxHeartbeats 1000000 in
theorem less_r (l s r : ByteArray) (A : Option Addr) (n : Nat) (w : World) (hr : r.data.toList.isEmpty = false) :
    Calls Tryz.prog 170 #[tagV l s r A 0 n] w fun e w' => e = .returned (.tuple #[tagV l s ⟨#[]⟩ A 0 n, .bool true]) ∧ Below w.heap.size w w' := by
  obtain ⟨r1, r2⟩ := ne_facts hr
  clear hr
  go_enter Tryz.func170, Tryz.ntmps170
  go_wp2_with fail
  exact bodyPost_ret (v := .tuple #[tagV l s ⟨#[]⟩ A 0 n, .bool true]) (by simp [results, Tryz.results170, go_sem]) rfl ⟨rfl, belx⟩

set_option maxHeartbeats 1000000 in
theorem less_s (l s r : ByteArray) (A : Option Addr) (n : Nat) (w : World) (hr : r.data.toList.isEmpty = true) (hs : s.data.toList.isEmpty = false) :
    Calls Tryz.prog 170 #[tagV l s r A 0 n] w fun e w' => e = .returned (.tuple #[tagV l ⟨#[]⟩ r A 0 n, .bool true]) ∧ Below w.heap.size w w' := by
  have r1 := emp_facts hr
  obtain ⟨s1, s2⟩ := ne_facts hs
  clear hr hs
  go_enter Tryz.func170, Tryz.ntmps170
  go_wp2_with fail
  exact bodyPost_ret (v := .tuple #[tagV l ⟨#[]⟩ r A 0 n, .bool true]) (by simp [results, Tryz.results170, go_sem]) rfl ⟨rfl, belx⟩

set_option maxHeartbeats 1000000 in
theorem less_no (l s r : ByteArray) (A : Option Addr) (n : Nat) (w : World) (hr : r.data.toList.isEmpty = true) (hs : s.data.toList.isEmpty = true) :
    Calls Tryz.prog 170 #[tagV l s r A 0 n] w fun e w' => e = .returned (.tuple #[tagV l s r A 0 n, .bool false]) ∧ Below w.heap.size w w' := by
  have r1 := emp_facts hr
  have s1 := emp_facts hs
  clear hr hs
  go_enter Tryz.func170, Tryz.ntmps170
  go_wp2_with fail
  exact bodyPost_ret (v := .tuple #[tagV l s r A 0 n, .bool false]) (by simp [results, Tryz.results170, go_sem]) rfl ⟨rfl, belx⟩

def LessRes (t : TagD) (e : Ending) (w' : World) : Prop :=
  (∀ c', lessC t.c = some c' → ∃ t' : TagD, t'.c = c' ∧ e = .returned (.tuple #[t'.val, .bool true]) ∧ t'.ok w') ∧ (lessC t.c = none → e = .returned (.tuple #[t.val, .bool false]))
theorem chain_less (t : TagD) (w : World) (h : t.ok w) (h3 : t.c.vs.length ≤ 1000) :
    Calls Tryz.prog 170 #[t.val] w fun e w' => LessRes t e w' ∧ Below w.heap.size w w' := by
  by_cases hv : t.c.vs = []
  · obtain ⟨⟨l, s, r, vs⟩, A, n⟩ := t
    simp only at hv
    subst hv
    have ok' : ∀ (l s r : ByteArray) (w' : World), (⟨⟨l, s, r, []⟩, A, n⟩ : TagD).ok w' := fun _ _ _ w' => ⟨.inl rfl, h.2.1, Nat.zero_le _⟩
    cases hr : r.data.toList.isEmpty
    · have hl : lessC ⟨l, s, r, []⟩ = some ⟨l, s, ⟨#[]⟩, []⟩ := by unfold lessC; rw [if_neg (by simp), if_pos hr]
      refine (less_r l s r A n w hr).mono ?_
      rintro e w' ⟨rfl, hb⟩
      exact ⟨⟨fun c' hc => by
        rw [hl] at hc
        cases hc
        exact ⟨⟨⟨l, s, ⟨#[]⟩, []⟩, A, n⟩, rfl, rfl, ok' _ _ _ _⟩, fun hc => by rw [hl] at hc; cases hc⟩, hb⟩
    · cases hs : s.data.toList.isEmpty
      · have hl : lessC ⟨l, s, r, []⟩ = some ⟨l, ⟨#[]⟩, r, []⟩ := by unfold lessC; rw [if_neg (by simp), if_neg (by rw [hr]; decide), if_pos hs]
        refine (less_s l s r A n w hr hs).mono ?_
        rintro e w' ⟨rfl, hb⟩
        exact ⟨⟨fun c' hc => by
          rw [hl] at hc
          cases hc
          exact ⟨⟨⟨l, ⟨#[]⟩, r, []⟩, A, n⟩, rfl, rfl, ok' _ _ _ _⟩, fun hc => by rw [hl] at hc; cases hc⟩, hb⟩
      · have hl : lessC ⟨l, s, r, []⟩ = none := by unfold lessC; rw [if_neg (by simp), if_neg (by rw [hr]; decide), if_neg (by rw [hs]; decide)]
        refine (less_no l s r A n w hr hs).mono ?_
        rintro e w' ⟨rfl, hb⟩
        exact ⟨⟨(fun c' hc => by rw [hl] at hc; cases hc), fun _ => rfl⟩, hb⟩
  · have hp : 0 < t.c.vs.length := List.length_pos_iff.2 hv
    have hl : lessC t.c = some { t.c with vs := t.c.vs.dropLast } := by unfold lessC; rw [if_pos hv]
    refine (less_vs t (t.c.vs.length - 1) w h (by omega) (by omega)).mono ?_
    rintro e w' ⟨t', h1, h2, h3, hb⟩
    exact ⟨⟨fun c' hc => by
      rw [hl] at hc
      cases hc
      exact ⟨t', h1, h2, h3⟩, fun hc => by rw [hl] at hc; cases hc⟩, hb⟩
end Go.Proofs.YtplaohmdllindaaGreatDoor
