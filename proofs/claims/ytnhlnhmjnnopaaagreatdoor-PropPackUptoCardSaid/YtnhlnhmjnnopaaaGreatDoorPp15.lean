/- TagCheck, TagCheck2: texts put together. -/
import Derived.Test.YtnhlnhmjnnopaaaGreatDoorPp1
import Derived.Test.YtnhlnhmjnnopaaaGreatDoorPp14
import Derived.Test.YtnhlnhmjnnopaaaGreatDoorShelf
set_option linter.unusedVariables false
set_option linter.unusedSimpArgs false
/- tag.script, region, Check. -/
namespace Go.Proofs.YtnhlnhmjnnopaaaGreatDoor
open Go.RowKit

theorem made_low' (s : ByteArray) (a b : Nat) (w : World) (v : Bool) (hv : madeB lowB s.data.toList a b = v) (hs : s.size ≤ 9223372036854775807) (ha : a ≤ 100) (hb : b ≤ 100) :
    Calls Tryz.prog 82 #[.func (.func 81) #[] #[], .string s, .int .i64 a, .int .i64 b] w fun e w' => e = .returned (.bool v) ∧ w = w' := hv ▸ made_low s a b w hs ha hb
theorem tag_script (s : ByteArray) (w : World) (hs : s.size ≤ 9223372036854775807) :
    Calls Tryz.prog 126 #[.string s] w fun e w' => e = .returned (.bool (scriptB s.data.toList)) ∧ w = w' := by
  by_cases h4 : s.size = 4
  · have i4 : ((s.size : Int) = 4) := by omega
    have hl : s.data.toList.length = 4 := by simpa using h4
    have h0 : 0 < s.size := by omega
    have i0 : (0 : Int) < (s.size : Int) := by omega
    have i1 : (1 : Int) ≤ (s.size : Int) := by omega
    have e0 : s.data.toList.getD 0 0 = s[0] := by
      rw [List.getD_eq_getElem?_getD, List.getElem?_eq_getElem (by omega)]; rfl
    have e1 : (s.extract 1 s.size).data.toList = s.data.toList.drop 1 := by
      rw [Lib.extract_data, List.take_of_length_le (by rw [List.length_drop]; simp)]
    have E0 := Lib.hid e0
    have E1 := Lib.hid e1
    have HL := Lib.hid hl
    have KH := Lib.hid (fun W => tag_high s[0] W)
    have KM := Lib.hid (fun W => made_low (s.extract 1 s.size) 3 3 W (by simp; omega) (by omega) (by omega))
    have b4 : ((s.size : Int) == 4) = true := by simpa using i4
    clear e0 e1 hl h4 i4
    cases hh : highB s[0]
    · have K2 := Lib.hid (fun W => by have := KH.out W; rw [hh] at this; exact this)
      have HH := Lib.hid hh
      clear hh KH
      go_enter Tryz.func126, Tryz.ntmps126
      go_wp2_with fail
      refine (K2.out _).mono ?_
      rintro e w1 ⟨rfl, rfl⟩
      go_wp2_with fail
      go_ret
      exact ⟨ret_bool (by unfold scriptB; rw [HL.out, E0.out, HH.out]; rfl), rfl⟩
    · have K2 := Lib.hid (fun W => by have := KH.out W; rw [hh] at this; exact this)
      have HH := Lib.hid hh
      clear hh KH
      go_enter Tryz.func126, Tryz.ntmps126
      go_wp2_with fail
      refine (K2.out _).mono ?_
      rintro e w1 ⟨rfl, rfl⟩
      go_wp2_with fail
      refine (KM.out _).mono ?_
      rintro e w1 ⟨rfl, rfl⟩
      go_wp2_with fail
      go_ret
      refine ⟨ret_bool ?_, rfl⟩
      unfold scriptB
      rw [HL.out, E0.out, HH.out]
      first
        | rw [E1.out]
        | rw [List.take_of_length_le (by simp), ← List.drop_one]
      rfl
  · have hd : scriptB s.data.toList = false := by
      unfold scriptB
      have : s.data.toList.length ≠ 4 := by simpa using h4
      rw [decide_eq_false this]; rfl
    have HD := Lib.hid hd
    have b4 : ((s.size : Int) == 4) = false := by simp; omega
    clear hd h4
    go_enter Tryz.func126, Tryz.ntmps126
    go_wp2_with fail
    go_ret
    exact ⟨ret_bool HD.out.symm, rfl⟩
theorem tag_region (s : ByteArray) (w : World) (hs : s.size ≤ 9223372036854775807) :
    Calls Tryz.prog 84 #[.string s] w fun e w' => e = .returned (.bool (regionB s.data.toList)) ∧ w = w' := by
  have KH := Lib.hid (fun W => made_high s 2 2 W hs (by omega) (by omega))
  have KD := Lib.hid (fun W => made_digit s 3 3 W hs (by omega) (by omega))
  cases hh : madeB highB s.data.toList 2 2
  · have K2 := Lib.hid (fun W => by have := KH.out W; rw [hh] at this; exact this)
    have HH := Lib.hid hh
    clear hh KH
    go_enter Tryz.func84, Tryz.ntmps84
    go_wp2_with fail
    refine (K2.out _).mono ?_
    rintro e w1 ⟨rfl, rfl⟩
    go_wp2_with fail
    refine (KD.out _).mono ?_
    rintro e w1 ⟨rfl, rfl⟩
    go_wp2_with fail
    go_ret
    exact ⟨ret_bool (by unfold regionB; rw [HH.out]; rfl), rfl⟩
  · have K2 := Lib.hid (fun W => by have := KH.out W; rw [hh] at this; exact this)
    have HH := Lib.hid hh
    clear hh KH
    go_enter Tryz.func84, Tryz.ntmps84
    go_wp2_with fail
    refine (K2.out _).mono ?_
    rintro e w1 ⟨rfl, rfl⟩
    go_wp2_with fail
    go_ret
    exact ⟨ret_bool (by unfold regionB; rw [HH.out]; rfl), rfl⟩

/-- a tag as a value -/
abbrev tagV (l s r : ByteArray) (A : Option Addr) (n c : Nat) : Value := .agg #[.string l, .string s, .string r, .slice A n c]
/-- what an error is told as -/
theorem isEmpty_iff (s : ByteArray) : s.toList = [] ↔ s.data.toList.isEmpty = true := by rw [Lib.toList_data, List.isEmpty_iff]
theorem containsS_lists (zs : List ByteArray) (x : ByteArray) : Lib.containsS zs x = (listsOf zs).contains x.data.toList := by
  rw [Bool.eq_iff_iff, Lib.containsS_iff, List.contains_iff_mem, List.mem_map]
  constructor
  · intro h; exact ⟨x, h, rfl⟩
  · rintro ⟨y, hy, e⟩
    have : y = x := ByteArray.ext (Array.ext' e)
    exact this ▸ hy
/-- slices.Contains of a row of texts -/
theorem contains_strs (A : Option Addr) (c k : Nat) (vs : List ByteArray) (x : ByteArray) (w : World) (h : StrsIn w A vs) (hk : k ≤ vs.length) (hn : vs.length ≤ 9223372036854775807) :
    Calls Tryz.prog 26 #[.slice A k c, .string x] w fun e w' => e = .returned (.bool ((listsOf (vs.take k)).contains x.data.toList)) ∧ w = w' := by
  rcases h with rfl | ⟨bk, o, rfl, hc⟩
  · obtain rfl : k = 0 := by simpa using hk
    refine (Tryz.slices_Contains_string_empty A c x w).mono ?_
    rintro e w' ⟨rfl, rfl⟩
    exact ⟨rfl, rfl⟩
  · refine (Tryz.slices_Contains_string bk o k c vs x w hk (by omega) (fun j hj => ?_)).mono ?_
    · rw [hc j vs[j] (List.getElem?_eq_getElem hj), List.getD_eq_getElem?_getD, List.getElem?_eq_getElem hj]; rfl
    · rintro e w' ⟨rfl, rfl⟩
      exact ⟨by rw [containsS_lists], rfl⟩

theorem varErr_step (vs : List ByteArray) (k : Nat) (v : ByteArray) (h : vs[k]? = some v) : varErr (listsOf (vs.take k)) (listsOf (vs.drop k)) =
    if madeB bothB v.data.toList 5 8 = false then 3 else if (listsOf (vs.take k)).contains v.data.toList then 5 else varErr (listsOf (vs.take (k + 1))) (listsOf (vs.drop (k + 1))) := by
  have hk : k < vs.length := (List.getElem?_eq_some_iff.1 h).1
  have hv : vs[k] = v := (List.getElem?_eq_some_iff.1 h).2
  have e1 : vs.drop k = v :: vs.drop (k + 1) := by rw [List.drop_eq_getElem_cons hk, hv]
  have e2 : vs.take (k + 1) = vs.take k ++ [v] := by rw [List.take_add_one, h]; rfl
  unfold listsOf
  rw [e1, e2, List.map_cons, varErr, List.map_append]
  rfl
end Go.Proofs.YtnhlnhmjnnopaaaGreatDoor

/- tag.Check. -/
namespace Go.Proofs.YtnhlnhmjnnopaaaGreatDoor
open Go.RowKit

def tailErr (E : Int) (n : Nat) : Int := if E = 0 then (if 3 < n then 4 else 0) else E
theorem errTail_no (k : Int) (n : Nat) (h : k ≠ 0) : errOf (tailErr k n) = errT k := by unfold tailErr; rw [if_neg h]; unfold errOf; rw [if_neg h]
theorem errTail_full (n : Nat) (h : 3 < n) : errOf (tailErr 0 n) = errT 4 := by unfold tailErr; rw [if_pos rfl, if_pos h]; rfl
theorem errTail_ok (n : Nat) (h : ¬ 3 < n) : errOf (tailErr 0 n) = .nilIface := by unfold tailErr; rw [if_pos rfl, if_neg h]; rfl

theorem tag_check_l (l s r : ByteArray) (A : Option Addr) (c : Nat) (vs : List ByteArray) (w : World) (hl : l.size ≤ 9223372036854775807) (hs : s.size ≤ 9223372036854775807) (hr : r.size ≤ 9223372036854775807) (h1 : madeB lowB l.data.toList 2 3 = false) :
    Calls Tryz.prog 86 #[tagV l s r A vs.length c] w fun e w' => e = .returned (errT 3) ∧ Below w.heap.size w w' := by
  have KL := Lib.hid (fun W => made_low l 2 3 W hl (by omega) (by omega))
  have K1 := Lib.hid (fun W => by have := KL.out W; rw [h1] at this; exact this)
  clear h1 KL
  go_enter Tryz.func86, Tryz.ntmps86
  go_wp2_with fail
  refine (K1.out _).mono ?_
  rintro e w1 ⟨rfl, rfl⟩
  go_wp2_with fail
  go_ret
  exact ⟨rfl, (Below.refl _ _).alloc (Nat.le_refl _) _⟩

set_option maxHeartbeats 1000000 in
theorem tag_check_f (l s r : ByteArray) (A : Option Addr) (c : Nat) (vs : List ByteArray) (w : World) (hl : l.size ≤ 9223372036854775807) (hs : s.size ≤ 9223372036854775807) (hr : r.size ≤ 9223372036854775807) (h1 : madeB lowB l.data.toList 2 3 = true) (hS : s.data.toList.isEmpty = false) (hS2 : scriptB s.data.toList = false) :
    Calls Tryz.prog 86 #[tagV l s r A vs.length c] w fun e w' => e = .returned (errT 3) ∧ Below w.heap.size w w' := by
  have KL := Lib.hid (fun W => made_low l 2 3 W hl (by omega) (by omega))
  have KS := Lib.hid (fun W => tag_script s W hs)
  have KR := Lib.hid (fun W => tag_region r W hr)
  have K1 := Lib.hid (fun W => by have := KL.out W; rw [h1] at this; exact this)
  have K2 := Lib.hid (fun W => by have := KS.out W; rw [hS2] at this; exact this)
  have s1 : ¬ s.toList = [] := by rw [Lib.toList_data]; intro hq; rw [hq] at hS; cases hS
  have s2 : s.toList.isEmpty = false := by cases hq : s.toList with | nil => exact absurd hq s1 | cons x xl => rfl
  clear KL KS KR h1 hS hS2
  go_enter Tryz.func86, Tryz.ntmps86
  go_wp2_with fail
  refine (K1.out _).mono ?_
  rintro e w1 ⟨rfl, rfl⟩
  go_wp2_with fail
  refine (K2.out _).mono ?_
  rintro e w1 ⟨rfl, rfl⟩
  go_wp2_with fail
  go_ret
  exact ⟨rfl, (Below.refl _ _).alloc (Nat.le_refl _) _⟩

set_option maxHeartbeats 1000000 in
theorem tag_check_ef (l s r : ByteArray) (A : Option Addr) (c : Nat) (vs : List ByteArray) (w : World) (hl : l.size ≤ 9223372036854775807) (hs : s.size ≤ 9223372036854775807) (hr : r.size ≤ 9223372036854775807) (h1 : madeB lowB l.data.toList 2 3 = true) (hS : s.data.toList.isEmpty = true) (hR : r.data.toList.isEmpty = false) (hR2 : regionB r.data.toList = false) :
    Calls Tryz.prog 86 #[tagV l s r A vs.length c] w fun e w' => e = .returned (errT 3) ∧ Below w.heap.size w w' := by
  have KL := Lib.hid (fun W => made_low l 2 3 W hl (by omega) (by omega))
  have KS := Lib.hid (fun W => tag_script s W hs)
  have KR := Lib.hid (fun W => tag_region r W hr)
  have K1 := Lib.hid (fun W => by have := KL.out W; rw [h1] at this; exact this)
  have K3 := Lib.hid (fun W => by have := KR.out W; rw [hR2] at this; exact this)
  have s1 : s.toList = [] := by rw [Lib.toList_data]; exact List.isEmpty_iff.1 hS
  have r1 : ¬ r.toList = [] := by rw [Lib.toList_data]; intro hq; rw [hq] at hR; cases hR
  have r2 : r.toList.isEmpty = false := by cases hq : r.toList with | nil => exact absurd hq r1 | cons x xl => rfl
  clear KL KS KR h1 hS hR hR2
  go_enter Tryz.func86, Tryz.ntmps86
  go_wp2_with fail
  refine (K1.out _).mono ?_
  rintro e w1 ⟨rfl, rfl⟩
  go_wp2_with fail
  refine (K3.out _).mono ?_
  rintro e w1 ⟨rfl, rfl⟩
  go_wp2_with fail
  go_ret
  exact ⟨rfl, (Below.refl _ _).alloc (Nat.le_refl _) _⟩

set_option maxHeartbeats 1000000 in
theorem tag_check_tf (l s r : ByteArray) (A : Option Addr) (c : Nat) (vs : List ByteArray) (w : World) (hl : l.size ≤ 9223372036854775807) (hs : s.size ≤ 9223372036854775807) (hr : r.size ≤ 9223372036854775807) (h1 : madeB lowB l.data.toList 2 3 = true) (hS : s.data.toList.isEmpty = false) (hS2 : scriptB s.data.toList = true) (hR : r.data.toList.isEmpty = false) (hR2 : regionB r.data.toList = false) :
    Calls Tryz.prog 86 #[tagV l s r A vs.length c] w fun e w' => e = .returned (errT 3) ∧ Below w.heap.size w w' := by
  have KL := Lib.hid (fun W => made_low l 2 3 W hl (by omega) (by omega))
  have KS := Lib.hid (fun W => tag_script s W hs)
  have KR := Lib.hid (fun W => tag_region r W hr)
  have K1 := Lib.hid (fun W => by have := KL.out W; rw [h1] at this; exact this)
  have K2 := Lib.hid (fun W => by have := KS.out W; rw [hS2] at this; exact this)
  have K3 := Lib.hid (fun W => by have := KR.out W; rw [hR2] at this; exact this)
  have s1 : ¬ s.toList = [] := by rw [Lib.toList_data]; intro hq; rw [hq] at hS; cases hS
  have s2 : s.toList.isEmpty = false := by cases hq : s.toList with | nil => exact absurd hq s1 | cons x xl => rfl
  have r1 : ¬ r.toList = [] := by rw [Lib.toList_data]; intro hq; rw [hq] at hR; cases hR
  have r2 : r.toList.isEmpty = false := by cases hq : r.toList with | nil => exact absurd hq r1 | cons x xl => rfl
  clear KL KS KR h1 hS hS2 hR hR2
  go_enter Tryz.func86, Tryz.ntmps86
  go_wp2_with fail
  refine (K1.out _).mono ?_
  rintro e w1 ⟨rfl, rfl⟩
  go_wp2_with fail
  refine (K2.out _).mono ?_
  rintro e w1 ⟨rfl, rfl⟩
  go_wp2_with fail
  refine (K3.out _).mono ?_
  rintro e w1 ⟨rfl, rfl⟩
  go_wp2_with fail
  go_ret
  exact ⟨rfl, (Below.refl _ _).alloc (Nat.le_refl _) _⟩

theorem StrsIn.alloc {w : World} {A : Option Addr} {xs : List ByteArray} (h : StrsIn w A xs) (o : Obj) : StrsIn (w.alloc o) A xs := h.below ((Below.refl _ _).alloc (Nat.le_refl _) o)

set_option maxHeartbeats 2000000 in
theorem tag_check_ee (l s r : ByteArray) (A : Option Addr) (c : Nat) (vs : List ByteArray) (w : World) (hl : l.size ≤ 9223372036854775807) (hs : s.size ≤ 9223372036854775807) (hr : r.size ≤ 9223372036854775807) (hX : StrsIn w A vs) (hn : vs.length ≤ 9223372036854775807) (hcap : vs.length ≤ c) (hz : ∀ v ∈ vs, v.size ≤ 9223372036854775807) (E : Int) (hE : varErr [] (listsOf vs) = E) (h1 : madeB lowB l.data.toList 2 3 = true) (hS : s.data.toList.isEmpty = true) (hR : r.data.toList.isEmpty = true) :
    Calls Tryz.prog 86 #[tagV l s r A vs.length c] w fun e w' => e = .returned (errOf (tailErr E vs.length)) ∧ Below w.heap.size w w' := by
  have HX := Lib.hid hX
  have HZ := Lib.hid hz
  have HE : Hid (varErr (listsOf (vs.take 0)) (listsOf (vs.drop 0)) = E) := Lib.hid hE
  clear hX hz hE
  have KL := Lib.hid (fun W => made_low l 2 3 W hl (by omega) (by omega))
  have KS := Lib.hid (fun W => tag_script s W hs)
  have KR := Lib.hid (fun W => tag_region r W hr)
  have K1 := Lib.hid (fun W => by have := KL.out W; rw [h1] at this; exact this)
  have s1 : s.toList = [] := by rw [Lib.toList_data]; exact List.isEmpty_iff.1 hS
  have r1 : r.toList = [] := by rw [Lib.toList_data]; exact List.isEmpty_iff.1 hR
  clear KL KS KR h1 hS hR
  go_enter Tryz.func86, Tryz.ntmps86
  go_wp2_with fail
  refine (K1.out _).mono ?_
  rintro e w1 ⟨rfl, rfl⟩
  go_wp2_with fail
  go_loop [35] (fun i => ∃ k : Nat, k ≤ vs.length ∧ i = .int .i64 k ∧ Hid (varErr (listsOf (vs.take k)) (listsOf (vs.drop k)) = E)) (fun i => vs.length - (intOf i).toNat)
  case atStart => exact ⟨0, Nat.zero_le _, rfl, HE⟩
  case round =>
    obtain ⟨k, hk, rfl, HV⟩ := hrel
    by_cases hlt : k < vs.length
    · obtain ⟨bk, o, rfl, hc⟩ : ∃ bk o, A = some ⟨bk, o, none⟩ ∧ ∀ (j : Nat) x, vs[j]? = some x → w.cell? ⟨bk, o + j, none⟩ = some (.string x) := by
        rcases HX.out with h | h
        · rw [h] at hlt; simp at hlt
        · exact h
      obtain ⟨v, hv⟩ : ∃ v, vs[k]? = some v := ⟨vs[k], List.getElem?_eq_getElem hlt⟩
      have hcv := hc k v hv
      have hst := varErr_step vs k v hv
      rw [HV.out] at hst
      have hbl := lt_of_cell hcv
      have i0 : (0 : Int) ≤ (k : Int) := by omega
      have i1 : (k : Int) < (vs.length : Int) := by omega
      have i2 : (k : Int) ≤ (c : Int) := by omega
      have KM := Lib.hid (fun W => made_both v 5 8 W (HZ.out v (List.mem_of_getElem? hv)) (by omega) (by omega))
      have KC := Lib.hid (fun (W : World) (h : StrsIn W (some ⟨bk, o, none⟩) vs) => contains_strs (some ⟨bk, o, none⟩) c k vs v W h hk hn)
      cases hm : madeB bothB v.data.toList 5 8
      · have K4 := Lib.hid (fun W => by have := KM.out W; rw [hm] at this; exact this)
        rw [if_pos hm] at hst
        have HF := Lib.hid hst
        clear hst hm KM KC hc hv
        go_wp2_with fail
        refine (K4.out _).mono ?_
        rintro e w1 ⟨rfl, rfl⟩
        go_wp2_with fail
        go_ret
        exact ⟨by (rw [HF.out, errTail_no 3 _ (by decide)]; first | done | rfl), (Below.refl _ _).alloc (Nat.le_refl _) _⟩
      · have K4 := Lib.hid (fun W => by have := KM.out W; rw [hm] at this; exact this)
        rw [if_neg (by rw [hm]; decide)] at hst
        cases hcn : (listsOf (vs.take k)).contains v.data.toList
        · have K5 := Lib.hid (fun W h => by have := KC.out W h; rw [hcn] at this; exact this)
          rw [if_neg (by rw [hcn]; decide)] at hst
          have HF := Lib.hid hst
          clear hst hm hcn KM KC hc hv
          go_wp2_with fail
          refine (K4.out _).mono ?_
          rintro e w1 ⟨rfl, rfl⟩
          go_wp2_with fail
          refine (K5.out _ (HX.out.alloc _)).mono ?_
          rintro e w1 ⟨rfl, rfl⟩
          go_wp2_with fail
          go_round
          case rel => exact ⟨k + 1, by omega, by go_num, Lib.hid HF.out.symm⟩
          case measure => simp [intOf]; omega
        · have K5 := Lib.hid (fun W h => by have := KC.out W h; rw [hcn] at this; exact this)
          rw [if_pos hcn] at hst
          have HF := Lib.hid hst
          clear hst hm hcn KM KC hc hv
          go_wp2_with fail
          refine (K4.out _).mono ?_
          rintro e w1 ⟨rfl, rfl⟩
          go_wp2_with fail
          refine (K5.out _ (HX.out.alloc _)).mono ?_
          rintro e w1 ⟨rfl, rfl⟩
          go_wp2_with fail
          go_ret
          exact ⟨by (rw [HF.out, errTail_no 5 _ (by decide)]; first | done | rfl), (Below.refl _ _).alloc (Nat.le_refl _) _⟩
    · have h0 : E = 0 := by
        have := HV.out
        rw [List.drop_of_length_le (by omega)] at this
        exact this.symm
      have H0 := Lib.hid h0
      clear h0
      by_cases h3 : (3 : Int) < (vs.length : Int)
      · have H3 := Lib.hid h3
        go_wp2_with fail
        go_ret
        exact ⟨by (rw [H0.out, errTail_full _ (by have := H3.out; omega)]; first | done | rfl), (Below.refl _ _).alloc (Nat.le_refl _) _⟩
      · have H3 := Lib.hid h3
        go_wp2_with fail
        go_ret
        exact ⟨by (rw [H0.out, errTail_ok _ (by have := H3.out; omega)]; first | done | rfl), (Below.refl _ _).alloc (Nat.le_refl _) _⟩

set_option maxHeartbeats 2000000 in
theorem tag_check_et (l s r : ByteArray) (A : Option Addr) (c : Nat) (vs : List ByteArray) (w : World) (hl : l.size ≤ 9223372036854775807) (hs : s.size ≤ 9223372036854775807) (hr : r.size ≤ 9223372036854775807) (hX : StrsIn w A vs) (hn : vs.length ≤ 9223372036854775807) (hcap : vs.length ≤ c) (hz : ∀ v ∈ vs, v.size ≤ 9223372036854775807) (E : Int) (hE : varErr [] (listsOf vs) = E) (h1 : madeB lowB l.data.toList 2 3 = true) (hS : s.data.toList.isEmpty = true) (hR : r.data.toList.isEmpty = false) (hR2 : regionB r.data.toList = true) :
    Calls Tryz.prog 86 #[tagV l s r A vs.length c] w fun e w' => e = .returned (errOf (tailErr E vs.length)) ∧ Below w.heap.size w w' := by
  have HX := Lib.hid hX
  have HZ := Lib.hid hz
  have HE : Hid (varErr (listsOf (vs.take 0)) (listsOf (vs.drop 0)) = E) := Lib.hid hE
  clear hX hz hE
  have KL := Lib.hid (fun W => made_low l 2 3 W hl (by omega) (by omega))
  have KS := Lib.hid (fun W => tag_script s W hs)
  have KR := Lib.hid (fun W => tag_region r W hr)
  have K1 := Lib.hid (fun W => by have := KL.out W; rw [h1] at this; exact this)
  have K3 := Lib.hid (fun W => by have := KR.out W; rw [hR2] at this; exact this)
  have s1 : s.toList = [] := by rw [Lib.toList_data]; exact List.isEmpty_iff.1 hS
  have r1 : ¬ r.toList = [] := by rw [Lib.toList_data]; intro hq; rw [hq] at hR; cases hR
  have r2 : r.toList.isEmpty = false := by cases hq : r.toList with | nil => exact absurd hq r1 | cons x xl => rfl
  clear KL KS KR h1 hS hR hR2
  go_enter Tryz.func86, Tryz.ntmps86
  go_wp2_with fail
  refine (K1.out _).mono ?_
  rintro e w1 ⟨rfl, rfl⟩
  go_wp2_with fail
  refine (K3.out _).mono ?_
  rintro e w1 ⟨rfl, rfl⟩
  go_wp2_with fail
  go_loop [35] (fun i => ∃ k : Nat, k ≤ vs.length ∧ i = .int .i64 k ∧ Hid (varErr (listsOf (vs.take k)) (listsOf (vs.drop k)) = E)) (fun i => vs.length - (intOf i).toNat)
  case atStart => exact ⟨0, Nat.zero_le _, rfl, HE⟩
  case round =>
    obtain ⟨k, hk, rfl, HV⟩ := hrel
    by_cases hlt : k < vs.length
    · obtain ⟨bk, o, rfl, hc⟩ : ∃ bk o, A = some ⟨bk, o, none⟩ ∧ ∀ (j : Nat) x, vs[j]? = some x → w.cell? ⟨bk, o + j, none⟩ = some (.string x) := by
        rcases HX.out with h | h
        · rw [h] at hlt; simp at hlt
        · exact h
      obtain ⟨v, hv⟩ : ∃ v, vs[k]? = some v := ⟨vs[k], List.getElem?_eq_getElem hlt⟩
      have hcv := hc k v hv
      have hst := varErr_step vs k v hv
      rw [HV.out] at hst
      have hbl := lt_of_cell hcv
      have i0 : (0 : Int) ≤ (k : Int) := by omega
      have i1 : (k : Int) < (vs.length : Int) := by omega
      have i2 : (k : Int) ≤ (c : Int) := by omega
      have KM := Lib.hid (fun W => made_both v 5 8 W (HZ.out v (List.mem_of_getElem? hv)) (by omega) (by omega))
      have KC := Lib.hid (fun (W : World) (h : StrsIn W (some ⟨bk, o, none⟩) vs) => contains_strs (some ⟨bk, o, none⟩) c k vs v W h hk hn)
      cases hm : madeB bothB v.data.toList 5 8
      · have K4 := Lib.hid (fun W => by have := KM.out W; rw [hm] at this; exact this)
        rw [if_pos hm] at hst
        have HF := Lib.hid hst
        clear hst hm KM KC hc hv
        go_wp2_with fail
        refine (K4.out _).mono ?_
        rintro e w1 ⟨rfl, rfl⟩
        go_wp2_with fail
        go_ret
        exact ⟨by (rw [HF.out, errTail_no 3 _ (by decide)]; first | done | rfl), (Below.refl _ _).alloc (Nat.le_refl _) _⟩
      · have K4 := Lib.hid (fun W => by have := KM.out W; rw [hm] at this; exact this)
        rw [if_neg (by rw [hm]; decide)] at hst
        cases hcn : (listsOf (vs.take k)).contains v.data.toList
        · have K5 := Lib.hid (fun W h => by have := KC.out W h; rw [hcn] at this; exact this)
          rw [if_neg (by rw [hcn]; decide)] at hst
          have HF := Lib.hid hst
          clear hst hm hcn KM KC hc hv
          go_wp2_with fail
          refine (K4.out _).mono ?_
          rintro e w1 ⟨rfl, rfl⟩
          go_wp2_with fail
          refine (K5.out _ (HX.out.alloc _)).mono ?_
          rintro e w1 ⟨rfl, rfl⟩
          go_wp2_with fail
          go_round
          case rel => exact ⟨k + 1, by omega, by go_num, Lib.hid HF.out.symm⟩
          case measure => simp [intOf]; omega
        · have K5 := Lib.hid (fun W h => by have := KC.out W h; rw [hcn] at this; exact this)
          rw [if_pos hcn] at hst
          have HF := Lib.hid hst
          clear hst hm hcn KM KC hc hv
          go_wp2_with fail
          refine (K4.out _).mono ?_
          rintro e w1 ⟨rfl, rfl⟩
          go_wp2_with fail
          refine (K5.out _ (HX.out.alloc _)).mono ?_
          rintro e w1 ⟨rfl, rfl⟩
          go_wp2_with fail
          go_ret
          exact ⟨by (rw [HF.out, errTail_no 5 _ (by decide)]; first | done | rfl), (Below.refl _ _).alloc (Nat.le_refl _) _⟩
    · have h0 : E = 0 := by
        have := HV.out
        rw [List.drop_of_length_le (by omega)] at this
        exact this.symm
      have H0 := Lib.hid h0
      clear h0
      by_cases h3 : (3 : Int) < (vs.length : Int)
      · have H3 := Lib.hid h3
        go_wp2_with fail
        go_ret
        exact ⟨by (rw [H0.out, errTail_full _ (by have := H3.out; omega)]; first | done | rfl), (Below.refl _ _).alloc (Nat.le_refl _) _⟩
      · have H3 := Lib.hid h3
        go_wp2_with fail
        go_ret
        exact ⟨by (rw [H0.out, errTail_ok _ (by have := H3.out; omega)]; first | done | rfl), (Below.refl _ _).alloc (Nat.le_refl _) _⟩

set_option maxHeartbeats 2000000 in
theorem tag_check_te (l s r : ByteArray) (A : Option Addr) (c : Nat) (vs : List ByteArray) (w : World) (hl : l.size ≤ 9223372036854775807) (hs : s.size ≤ 9223372036854775807) (hr : r.size ≤ 9223372036854775807) (hX : StrsIn w A vs) (hn : vs.length ≤ 9223372036854775807) (hcap : vs.length ≤ c) (hz : ∀ v ∈ vs, v.size ≤ 9223372036854775807) (E : Int) (hE : varErr [] (listsOf vs) = E) (h1 : madeB lowB l.data.toList 2 3 = true) (hS : s.data.toList.isEmpty = false) (hS2 : scriptB s.data.toList = true) (hR : r.data.toList.isEmpty = true) :
    Calls Tryz.prog 86 #[tagV l s r A vs.length c] w fun e w' => e = .returned (errOf (tailErr E vs.length)) ∧ Below w.heap.size w w' := by
  have HX := Lib.hid hX
  have HZ := Lib.hid hz
  have HE : Hid (varErr (listsOf (vs.take 0)) (listsOf (vs.drop 0)) = E) := Lib.hid hE
  clear hX hz hE
  have KL := Lib.hid (fun W => made_low l 2 3 W hl (by omega) (by omega))
  have KS := Lib.hid (fun W => tag_script s W hs)
  have KR := Lib.hid (fun W => tag_region r W hr)
  have K1 := Lib.hid (fun W => by have := KL.out W; rw [h1] at this; exact this)
  have K2 := Lib.hid (fun W => by have := KS.out W; rw [hS2] at this; exact this)
  have s1 : ¬ s.toList = [] := by rw [Lib.toList_data]; intro hq; rw [hq] at hS; cases hS
  have s2 : s.toList.isEmpty = false := by cases hq : s.toList with | nil => exact absurd hq s1 | cons x xl => rfl
  have r1 : r.toList = [] := by rw [Lib.toList_data]; exact List.isEmpty_iff.1 hR
  clear KL KS KR h1 hS hS2 hR
  go_enter Tryz.func86, Tryz.ntmps86
  go_wp2_with fail
  refine (K1.out _).mono ?_
  rintro e w1 ⟨rfl, rfl⟩
  go_wp2_with fail
  refine (K2.out _).mono ?_
  rintro e w1 ⟨rfl, rfl⟩
  go_wp2_with fail
  go_loop [35] (fun i => ∃ k : Nat, k ≤ vs.length ∧ i = .int .i64 k ∧ Hid (varErr (listsOf (vs.take k)) (listsOf (vs.drop k)) = E)) (fun i => vs.length - (intOf i).toNat)
  case atStart => exact ⟨0, Nat.zero_le _, rfl, HE⟩
  case round =>
    obtain ⟨k, hk, rfl, HV⟩ := hrel
    by_cases hlt : k < vs.length
    · obtain ⟨bk, o, rfl, hc⟩ : ∃ bk o, A = some ⟨bk, o, none⟩ ∧ ∀ (j : Nat) x, vs[j]? = some x → w.cell? ⟨bk, o + j, none⟩ = some (.string x) := by
        rcases HX.out with h | h
        · rw [h] at hlt; simp at hlt
        · exact h
      obtain ⟨v, hv⟩ : ∃ v, vs[k]? = some v := ⟨vs[k], List.getElem?_eq_getElem hlt⟩
      have hcv := hc k v hv
      have hst := varErr_step vs k v hv
      rw [HV.out] at hst
      have hbl := lt_of_cell hcv
      have i0 : (0 : Int) ≤ (k : Int) := by omega
      have i1 : (k : Int) < (vs.length : Int) := by omega
      have i2 : (k : Int) ≤ (c : Int) := by omega
      have KM := Lib.hid (fun W => made_both v 5 8 W (HZ.out v (List.mem_of_getElem? hv)) (by omega) (by omega))
      have KC := Lib.hid (fun (W : World) (h : StrsIn W (some ⟨bk, o, none⟩) vs) => contains_strs (some ⟨bk, o, none⟩) c k vs v W h hk hn)
      cases hm : madeB bothB v.data.toList 5 8
      · have K4 := Lib.hid (fun W => by have := KM.out W; rw [hm] at this; exact this)
        rw [if_pos hm] at hst
        have HF := Lib.hid hst
        clear hst hm KM KC hc hv
        go_wp2_with fail
        refine (K4.out _).mono ?_
        rintro e w1 ⟨rfl, rfl⟩
        go_wp2_with fail
        go_ret
        exact ⟨by (rw [HF.out, errTail_no 3 _ (by decide)]; first | done | rfl), (Below.refl _ _).alloc (Nat.le_refl _) _⟩
      · have K4 := Lib.hid (fun W => by have := KM.out W; rw [hm] at this; exact this)
        rw [if_neg (by rw [hm]; decide)] at hst
        cases hcn : (listsOf (vs.take k)).contains v.data.toList
        · have K5 := Lib.hid (fun W h => by have := KC.out W h; rw [hcn] at this; exact this)
          rw [if_neg (by rw [hcn]; decide)] at hst
          have HF := Lib.hid hst
          clear hst hm hcn KM KC hc hv
          go_wp2_with fail
          refine (K4.out _).mono ?_
          rintro e w1 ⟨rfl, rfl⟩
          go_wp2_with fail
          refine (K5.out _ (HX.out.alloc _)).mono ?_
          rintro e w1 ⟨rfl, rfl⟩
          go_wp2_with fail
          go_round
          case rel => exact ⟨k + 1, by omega, by go_num, Lib.hid HF.out.symm⟩
          case measure => simp [intOf]; omega
        · have K5 := Lib.hid (fun W h => by have := KC.out W h; rw [hcn] at this; exact this)
          rw [if_pos hcn] at hst
          have HF := Lib.hid hst
          clear hst hm hcn KM KC hc hv
          go_wp2_with fail
          refine (K4.out _).mono ?_
          rintro e w1 ⟨rfl, rfl⟩
          go_wp2_with fail
          refine (K5.out _ (HX.out.alloc _)).mono ?_
          rintro e w1 ⟨rfl, rfl⟩
          go_wp2_with fail
          go_ret
          exact ⟨by (rw [HF.out, errTail_no 5 _ (by decide)]; first | done | rfl), (Below.refl _ _).alloc (Nat.le_refl _) _⟩
    · have h0 : E = 0 := by
        have := HV.out
        rw [List.drop_of_length_le (by omega)] at this
        exact this.symm
      have H0 := Lib.hid h0
      clear h0
      by_cases h3 : (3 : Int) < (vs.length : Int)
      · have H3 := Lib.hid h3
        go_wp2_with fail
        go_ret
        exact ⟨by (rw [H0.out, errTail_full _ (by have := H3.out; omega)]; first | done | rfl), (Below.refl _ _).alloc (Nat.le_refl _) _⟩
      · have H3 := Lib.hid h3
        go_wp2_with fail
        go_ret
        exact ⟨by (rw [H0.out, errTail_ok _ (by have := H3.out; omega)]; first | done | rfl), (Below.refl _ _).alloc (Nat.le_refl _) _⟩

set_option maxHeartbeats 2000000 in
theorem tag_check_tt (l s r : ByteArray) (A : Option Addr) (c : Nat) (vs : List ByteArray) (w : World) (hl : l.size ≤ 9223372036854775807) (hs : s.size ≤ 9223372036854775807) (hr : r.size ≤ 9223372036854775807) (hX : StrsIn w A vs) (hn : vs.length ≤ 9223372036854775807) (hcap : vs.length ≤ c) (hz : ∀ v ∈ vs, v.size ≤ 9223372036854775807) (E : Int) (hE : varErr [] (listsOf vs) = E) (h1 : madeB lowB l.data.toList 2 3 = true) (hS : s.data.toList.isEmpty = false) (hS2 : scriptB s.data.toList = true) (hR : r.data.toList.isEmpty = false) (hR2 : regionB r.data.toList = true) :
    Calls Tryz.prog 86 #[tagV l s r A vs.length c] w fun e w' => e = .returned (errOf (tailErr E vs.length)) ∧ Below w.heap.size w w' := by
  have HX := Lib.hid hX
  have HZ := Lib.hid hz
  have HE : Hid (varErr (listsOf (vs.take 0)) (listsOf (vs.drop 0)) = E) := Lib.hid hE
  clear hX hz hE
  have KL := Lib.hid (fun W => made_low l 2 3 W hl (by omega) (by omega))
  have KS := Lib.hid (fun W => tag_script s W hs)
  have KR := Lib.hid (fun W => tag_region r W hr)
  have K1 := Lib.hid (fun W => by have := KL.out W; rw [h1] at this; exact this)
  have K2 := Lib.hid (fun W => by have := KS.out W; rw [hS2] at this; exact this)
  have K3 := Lib.hid (fun W => by have := KR.out W; rw [hR2] at this; exact this)
  have s1 : ¬ s.toList = [] := by rw [Lib.toList_data]; intro hq; rw [hq] at hS; cases hS
  have s2 : s.toList.isEmpty = false := by cases hq : s.toList with | nil => exact absurd hq s1 | cons x xl => rfl
  have r1 : ¬ r.toList = [] := by rw [Lib.toList_data]; intro hq; rw [hq] at hR; cases hR
  have r2 : r.toList.isEmpty = false := by cases hq : r.toList with | nil => exact absurd hq r1 | cons x xl => rfl
  clear KL KS KR h1 hS hS2 hR hR2
  go_enter Tryz.func86, Tryz.ntmps86
  go_wp2_with fail
  refine (K1.out _).mono ?_
  rintro e w1 ⟨rfl, rfl⟩
  go_wp2_with fail
  refine (K2.out _).mono ?_
  rintro e w1 ⟨rfl, rfl⟩
  go_wp2_with fail
  refine (K3.out _).mono ?_
  rintro e w1 ⟨rfl, rfl⟩
  go_wp2_with fail
  go_loop [35] (fun i => ∃ k : Nat, k ≤ vs.length ∧ i = .int .i64 k ∧ Hid (varErr (listsOf (vs.take k)) (listsOf (vs.drop k)) = E)) (fun i => vs.length - (intOf i).toNat)
  case atStart => exact ⟨0, Nat.zero_le _, rfl, HE⟩
  case round =>
    obtain ⟨k, hk, rfl, HV⟩ := hrel
    by_cases hlt : k < vs.length
    · obtain ⟨bk, o, rfl, hc⟩ : ∃ bk o, A = some ⟨bk, o, none⟩ ∧ ∀ (j : Nat) x, vs[j]? = some x → w.cell? ⟨bk, o + j, none⟩ = some (.string x) := by
        rcases HX.out with h | h
        · rw [h] at hlt; simp at hlt
        · exact h
      obtain ⟨v, hv⟩ : ∃ v, vs[k]? = some v := ⟨vs[k], List.getElem?_eq_getElem hlt⟩
      have hcv := hc k v hv
      have hst := varErr_step vs k v hv
      rw [HV.out] at hst
      have hbl := lt_of_cell hcv
      have i0 : (0 : Int) ≤ (k : Int) := by omega
      have i1 : (k : Int) < (vs.length : Int) := by omega
      have i2 : (k : Int) ≤ (c : Int) := by omega
      have KM := Lib.hid (fun W => made_both v 5 8 W (HZ.out v (List.mem_of_getElem? hv)) (by omega) (by omega))
      have KC := Lib.hid (fun (W : World) (h : StrsIn W (some ⟨bk, o, none⟩) vs) => contains_strs (some ⟨bk, o, none⟩) c k vs v W h hk hn)
      cases hm : madeB bothB v.data.toList 5 8
      · have K4 := Lib.hid (fun W => by have := KM.out W; rw [hm] at this; exact this)
        rw [if_pos hm] at hst
        have HF := Lib.hid hst
        clear hst hm KM KC hc hv
        go_wp2_with fail
        refine (K4.out _).mono ?_
        rintro e w1 ⟨rfl, rfl⟩
        go_wp2_with fail
        go_ret
        exact ⟨by (rw [HF.out, errTail_no 3 _ (by decide)]; first | done | rfl), (Below.refl _ _).alloc (Nat.le_refl _) _⟩
      · have K4 := Lib.hid (fun W => by have := KM.out W; rw [hm] at this; exact this)
        rw [if_neg (by rw [hm]; decide)] at hst
        cases hcn : (listsOf (vs.take k)).contains v.data.toList
        · have K5 := Lib.hid (fun W h => by have := KC.out W h; rw [hcn] at this; exact this)
          rw [if_neg (by rw [hcn]; decide)] at hst
          have HF := Lib.hid hst
          clear hst hm hcn KM KC hc hv
          go_wp2_with fail
          refine (K4.out _).mono ?_
          rintro e w1 ⟨rfl, rfl⟩
          go_wp2_with fail
          refine (K5.out _ (HX.out.alloc _)).mono ?_
          rintro e w1 ⟨rfl, rfl⟩
          go_wp2_with fail
          go_round
          case rel => exact ⟨k + 1, by omega, by go_num, Lib.hid HF.out.symm⟩
          case measure => simp [intOf]; omega
        · have K5 := Lib.hid (fun W h => by have := KC.out W h; rw [hcn] at this; exact this)
          rw [if_pos hcn] at hst
          have HF := Lib.hid hst
          clear hst hm hcn KM KC hc hv
          go_wp2_with fail
          refine (K4.out _).mono ?_
          rintro e w1 ⟨rfl, rfl⟩
          go_wp2_with fail
          refine (K5.out _ (HX.out.alloc _)).mono ?_
          rintro e w1 ⟨rfl, rfl⟩
          go_wp2_with fail
          go_ret
          exact ⟨by (rw [HF.out, errTail_no 5 _ (by decide)]; first | done | rfl), (Below.refl _ _).alloc (Nat.le_refl _) _⟩
    · have h0 : E = 0 := by
        have := HV.out
        rw [List.drop_of_length_le (by omega)] at this
        exact this.symm
      have H0 := Lib.hid h0
      clear h0
      by_cases h3 : (3 : Int) < (vs.length : Int)
      · have H3 := Lib.hid h3
        go_wp2_with fail
        go_ret
        exact ⟨by (rw [H0.out, errTail_full _ (by have := H3.out; omega)]; first | done | rfl), (Below.refl _ _).alloc (Nat.le_refl _) _⟩
      · have H3 := Lib.hid h3
        go_wp2_with fail
        go_ret
        exact ⟨by (rw [H0.out, errTail_ok _ (by have := H3.out; omega)]; first | done | rfl), (Below.refl _ _).alloc (Nat.le_refl _) _⟩

theorem tag_check (l s r : ByteArray) (A : Option Addr) (c : Nat) (vs : List ByteArray) (w : World) (hl : l.size ≤ 9223372036854775807) (hs : s.size ≤ 9223372036854775807) (hr : r.size ≤ 9223372036854775807) (hX : StrsIn w A vs) (hn : vs.length ≤ 9223372036854775807) (hcap : vs.length ≤ c) (hz : ∀ v ∈ vs, v.size ≤ 9223372036854775807) :
    Calls Tryz.prog 86 #[tagV l s r A vs.length c] w fun e w' => e = .returned (errOf (tagErr l.data.toList s.data.toList r.data.toList (listsOf vs))) ∧ Below w.heap.size w w' := by
  have hlen : (listsOf vs).length = vs.length := List.length_map ..
  have e3 : errT 3 = errOf 3 := rfl
  unfold tagErr headB
  rw [hlen]
  cases h1 : madeB lowB l.data.toList 2 3
  · exact tag_check_l l s r A c vs w hl hs hr h1
  · have bad : ∀ b : Bool, b = false → Calls Tryz.prog 86 #[tagV l s r A vs.length c] w (fun e w' => e = .returned (errT 3) ∧ Below w.heap.size w w') → Calls Tryz.prog 86 #[tagV l s r A vs.length c] w (fun e w' => e = .returned (errOf (if (true && b) = false then 3 else if varErr [] (listsOf vs) = 0 then if 3 < vs.length then 4 else 0 else varErr [] (listsOf vs))) ∧ Below w.heap.size w w') := by
      intro b hb h
      subst hb
      exact h
    have ok : ∀ b : Bool, b = true → Calls Tryz.prog 86 #[tagV l s r A vs.length c] w (fun e w' => e = .returned (errOf (tailErr (varErr [] (listsOf vs)) vs.length)) ∧ Below w.heap.size w w') → Calls Tryz.prog 86 #[tagV l s r A vs.length c] w (fun e w' => e = .returned (errOf (if (true && b) = false then 3 else if varErr [] (listsOf vs) = 0 then if 3 < vs.length then 4 else 0 else varErr [] (listsOf vs))) ∧ Below w.heap.size w w') := by
      intro b hb h
      subst hb
      exact h
    cases hS : s.data.toList.isEmpty
    · cases hS2 : scriptB s.data.toList
      · exact bad _ rfl (tag_check_f l s r A c vs w hl hs hr h1 hS hS2)
      · cases hR : r.data.toList.isEmpty
        · cases hR2 : regionB r.data.toList
          · exact bad _ rfl (tag_check_tf l s r A c vs w hl hs hr h1 hS hS2 hR hR2)
          · exact ok _ rfl (tag_check_tt l s r A c vs w hl hs hr hX hn hcap hz _ rfl h1 hS hS2 hR hR2)
        · exact ok _ rfl (tag_check_te l s r A c vs w hl hs hr hX hn hcap hz _ rfl h1 hS hS2 hR)
    · cases hR : r.data.toList.isEmpty
      · cases hR2 : regionB r.data.toList
        · exact bad _ rfl (tag_check_ef l s r A c vs w hl hs hr h1 hS hR hR2)
        · exact ok _ rfl (tag_check_et l s r A c vs w hl hs hr hX hn hcap hz _ rfl h1 hS hR hR2)
      · exact ok _ rfl (tag_check_ee l s r A c vs w hl hs hr hX hn hcap hz _ rfl h1 hS hR)
end Go.Proofs.YtnhlnhmjnnopaaaGreatDoor
