/- Twice: texts put together. -/
import Derived.Test.YtplaohmdllindaaGreatDoorQn3
import Derived.Test.YtplaohmdllindaaGreatDoorQn1
set_option linter.unusedVariables false
set_option linter.unusedSimpArgs false
/- slices.ContainsFunc at bundles, by the closure of find.In: is a tag there already? -/
namespace Go.Proofs.YtplaohmdllindaaGreatDoor
open Go.RowKit

theorem same_tag1 (x : BunC) (A : Option Addr) (n c bb : Nat) (t : ByteArray) (w : World) (hb : w.cell? ⟨bb, 0, none⟩ = some (.string t)) :
    Calls Tryz.prog 104 #[.agg #[.string x.tag, .slice A n c], .pointer (some ⟨bb, 0, none⟩)] w fun e w' => e = .returned (.bool (x.tag.toList == t.toList)) ∧ Below w.heap.size w w' := by
  have hlt := lt_of_cell hb
  generalize x.tag = u
  cases hq : (u.toList == t.toList)
  · go_enter Tryz.func104, Tryz.ntmps104
    go_wp2_with fail
    go_ret
    exact ⟨rfl, belx⟩
  · have hq2 : u.toList = t.toList := by simpa using hq
    go_enter Tryz.func104, Tryz.ntmps104
    go_wp2_with fail
    go_ret
    exact ⟨rfl, belx⟩
def tagAt (l : List BunC) (t : ByteArray) : Int := match l.findIdx? (fun b => b.tag.toList == t.toList) with
  | some i => i
  | none => -1
theorem tagAt_mem (l : List BunC) (t : ByteArray) : decide (0 ≤ tagAt l t) = memB (l.map (·.tag)) t := by
  unfold tagAt
  cases h : l.findIdx? (fun b => b.tag.toList == t.toList) with
  | none =>
    rw [List.findIdx?_eq_none_iff] at h
    rw [memB_not]
    · rfl
    · intro hm
      obtain ⟨b, hb, e⟩ := List.mem_map.1 hm
      have := h b hb
      rw [e] at this
      simp at this
  | some i =>
    obtain ⟨hi, h2, _⟩ := List.findIdx?_eq_some_iff_getElem.1 h
    have : memB (l.map (·.tag)) t = true := memB_iff.2 (List.mem_map.2 ⟨l[i], List.getElem_mem hi, by
      have := eq_of_beq h2
      rw [Lib.toList_data, Lib.toList_data] at this
      exact ByteArray.ext (Array.ext' this)⟩)
    rw [this]
    exact decide_eq_true (Int.natCast_nonneg i)
set_option maxHeartbeats 2000000 in
theorem index_tag (A : Option Addr) (n c bb : Nat) (l : List BunC) (t : ByteArray) (w : World) (hL : BunsIn w A l) (hn : n ≤ l.length) (hc : n ≤ c) (hc2 : c ≤ 9223372036854775807) (hb : w.cell? ⟨bb, 0, none⟩ = some (.string t)) :
    Calls Tryz.prog 161 #[.slice A n c, .func (.func 104) #[] #[.pointer (some ⟨bb, 0, none⟩)]] w fun e w' => e = .returned (.int .i64 (tagAt (l.take n) t)) ∧ Below w.heap.size w w' := by
  have HL := Lib.hid hL
  have HT := Lib.hid hb
  clear hL hb
  obtain ⟨R, hR⟩ : ∃ R, R = tagAt (l.take n) t := ⟨_, rfl⟩
  rw [← hR]
  have HR := Lib.hid hR
  clear hR
  go_enter Tryz.func161, Tryz.ntmps161
  go_wp2_with fail
  go_loopw [8] (fun i wr => ∃ k : Nat, k ≤ n ∧ i = .int .i64 k ∧ Hid (∀ y ∈ l.take k, (y.tag.toList == t.toList) = false) ∧ Hid (Below w.heap.size w wr)) (fun i _ => n - (intOf i).toNat)
  case atStart => exact ⟨0, Nat.zero_le _, rfl, Lib.hid (by simp), Lib.hid (Below.refl _ _)⟩
  case round =>
    obtain ⟨k, hk, rfl, HF, HB⟩ := hrel
    by_cases hlt : k < n
    · obtain ⟨b, o, rfl, hat⟩ := (HL.out.below HB.out).at (by omega)
      obtain ⟨x, hx⟩ : ∃ x, l[k]? = some x := ⟨l[k], List.getElem?_eq_getElem (by omega)⟩
      obtain ⟨B, d, n0, n1, _⟩ := hat k x hx
      have i0 : (0 : Int) ≤ (k : Int) := by omega
      have i1 : (k : Int) < (n : Int) := by omega
      have i2 : (k : Int) ≤ (c : Int) := by omega
      have e1 : IntKind.i64.wrap ((k : Int) + 1) = (k : Int) + 1 := IntWalk.i64_in _ (by omega)
      have HX := Lib.hid hx
      have K := Lib.hid (same_tag1 x B x.es.length d bb t wr (carry HB.out HT.out))
      clear hat hx
      cases hq : (x.tag.toList == t.toList)
      · have HF2 : Hid (∀ y ∈ l.take (k + 1), (y.tag.toList == t.toList) = false) := Lib.hid fun y hy => by
          rw [List.take_add_one, HX.out, Option.toList_some, List.mem_append, List.mem_singleton] at hy
          rcases hy with hy | rfl
          · exact HF.out y hy
          · exact hq
        rw [hq] at K
        go_wp2_with fail
        refine K.out.mono ?_
        rintro e w1 ⟨rfl, hb1⟩
        have HB1 := Lib.hid (HB.out.trans (hb1.mono HB.out.size))
        clear hb1
        go_wp2_with fail
        go_roundw
        case rel => exact ⟨k + 1, by omega, by go_num, HF2, HB1⟩
        case measure => simp [intOf]; omega
      · have HD : Hid (R = (k : Int)) := Lib.hid (by
          rw [HR.out]
          unfold tagAt
          have hfi : (l.take n).findIdx? (fun b => b.tag.toList == t.toList) = some k := List.findIdx?_eq_some_iff_getElem.2 ⟨by rw [List.length_take]; omega, by
            have h0 := (List.getElem?_eq_some_iff.1 HX.out)
            rw [List.getElem_take, h0.2]
            exact hq, fun j hj => by
            have h0 := HF.out (l[j]'(by omega)) (List.mem_take_iff_getElem.2 ⟨j, by omega, rfl⟩)
            rw [List.getElem_take, h0]
            decide⟩
          rw [hfi])
        rw [hq] at K
        go_wp2_with fail
        refine K.out.mono ?_
        rintro e w1 ⟨rfl, hb1⟩
        have HB1 := Lib.hid (HB.out.trans (hb1.mono HB.out.size))
        clear hb1
        go_wp2_with fail
        go_ret
        refine ⟨?_, HB1.out⟩
        rw [HD.out]
        rfl
    · obtain rfl : k = n := by omega
      have HD : Hid (R = -1) := Lib.hid (by
        rw [HR.out]
        unfold tagAt
        rw [List.findIdx?_eq_none_iff.2 HF.out])
      go_wp2_with fail
      go_ret
      refine ⟨?_, HB.out⟩
      rw [HD.out]
      rfl
theorem has_tag (A : Option Addr) (n c bb : Nat) (l : List BunC) (t : ByteArray) (w : World) (hL : BunsIn w A l) (hn : n ≤ l.length) (hc : n ≤ c) (hc2 : c ≤ 9223372036854775807) (hb : w.cell? ⟨bb, 0, none⟩ = some (.string t)) :
    Calls Tryz.prog 103 #[.slice A n c, .func (.func 104) #[] #[.pointer (some ⟨bb, 0, none⟩)]] w fun e w' => e = .returned (.bool (memB ((l.take n).map (·.tag)) t)) ∧ Below w.heap.size w w' := by
  have K := Lib.hid (index_tag A n c bb l t w hL hn hc hc2 hb)
  rw [← tagAt_mem]
  clear hL hb
  generalize tagAt (l.take n) t = i at *
  go_enter Tryz.func103, Tryz.ntmps103
  go_wp2_with fail
  refine K.out.mono ?_
  rintro e w1 ⟨rfl, hb1⟩
  go_wp2_with fail
  go_ret
  exact ⟨rfl, hb1⟩
end Go.Proofs.YtplaohmdllindaaGreatDoor
