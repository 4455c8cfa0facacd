/- PropCheck: texts put together. -/
import Derived.Test.YtnhlnhmjnnopaaaGreatDoorPp2
import Derived.Test.YtnhlnhmjnnopaaaGreatDoorPp18
set_option linter.unusedVariables false
set_option linter.unusedSimpArgs false
/- prop.Check. -/
namespace Go.Proofs.YtnhlnhmjnnopaaaGreatDoor
open Go.RowKit Go.Maps

def seenH (l : List EntC) : HL := l.map fun e => (e.key.data.toList, Value.agg #[])
theorem seenH_some {l : List EntC} {s : ByteArray} (h : memB (l.map (·.key)) s = true) : hlook (seenH l) s.data.toList = some (.agg #[]) := by
  obtain ⟨e, he, rfl⟩ := List.mem_map.1 (memB_iff.1 h)
  unfold hlook seenH
  cases hq : (l.map fun e => (e.key.data.toList, Value.agg #[])).find? (fun p => decide (p.1 = e.key.data.toList)) with
  | none =>
    rw [List.find?_eq_none] at hq
    exact absurd (decide_eq_true rfl) (hq _ (List.mem_map_of_mem (f := fun e : EntC => (e.key.data.toList, Value.agg #[])) he))
  | some p =>
    have hm := List.mem_of_find?_eq_some hq
    obtain ⟨y, _, rfl⟩ := List.mem_map.1 hm
    rfl
theorem seenH_none {l : List EntC} {s : ByteArray} (h : memB (l.map (·.key)) s = false) : hlook (seenH l) s.data.toList = none := by
  rw [hlook_none_iff]
  intro hm
  unfold seenH at hm
  rw [List.map_map] at hm
  obtain ⟨y, hy, e⟩ := List.mem_map.1 hm
  have : memB (l.map (·.key)) s = true := memB_iff.2 (List.mem_map.2 ⟨y, hy, ByteArray.ext (Array.ext' e)⟩)
  rw [h] at this
  cases this
theorem seenH_keys (l : List EntC) : (seenH l).map (·.1) = (l.map (·.key)).map (·.data.toList) := by unfold seenH; rw [List.map_map, List.map_map]; rfl
theorem nodup_lists {l : List ByteArray} (h : l.Nodup) : (l.map (·.data.toList)).Nodup :=
  List.Pairwise.map _ (fun a b hab e => hab (ByteArray.ext (Array.ext' e))) h
theorem zero_unit (w : World) : (zeroValue 71).run Tryz.prog w = .ok (.agg #[]) w := by kernel_rfl
theorem errOf_errT {k : Int} (h : k ≠ 0) : errOf k = errT k := if_neg h

set_option maxHeartbeats 8000000 in
set_option maxRecDepth 100000 in
theorem prop_check (b : BunC) (A : Option Addr) (c : Nat) (w : World) (hM : MaxL w) (hF : BunFine w b A c) (hs : b.small) :
    Calls Tryz.prog 9 #[bunV b A c] w fun e w' => e = .returned (errOf b.err) ∧ Below w.heap.size w w' := by
  obtain ⟨tg, es⟩ := b
  obtain ⟨hE, hc, hc2, _⟩ := hF
  obtain ⟨z1, z2, z3⟩ := hs
  simp only at hE hc z1 z2 z3
  have KT := Lib.hid (fun W (hb : Below w.heap.size w W) => prop_tag tg W (hM.below hb) (by omega))
  have HE := Lib.hid hE
  have HZ := Lib.hid z3
  have hmm := @run_makeMap Tryz.prog
  obtain ⟨R, hR⟩ : ∃ R, R = errOf (BunC.mk tg es).err := ⟨_, rfl⟩
  rw [← hR]
  unfold BunC.err at hR
  clear hE hM z3
  simp only at hR
  unfold bunV
  simp only
  have hb0 : Below w.heap.size w (w.alloc (.cells #[.string tg, .slice A es.length c] 24)) := (by (repeat (first | with_reducible exact Below.refl _ _ | with_reducible refine bel_set ?_ ?_ | with_reducible refine bel_alloc ?_ ?_ | with_reducible refine Below.drew ?_ | with_reducible refine bel_drewN _ ?_ | with_reducible refine bel_call ?_ (by assumption) ?_)); all_goals (first | (simp; done) | omega | (simp; omega)))
  have HB0 := Lib.hid hb0
  clear hb0
  go_enter Tryz.func9, Tryz.ntmps9
  cases hT : ownTag tg.data.toList
  · rw [hT, if_pos rfl] at hR
    rw [hT] at KT
    subst hR
    go_wp2_with fail
    refine (KT.out _ HB0.out).mono ?_
    rintro e w1 ⟨rfl, hb1⟩
    have HB1 := Lib.hid (HB0.out.trans (hb1.mono HB0.out.size))
    clear hb1
    go_wp2_with fail
    go_ret
    exact ⟨rfl, HB1.out⟩
  · rw [hT, if_neg (by decide)] at hR
    rw [hT] at KT
    by_cases h100 : 100 < es.length
    · rw [if_pos h100] at hR
      subst hR
      have i100 : (100 : Int) < (es.length : Int) := by omega
      go_wp2_with fail
      refine (KT.out _ HB0.out).mono ?_
      rintro e w1 ⟨rfl, hb1⟩
      have c1 : w1.cell? ⟨w.heap.size, 1, none⟩ = some (.slice A es.length c) := carry hb1 (by go_simp)
      have HB1 := Lib.hid (HB0.out.trans (hb1.mono HB0.out.size))
      clear hb1
      go_wp2_with fail
      go_ret
      exact ⟨rfl, HB1.out⟩
    · rw [if_neg h100] at hR
      have HR := Lib.hid hR
      have i100 : ¬ (100 : Int) < (es.length : Int) := by omega
      clear hR
      go_wp2_with fail
      refine (KT.out _ HB0.out).mono ?_
      rintro e w1 ⟨rfl, hb1⟩
      have c1 : w1.cell? ⟨w.heap.size, 1, none⟩ = some (.slice A es.length c) := carry hb1 (by go_simp)
      have HB1 := Lib.hid (HB0.out.trans (hb1.mono HB0.out.size))
      clear hb1
      have q1 := lt_of_cell c1
      go_wp2_with fail
      have hmp := hm_made w1
      have hb2 : Below w1.heap.size w1 (w1.alloc (.map #[] 0)) := (by (repeat (first | with_reducible exact Below.refl _ _ | with_reducible refine bel_set ?_ ?_ | with_reducible refine bel_alloc ?_ ?_ | with_reducible refine Below.drew ?_ | with_reducible refine bel_drewN _ ?_ | with_reducible refine bel_call ?_ (by assumption) ?_)); all_goals (first | (simp; done) | omega | (simp; omega)))
      have HB2 := Lib.hid (HB1.out.trans (hb2.mono HB1.out.size))
      clear hb2
      go_loopw [22] (fun i wr => ∃ k : Nat, k ≤ es.length ∧ i = .int .i64 k ∧ Hid (entErr [] es = entErr ((es.take k).map (·.key)) (es.drop k)) ∧ Hid (HMap wr w1.heap.size k (seenH (es.take k))) ∧ Hid (((es.take k).map (·.key)).Nodup) ∧ Hid (Below w.heap.size w wr)) (fun i _ => es.length - (intOf i).toNat)
      case atStart => exact ⟨0, Nat.zero_le _, rfl, Lib.hid rfl, Lib.hid hmp, Lib.hid List.nodup_nil, HB2⟩
      case round =>
        obtain ⟨k, hk, rfl, HX, HMk, HNk, HBk⟩ := hrel
        have sk := HBk.out.size
        by_cases hlt : k < es.length
        · obtain ⟨bE, oE, rfl, hat⟩ := (HE.out.below HBk.out).at (by omega)
          obtain ⟨x, hx⟩ : ∃ x, es[k]? = some x := ⟨es[k], List.getElem?_eq_getElem hlt⟩
          obtain ⟨n0, n1⟩ := hat k x hx
          obtain ⟨xz1, xz2⟩ := HZ.out x (List.mem_of_getElem? hx)
          have hst := entErr_step es k x hx
          have HX2 := Lib.hid (HX.out.trans hst)
          have hkeys : (es.take (k + 1)).map (·.key) = (es.take k).map (·.key) ++ [x.key] := by rw [List.take_add_one, hx, List.map_append]; rfl
          have hseen : seenH (es.take (k + 1)) = seenH (es.take k) ++ [(x.key.data.toList, Value.agg #[])] := by unfold seenH; rw [List.take_add_one, hx, List.map_append]; rfl
          have i0 : (0 : Int) ≤ (k : Int) := by omega
          have i1 : (k : Int) < (es.length : Int) := by omega
          have i2 : (k : Int) ≤ (c : Int) := by omega
          have e1 : IntKind.i64.wrap ((k : Int) + 1) = (k : Int) + 1 := IntWalk.i64_in _ (by omega)
          have KK := Lib.hid (fun W => prop_key x.key W (by omega))
          have hbS : Below wr.heap.size wr (wr.alloc (.cells #[.string x.key, .string x.text] 50)) := (by (repeat (first | with_reducible exact Below.refl _ _ | with_reducible refine bel_set ?_ ?_ | with_reducible refine bel_alloc ?_ ?_ | with_reducible refine Below.drew ?_ | with_reducible refine bel_drewN _ ?_ | with_reducible refine bel_call ?_ (by assumption) ?_)); all_goals (first | (simp; done) | omega | (simp; omega)))
          have HBS := Lib.hid hbS
          have HKY := Lib.hid hkeys
          have HSN := Lib.hid hseen
          have hblt : w1.heap.size < wr.heap.size := (HMk.out.lt)
          clear hat hx hst HX hbS hkeys hseen
          cases hq : keyOk x.key
          · have HD : Hid (R = errT 3) := Lib.hid (by rw [HR.out, HX2.out, if_pos hq]; rfl)
            rw [hq] at KK
            clear hq
            go_wp2_with fail
            refine (KK.out _).mono ?_
            rintro e w2 ⟨rfl, hb2⟩
            have HB3 := Lib.hid ((HBk.out.trans (HBS.out.mono sk)).trans (hb2.mono (by simp; omega)))
            clear hb2
            go_wp2_with fail
            go_ret
            exact ⟨by rw [HD.out]; rfl, HB3.out⟩
          · rw [hq] at KK
            have HX3 : Hid (entErr [] es = if memB ((es.take k).map (·.key)) x.key = true then 5 else if 2000 < x.text.size then 4 else entErr ((es.take (k + 1)).map (·.key)) (es.drop (k + 1))) := Lib.hid (by rw [HX2.out, hq]; simp)
            clear hq HX2
            cases hm : memB ((es.take k).map (·.key)) x.key
            · have HX4 : Hid (entErr [] es = if 2000 < x.text.size then 4 else entErr ((es.take (k + 1)).map (·.key)) (es.drop (k + 1))) := Lib.hid (by rw [HX3.out, hm]; simp)
              have HN2 : Hid (((es.take (k + 1)).map (·.key)).Nodup) := Lib.hid (by
                rw [HKY.out, List.nodup_append]
                refine ⟨HNk.out, by simp, fun a ha b hb e => ?_⟩
                rw [List.mem_singleton.1 hb] at e
                rw [e] at ha
                rw [memB_iff.2 ha] at hm
                cases hm)
              have HLK := Lib.hid (seenH_none hm)
              clear hm HX3 HNk
              go_wp2_with fail
              refine (KK.out _).mono ?_
              rintro e w2 ⟨rfl, hb2⟩
              have HM2 := HMk.out.below ((HBS.out).trans (hb2.mono (by simp)))
              have hlk := hm_none HM2 Tryz.underlying70 (zero_unit w2) (by unfold maxLen; omega) HLK.out
              have x0 : w2.cell? ⟨wr.heap.size, 0, none⟩ = some (.string x.key) := carry hb2 (by go_simp)
              have x1 : w2.cell? ⟨wr.heap.size, 1, none⟩ = some (.string x.text) := carry hb2 (by go_simp)
              have HB3 := Lib.hid ((HBk.out.trans (HBS.out.mono sk)).trans (hb2.mono (by simp; omega)))
              obtain ⟨W5, hput, hOW, hFW⟩ := hm_put (s := x.key) (HM2.below ((Below.refl _ _).alloc (Nat.le_refl _) (.cells #[] 71))) Tryz.underlying70 (by unfold maxLen; omega) (by unfold maxLen; omega) (.agg #[])
              have xl := lt_of_cell x0
              have y1 : W5.cell? ⟨wr.heap.size, 1, none⟩ = some (.string x.text) := hFW.cell (by go_simp) (by simp; omega)
              have HM3 : Hid (HMap W5 w1.heap.size (k + 1) (seenH (es.take (k + 1)))) := Lib.hid (by rw [HSN.out]; exact hOW)
              have HB4 : Hid (Below w.heap.size w W5) := Lib.hid ((HB3.out.alloc (by have := HB3.out.size; omega) _).trans (hFW.toBelow (fun j hj => by simp only [List.mem_singleton] at hj; have := HB1.out.size; omega) (by have := HB3.out.size; simp; omega)))
              clear hb2 HM2 hOW hFW HMk HLK HBk
              by_cases h2 : 2000 < x.text.size
              · have HD : Hid (R = errT 4) := Lib.hid (by rw [HR.out, HX4.out, if_pos h2]; rfl)
                have j2 : (2000 : Int) < (x.text.size : Int) := by omega
                clear h2
                go_wp2_with fail
                go_ret
                exact ⟨by rw [HD.out]; rfl, HB4.out⟩
              · have HX5 : Hid (entErr [] es = entErr ((es.take (k + 1)).map (·.key)) (es.drop (k + 1))) := Lib.hid (by rw [HX4.out, if_neg h2])
                have j2 : ¬ (2000 : Int) < (x.text.size : Int) := by omega
                clear h2
                go_wp2_with fail
                go_roundw
                case rel => exact ⟨k + 1, by omega, by go_num, HX5, HM3, HN2, HB4⟩
                case measure => simp [intOf]; omega
            · have HD : Hid (R = errT 5) := Lib.hid (by rw [HR.out, HX3.out, if_pos hm]; rfl)
              have HLK := Lib.hid (seenH_some hm)
              clear hm
              go_wp2_with fail
              refine (KK.out _).mono ?_
              rintro e w2 ⟨rfl, hb2⟩
              have hlk := hm_some (HMk.out.below ((HBS.out).trans (hb2.mono (by simp)))) Tryz.underlying70 (zero_unit w2) (by unfold maxLen; omega) (by rw [seenH_keys]; exact nodup_lists HNk.out) HLK.out
              have x0 : w2.cell? ⟨wr.heap.size, 0, none⟩ = some (.string x.key) := carry hb2 (by go_simp)
              have HB3 := Lib.hid ((HBk.out.trans (HBS.out.mono sk)).trans (hb2.mono (by simp; omega)))
              have xl := lt_of_cell x0
              clear hb2
              go_wp2_with fail
              go_ret
              exact ⟨by rw [HD.out]; rfl, HB3.out.alloc (by have := HB3.out.size; omega) _⟩
        · obtain rfl : k = es.length := by omega
          have HD : Hid (R = .nilIface) := Lib.hid (by rw [HR.out, HX.out, List.drop_length]; rfl)
          go_wp2_with fail
          go_ret
          exact ⟨by rw [HD.out]; rfl, HBk.out⟩
end Go.Proofs.YtnhlnhmjnnopaaaGreatDoor
