/- PropCheck, DiffWords: texts put together. -/
import Derived.Test.YtnhlnhmjnnopaaaGreatDoorDt3
import Derived.Test.YtnhlnhmjnnopaaaGreatDoorDt12
set_option linter.unusedVariables false
set_option linter.unusedSimpArgs false
/- prop.Check. -/
namespace Go.Proofs.YtnhlnhmjnnopaaaGreatDoor
open Go.RowKit Go.Maps

def seenH (l : List EntC) : HL := l.map fun e => (e.key.data.toList, Value.agg #[])
theorem seenH_some {l : List EntC} {s : ByteArray} (h : memB (l.map (·.key)) s = true) : hlook (seenH l) s.data.toList = some (.agg #[]) := by
  obtain ⟨e, he, rfl⟩ := List.mem_map.1 (memB_iff.1 h)
  unfold hlook seenH
  cases hq : (l.map fun e => (e.key.data.toList, Value.agg #[])).find? (fun p => decide (p.1 = e.key.data.toList)) with
  | none =>
    rw [List.find?_eq_none] at hq
    exact absurd (decide_eq_true rfl) (hq _ (List.mem_map_of_mem (f := fun e : EntC => (e.key.data.toList, Value.agg #[])) he))
  | some p =>
    have hm := List.mem_of_find?_eq_some hq
    obtain ⟨y, _, rfl⟩ := List.mem_map.1 hm
    rfl
theorem seenH_none {l : List EntC} {s : ByteArray} (h : memB (l.map (·.key)) s = false) : hlook (seenH l) s.data.toList = none := by
  rw [hlook_none_iff]
  intro hm
  unfold seenH at hm
  rw [List.map_map] at hm
  obtain ⟨y, hy, e⟩ := List.mem_map.1 hm
  have : memB (l.map (·.key)) s = true := memB_iff.2 (List.mem_map.2 ⟨y, hy, ByteArray.ext (Array.ext' e)⟩)
  rw [h] at this
  cases this
theorem seenH_keys (l : List EntC) : (seenH l).map (·.1) = (l.map (·.key)).map (·.data.toList) := by unfold seenH; rw [List.map_map, List.map_map]; rfl
theorem nodup_lists {l : List ByteArray} (h : l.Nodup) : (l.map (·.data.toList)).Nodup :=
  List.Pairwise.map _ (fun a b hab e => hab (ByteArray.ext (Array.ext' e))) h
theorem zero_unit (w : World) : (zeroValue 71).run Tryz.prog w = .ok (.agg #[]) w := by kernel_rfl
theorem errOf_errT {k : Int} (h : k ≠ 0) : errOf k = errT k := if_neg h

set_option maxHeartbeats 8000000 in
set_option maxRecDepth 100000 in
theorem prop_check (b : BunC) (A : Option Addr) (c : Nat) (w : World) (hM : MaxL w) (hF : BunFine w b A c) (hs : b.small) :
    Calls Tryz.prog 9 #[bunV b A c] w fun e w' => e = .returned (errOf b.err) ∧ Below w.heap.size w w' := by
  obtain ⟨tg, es⟩ := b
  obtain ⟨hE, hc, hc2, _⟩ := hF
  obtain ⟨z1, z2, z3⟩ := hs
  simp only at hE hc z1 z2 z3
  have KT := Lib.hid (fun W (hb : Below w.heap.size w W) => prop_tag tg W (hM.below hb) (by omega))
  have HE := Lib.hid hE
  have HZ := Lib.hid z3
  have hmm := @run_makeMap Tryz.prog
  obtain ⟨R, hR⟩ : ∃ R, R = errOf (BunC.mk tg es).err := ⟨_, rfl⟩
  rw [← hR]
  unfold BunC.err at hR
  clear hE hM z3
  simp only at hR
  unfold bunV
  simp only
  have hb0 : Below w.heap.size w (w.alloc (.cells #[.string tg, .slice A es.length c] 24)) := (by (repeat (first | with_reducible exact Below.refl _ _ | with_reducible refine bel_set ?_ ?_ | with_reducible refine bel_alloc ?_ ?_ | with_reducible refine Below.drew ?_ | with_reducible refine bel_drewN _ ?_ | with_reducible refine bel_call ?_ (by assumption) ?_)); all_goals (first | (simp; done) | omega | (simp; omega)))
  have HB0 := Lib.hid hb0
  clear hb0
  go_enter Tryz.func9, Tryz.ntmps9
  cases hT : ownTag tg.data.toList
  · rw [hT, if_pos rfl] at hR
    rw [hT] at KT
    subst hR
    go_wp2_with fail
    refine (KT.out _ HB0.out).mono ?_
    rintro e w1 ⟨rfl, hb1⟩
    have HB1 := Lib.hid (HB0.out.trans (hb1.mono HB0.out.size))
    clear hb1
    go_wp2_with fail
    go_ret
    exact ⟨rfl, HB1.out⟩
  · rw [hT, if_neg (by decide)] at hR
    rw [hT] at KT
    by_cases h100 : 100 < es.length
    · rw [if_pos h100] at hR
      subst hR
      have i100 : (100 : Int) < (es.length : Int) := by omega
      go_wp2_with fail
      refine (KT.out _ HB0.out).mono ?_
      rintro e w1 ⟨rfl, hb1⟩
      have c1 : w1.cell? ⟨w.heap.size, 1, none⟩ = some (.slice A es.length c) := carry hb1 (by go_simp)
      have HB1 := Lib.hid (HB0.out.trans (hb1.mono HB0.out.size))
      clear hb1
      go_wp2_with fail
      go_ret
      exact ⟨rfl, HB1.out⟩
    · rw [if_neg h100] at hR
      have HR := Lib.hid hR
      have i100 : ¬ (100 : Int) < (es.length : Int) := by omega
      clear hR
      go_wp2_with fail
      refine (KT.out _ HB0.out).mono ?_
      rintro e w1 ⟨rfl, hb1⟩
      have c1 : w1.cell? ⟨w.heap.size, 1, none⟩ = some (.slice A es.length c) := carry hb1 (by go_simp)
      have HB1 := Lib.hid (HB0.out.trans (hb1.mono HB0.out.size))
      clear hb1
      have q1 := lt_of_cell c1
      go_wp2_with fail
      have hmp := hm_made w1
      have hb2 : Below w1.heap.size w1 (w1.alloc (.map #[] 0)) := (by (repeat (first | with_reducible exact Below.refl _ _ | with_reducible refine bel_set ?_ ?_ | with_reducible refine bel_alloc ?_ ?_ | with_reducible refine Below.drew ?_ | with_reducible refine bel_drewN _ ?_ | with_reducible refine bel_call ?_ (by assumption) ?_)); all_goals (first | (simp; done) | omega | (simp; omega)))
      have HB2 := Lib.hid (HB1.out.trans (hb2.mono HB1.out.size))
      clear hb2
      go_loopw [22] (fun i wr => ∃ k : Nat, k ≤ es.length ∧ i = .int .i64 k ∧ Hid (entErr [] es = entErr ((es.take k).map (·.key)) (es.drop k)) ∧ Hid (HMap wr w1.heap.size k (seenH (es.take k))) ∧ Hid (((es.take k).map (·.key)).Nodup) ∧ Hid (Below w.heap.size w wr)) (fun i _ => es.length - (intOf i).toNat)
      case atStart => exact ⟨0, Nat.zero_le _, rfl, Lib.hid rfl, Lib.hid hmp, Lib.hid List.nodup_nil, HB2⟩
      case round =>
        obtain ⟨k, hk, rfl, HX, HMk, HNk, HBk⟩ := hrel
        have sk := HBk.out.size
        by_cases hlt : k < es.length
        · obtain ⟨bE, oE, rfl, hat⟩ := (HE.out.below HBk.out).at (by omega)
          obtain ⟨x, hx⟩ : ∃ x, es[k]? = some x := ⟨es[k], List.getElem?_eq_getElem hlt⟩
          obtain ⟨n0, n1⟩ := hat k x hx
          obtain ⟨xz1, xz2⟩ := HZ.out x (List.mem_of_getElem? hx)
          have hst := entErr_step es k x hx
          have HX2 := Lib.hid (HX.out.trans hst)
          have hkeys : (es.take (k + 1)).map (·.key) = (es.take k).map (·.key) ++ [x.key] := by rw [List.take_add_one, hx, List.map_append]; rfl
          have hseen : seenH (es.take (k + 1)) = seenH (es.take k) ++ [(x.key.data.toList, Value.agg #[])] := by unfold seenH; rw [List.take_add_one, hx, List.map_append]; rfl
          have i0 : (0 : Int) ≤ (k : Int) := by omega
          have i1 : (k : Int) < (es.length : Int) := by omega
          have i2 : (k : Int) ≤ (c : Int) := by omega
          have e1 : IntKind.i64.wrap ((k : Int) + 1) = (k : Int) + 1 := IntWalk.i64_in _ (by omega)
          have KK := Lib.hid (fun W => prop_key x.key W (by omega))
          have hbS : Below wr.heap.size wr (wr.alloc (.cells #[.string x.key, .string x.text] 50)) := (by (repeat (first | with_reducible exact Below.refl _ _ | with_reducible refine bel_set ?_ ?_ | with_reducible refine bel_alloc ?_ ?_ | with_reducible refine Below.drew ?_ | with_reducible refine bel_drewN _ ?_ | with_reducible refine bel_call ?_ (by assumption) ?_)); all_goals (first | (simp; done) | omega | (simp; omega)))
          have HBS := Lib.hid hbS
          have HKY := Lib.hid hkeys
          have HSN := Lib.hid hseen
          have hblt : w1.heap.size < wr.heap.size := (HMk.out.lt)
          clear hat hx hst HX hbS hkeys hseen
          cases hq : keyOk x.key
          · have HD : Hid (R = errT 3) := Lib.hid (by rw [HR.out, HX2.out, if_pos hq]; rfl)
            rw [hq] at KK
            clear hq
            go_wp2_with fail
            refine (KK.out _).mono ?_
            rintro e w2 ⟨rfl, hb2⟩
            have HB3 := Lib.hid ((HBk.out.trans (HBS.out.mono sk)).trans (hb2.mono (by simp; omega)))
            clear hb2
            go_wp2_with fail
            go_ret
            exact ⟨by rw [HD.out]; rfl, HB3.out⟩
          · rw [hq] at KK
            have HX3 : Hid (entErr [] es = if memB ((es.take k).map (·.key)) x.key = true then 5 else if 2000 < x.text.size then 4 else entErr ((es.take (k + 1)).map (·.key)) (es.drop (k + 1))) := Lib.hid (by rw [HX2.out, hq]; simp)
            clear hq HX2
            cases hm : memB ((es.take k).map (·.key)) x.key
            · have HX4 : Hid (entErr [] es = if 2000 < x.text.size then 4 else entErr ((es.take (k + 1)).map (·.key)) (es.drop (k + 1))) := Lib.hid (by rw [HX3.out, hm]; simp)
              have HN2 : Hid (((es.take (k + 1)).map (·.key)).Nodup) := Lib.hid (by
                rw [HKY.out, List.nodup_append]
                refine ⟨HNk.out, by simp, fun a ha b hb e => ?_⟩
                rw [List.mem_singleton.1 hb] at e
                rw [e] at ha
                rw [memB_iff.2 ha] at hm
                cases hm)
              have HLK := Lib.hid (seenH_none hm)
              clear hm HX3 HNk
              go_wp2_with fail
              refine (KK.out _).mono ?_
              rintro e w2 ⟨rfl, hb2⟩
              have HM2 := HMk.out.below ((HBS.out).trans (hb2.mono (by simp)))
              have hlk := hm_none HM2 Tryz.underlying70 (zero_unit w2) (by unfold maxLen; omega) HLK.out
              have x0 : w2.cell? ⟨wr.heap.size, 0, none⟩ = some (.string x.key) := carry hb2 (by go_simp)
              have x1 : w2.cell? ⟨wr.heap.size, 1, none⟩ = some (.string x.text) := carry hb2 (by go_simp)
              have HB3 := Lib.hid ((HBk.out.trans (HBS.out.mono sk)).trans (hb2.mono (by simp; omega)))
              obtain ⟨W5, hput, hOW, hFW⟩ := hm_put (s := x.key) (HM2.below ((Below.refl _ _).alloc (Nat.le_refl _) (.cells #[] 71))) Tryz.underlying70 (by unfold maxLen; omega) (by unfold maxLen; omega) (.agg #[])
              have xl := lt_of_cell x0
              have y1 : W5.cell? ⟨wr.heap.size, 1, none⟩ = some (.string x.text) := hFW.cell (by go_simp) (by simp; omega)
              have HM3 : Hid (HMap W5 w1.heap.size (k + 1) (seenH (es.take (k + 1)))) := Lib.hid (by rw [HSN.out]; exact hOW)
              have HB4 : Hid (Below w.heap.size w W5) := Lib.hid ((HB3.out.alloc (by have := HB3.out.size; omega) _).trans (hFW.toBelow (fun j hj => by simp only [List.mem_singleton] at hj; have := HB1.out.size; omega) (by have := HB3.out.size; simp; omega)))
              clear hb2 HM2 hOW hFW HMk HLK HBk
              by_cases h2 : 2000 < x.text.size
              · have HD : Hid (R = errT 4) := Lib.hid (by rw [HR.out, HX4.out, if_pos h2]; rfl)
                have j2 : (2000 : Int) < (x.text.size : Int) := by omega
                clear h2
                go_wp2_with fail
                go_ret
                exact ⟨by rw [HD.out]; rfl, HB4.out⟩
              · have HX5 : Hid (entErr [] es = entErr ((es.take (k + 1)).map (·.key)) (es.drop (k + 1))) := Lib.hid (by rw [HX4.out, if_neg h2])
                have j2 : ¬ (2000 : Int) < (x.text.size : Int) := by omega
                clear h2
                go_wp2_with fail
                go_roundw
                case rel => exact ⟨k + 1, by omega, by go_num, HX5, HM3, HN2, HB4⟩
                case measure => simp [intOf]; omega
            · have HD : Hid (R = errT 5) := Lib.hid (by rw [HR.out, HX3.out, if_pos hm]; rfl)
              have HLK := Lib.hid (seenH_some hm)
              clear hm
              go_wp2_with fail
              refine (KK.out _).mono ?_
              rintro e w2 ⟨rfl, hb2⟩
              have hlk := hm_some (HMk.out.below ((HBS.out).trans (hb2.mono (by simp)))) Tryz.underlying70 (zero_unit w2) (by unfold maxLen; omega) (by rw [seenH_keys]; exact nodup_lists HNk.out) HLK.out
              have x0 : w2.cell? ⟨wr.heap.size, 0, none⟩ = some (.string x.key) := carry hb2 (by go_simp)
              have HB3 := Lib.hid ((HBk.out.trans (HBS.out.mono sk)).trans (hb2.mono (by simp; omega)))
              have xl := lt_of_cell x0
              clear hb2
              go_wp2_with fail
              go_ret
              exact ⟨by rw [HD.out]; rfl, HB3.out.alloc (by have := HB3.out.size; omega) _⟩
        · obtain rfl : k = es.length := by omega
          have HD : Hid (R = .nilIface) := Lib.hid (by rw [HR.out, HX.out, List.drop_length]; rfl)
          go_wp2_with fail
          go_ret
          exact ⟨by rw [HD.out]; rfl, HBk.out⟩
end Go.Proofs.YtnhlnhmjnnopaaaGreatDoor

/- diff.words, diff.both. -/
namespace Go.Proofs.YtnhlnhmjnnopaaaGreatDoor
open Go.RowKit Go.Maps

theorem take_key {es : List EntC} {j : Nat} {x : EntC} (hx : es[j]? = some x) (hK : KeysOne es) : x.key ∉ (es.take j).map (·.key) := by
  obtain ⟨hj, hx⟩ := List.getElem?_eq_some_iff.1 hx
  unfold KeysOne at hK
  have h1 : es = es.take j ++ es.drop j := (List.take_append_drop j es).symm
  rw [h1, List.map_append] at hK
  have h2 := (List.nodup_append.1 hK).2.2
  intro hm
  refine h2 _ hm _ ?_ rfl
  rw [List.drop_eq_getElem_cons hj, hx, List.map_cons]
  exact List.mem_cons_self
set_option maxHeartbeats 4000000 in
set_option maxRecDepth 100000 in
theorem diff_words (b : BunC) (A : Option Addr) (c : Nat) (w : World) (hF : BunFine w b A c) (hK : KeysOne b.es) (hn : b.es.length ≤ 1048576) (hz : ∀ e ∈ b.es, e.key.size ≤ 1048576) :
    Calls Tryz.prog 21 #[bunV b A c] w fun e w' => ∃ mb, w.heap.size ≤ mb ∧ e = .returned (.map (some mb)) ∧ EMap w' mb b.es.length b.es ∧ Below w.heap.size w w' := by
  obtain ⟨tg, es⟩ := b
  obtain ⟨hE, hc, hc2, _⟩ := hF
  simp only at hE hc hK hn hz
  have hmm := @run_makeMap Tryz.prog
  have HE := Lib.hid hE
  have HZ := Lib.hid hz
  have HK := Lib.hid hK
  clear hE hz hK
  unfold bunV
  simp only
  go_enter Tryz.func21, Tryz.ntmps21
  go_wp2_with fail
  obtain ⟨w1, hw1⟩ : ∃ w1, w1 = w.alloc (.cells #[.string tg, .slice A es.length c] 24) := ⟨_, rfl⟩
  have hb1 : Below w.heap.size w w1 := by rw [hw1]; exact (by (repeat (first | with_reducible exact Below.refl _ _ | with_reducible refine bel_set ?_ ?_ | with_reducible refine bel_alloc ?_ ?_ | with_reducible refine Below.drew ?_ | with_reducible refine bel_drewN _ ?_ | with_reducible refine bel_call ?_ (by assumption) ?_)); all_goals (first | (simp; done) | omega | (simp; omega)))
  have hs1 : w1.heap.size = w.heap.size + 1 := by rw [hw1]; simp
  have hmp := EMap.made w1
  have hb2 : Below w.heap.size w (w1.alloc (.map #[] 0)) := hb1.trans ((Below.refl _ _).alloc (by omega) _)
  have hs2 : (w1.alloc (.map #[] 0)).heap.size = w.heap.size + 2 := by simp [hs1]
  have HB2 := Lib.hid hb2
  have HM0 := Lib.hid hmp
  have hbs : Below w1.heap.size w1 (w1.alloc (.map #[] 0)) := (by (repeat (first | with_reducible exact Below.refl _ _ | with_reducible refine bel_set ?_ ?_ | with_reducible refine bel_alloc ?_ ?_ | with_reducible refine Below.drew ?_ | with_reducible refine bel_drewN _ ?_ | with_reducible refine bel_call ?_ (by assumption) ?_)); all_goals (first | (simp; done) | omega | (simp; omega)))
  have b1 : (w1.alloc (.map #[] 0)).cell? ⟨w.heap.size, 1, none⟩ = some (.slice A es.length c) := carry hbs (by rw [hw1]; go_simp)
  obtain ⟨w2, hw2⟩ : ∃ w2, w2 = w1.alloc (.map #[] 0) := ⟨_, rfl⟩
  rw [← hw1, ← hw2]
  rw [← hw2] at HB2 HM0 b1 hs2
  clear hw2 hw1 hmp hb1 hb2 hbs
  try go_wp2_with fail
  go_loopw [10] (fun i wr => ∃ k : Nat, k ≤ es.length ∧ i = .int .i64 k ∧ Hid (EMap wr w1.heap.size k (es.take k)) ∧ Hid (Below w.heap.size w wr)) (fun i _ => es.length - (intOf i).toNat)
  case atStart => exact ⟨0, Nat.zero_le _, rfl, Lib.hid (by rw [List.take_zero]; exact HM0.out), HB2⟩
  case round =>
    obtain ⟨k, hk, rfl, HMk, HBk⟩ := hrel
    have sk := HBk.out.size
    by_cases hlt : k < es.length
    · obtain ⟨bE, oE, rfl, hat⟩ := (HE.out.below HBk.out).at (by omega)
      obtain ⟨x, hx⟩ : ∃ x, es[k]? = some x := ⟨es[k], List.getElem?_eq_getElem hlt⟩
      obtain ⟨n0, n1⟩ := hat k x hx
      have xz := HZ.out x (List.mem_of_getElem? hx)
      have i0 : (0 : Int) ≤ (k : Int) := by omega
      have i1 : (k : Int) < (es.length : Int) := by omega
      have i2 : (k : Int) ≤ (c : Int) := by omega
      have e1 : IntKind.i64.wrap ((k : Int) + 1) = (k : Int) + 1 := IntWalk.i64_in _ (by omega)
      have hbS : Below wr.heap.size wr (wr.alloc (.cells #[.string x.key, .string x.text] 50)) := (by (repeat (first | with_reducible exact Below.refl _ _ | with_reducible refine bel_set ?_ ?_ | with_reducible refine bel_alloc ?_ ?_ | with_reducible refine Below.drew ?_ | with_reducible refine bel_drewN _ ?_ | with_reducible refine bel_call ?_ (by assumption) ?_)); all_goals (first | (simp; done) | omega | (simp; omega)))
      have hblt : w1.heap.size < wr.heap.size := HMk.out.lt
      obtain ⟨W5, hput, hOW, hFW⟩ := em_put (s := x.key) (HMk.out.below hbS) Tryz.underlying57 (by unfold maxLen; omega) (by unfold maxLen; omega) (take_key hx HK.out) x.text
      have HM3 : Hid (EMap W5 w1.heap.size (k + 1) (es.take (k + 1))) := Lib.hid (by
        rw [List.take_add_one, hx]
        exact hOW)
      have HB4 : Hid (Below w.heap.size w W5) := Lib.hid ((HBk.out.trans (hbS.mono sk)).trans (hFW.toBelow (fun j hj => by simp only [List.mem_singleton] at hj; omega) (by simp; omega)))
      rw [hs1] at hput
      clear hat hx hOW hFW HMk HBk hbS
      go_wp2_with fail
      refine ⟨⟨k + 1, by omega, by congr 1, HM3, HB4⟩, by simp only [intOf]; omega⟩
    · obtain rfl : k = es.length := by omega
      have i1 : ¬ (es.length : Int) < (es.length : Int) := by omega
      have HM3 : Hid (EMap wr w1.heap.size es.length es) := Lib.hid (by
        have h := HMk.out
        rw [List.take_length] at h
        exact h)
      clear HMk
      go_wp2_with fail
      go_ret
      exact ⟨_, by omega, rfl, hs1 ▸ HM3.out, HBk.out⟩
/-- prop.Check of both -/
def bothErr (a b : BunC) : Int := if a.err = 0 then b.err else a.err
set_option maxHeartbeats 2000000 in
theorem diff_both (a b : BunC) (A B : Option Addr) (c d : Nat) (w : World) (hM : MaxL w) (hA : BunFine w a A c) (hB : BunFine w b B d) (ha : a.small) (hb : b.small) :
    Calls Tryz.prog 20 #[bunV a A c, bunV b B d] w fun e w' => e = .returned (errOf (bothErr a b)) ∧ Below w.heap.size w w' := by
  have K1 := Lib.hid (fun W (h : Below w.heap.size w W) => prop_check a A c W (hM.below h) (hA.below h) ha)
  have K2 := Lib.hid (fun W (h : Below w.heap.size w W) => prop_check b B d W (hM.below h) (hB.below h) hb)
  unfold bothErr
  obtain ⟨ta, ea⟩ := a
  obtain ⟨tb, eb⟩ := b
  obtain ⟨ka, hka⟩ : ∃ k, k = (BunC.mk ta ea).err := ⟨_, rfl⟩
  obtain ⟨kb, hkb⟩ : ∃ k, k = (BunC.mk tb eb).err := ⟨_, rfl⟩
  rw [← hka] at K1 ⊢
  rw [← hkb] at K2 ⊢
  obtain ⟨R, hR⟩ : ∃ R, R = (if ka = 0 then kb else ka) := ⟨_, rfl⟩
  rw [← hR]
  have HR := Lib.hid hR
  clear hka hkb hA hB ha hb hM hR
  unfold bunV at K1 K2 ⊢
  simp only at K1 K2 ⊢
  have hb0 : Below w.heap.size w ((w.alloc (.cells #[.string ta, .slice A ea.length c] 24)).alloc (.cells #[.string tb, .slice B eb.length d] 24)) := (by (repeat (first | with_reducible exact Below.refl _ _ | with_reducible refine bel_set ?_ ?_ | with_reducible refine bel_alloc ?_ ?_ | with_reducible refine Below.drew ?_ | with_reducible refine bel_drewN _ ?_ | with_reducible refine bel_call ?_ (by assumption) ?_)); all_goals (first | (simp; done) | omega | (simp; omega)))
  have HB0 := Lib.hid hb0
  clear hb0
  go_enter Tryz.func20, Tryz.ntmps20
  go_wp2_with fail
  refine (K1.out _ HB0.out).mono ?_
  rintro e w1 ⟨rfl, hb1⟩
  have d0 : w1.cell? ⟨w.heap.size + 1, 0, none⟩ = some (.string tb) := carry hb1 (by go_simp)
  have d1 : w1.cell? ⟨w.heap.size + 1, 1, none⟩ = some (.slice B eb.length d) := carry hb1 (by go_simp)
  have l1 := lt_of_cell d0
  have HB1 := Lib.hid (HB0.out.trans (hb1.mono HB0.out.size))
  clear hb1 HB0
  by_cases h0 : ka = 0
  · have hR := HR.out
    rw [if_pos h0] at hR
    subst hR
    rw [h0, show errOf 0 = Value.nilIface from if_pos rfl]
    clear h0 HR
    go_wp2_with fail
    refine (K2.out _ HB1.out).mono ?_
    rintro e w2 ⟨rfl, hb2⟩
    have HB2 := Lib.hid (HB1.out.trans (hb2.mono HB1.out.size))
    clear hb2
    go_wp2_with fail
    go_ret
    exact ⟨rfl, HB2.out⟩
  · have hR := HR.out
    rw [if_neg h0] at hR
    have HRE : Hid (errOf R = errT ka) := Lib.hid (by rw [hR, errOf_errT h0])
    rw [errOf_errT h0]
    clear h0 HR hR
    go_wp2_with fail
    go_ret
    exact ⟨by rw [HRE.out]; rfl, HB1.out⟩
end Go.Proofs.YtnhlnhmjnnopaaaGreatDoor
