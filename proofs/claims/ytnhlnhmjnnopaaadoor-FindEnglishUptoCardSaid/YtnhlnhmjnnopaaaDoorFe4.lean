/- EntryAt, TextIn, Twice: texts put together. -/
import Derived.Test.YtnhlnhmjnnopaaaDoorFe3
set_option linter.unusedVariables false
set_option linter.unusedSimpArgs false
/- linguisterref2.EntryAt. -/
namespace Go.Proofs.YtnhlnhmjnnopaaaDoor
open Go.RowKit

/-- the place of a key, or none -/
def entAtN (es : List EntC) (key : ByteArray) : Option Nat := es.findIdx? (fun e => e.key.toList == key.toList)
/-- as the Go function says it -/
def entAtI (es : List EntC) (key : ByteArray) : Int := match entAtN es key with
  | some i => i
  | none => -1
theorem entAt_some {es : List EntC} {key : ByteArray} {i : Nat} {e : EntC} (h : es[i]? = some e) (hk : (e.key.toList == key.toList) = true) (hf : ∀ y ∈ es.take i, (y.key.toList == key.toList) = false) : entAtN es key = some i := by
  unfold entAtN
  rw [List.findIdx?_eq_some_iff_getElem]
  obtain ⟨hi, rfl⟩ := List.getElem?_eq_some_iff.1 h
  refine ⟨hi, hk, fun j hj => ?_⟩
  have := hf (es[j]'(by omega)) (List.mem_take_iff_getElem.2 ⟨j, by omega, rfl⟩)
  rw [this]
  decide
theorem entAt_none {es : List EntC} {key : ByteArray} (hf : ∀ y ∈ es, (y.key.toList == key.toList) = false) : entAtN es key = none := by
  unfold entAtN
  rw [List.findIdx?_eq_none_iff]
  exact hf
set_option maxHeartbeats 1000000 in
theorem entry_at (A : Option Addr) (n c : Nat) (l : List EntC) (key : ByteArray) (w : World) (hL : EntsIn w A l) (hn : n ≤ l.length) (hc : n ≤ c) (hc2 : c ≤ 9223372036854775807) :
    Calls Tryd.prog 9 #[.slice A n c, .string key] w fun e w' => e = .returned (.int .i64 (entAtI (l.take n) key)) ∧ w' = w := by
  have HL := Lib.hid hL
  clear hL
  go_enter Tryd.func9, Tryd.ntmps9
  go_wp2_with fail
  go_loop [5] (fun i => ∃ k : Nat, k ≤ n ∧ i = .int .i64 k ∧ Hid (∀ y ∈ l.take k, (y.key.toList == key.toList) = false)) (fun i => n - (intOf i).toNat)
  case atStart => exact ⟨0, Nat.zero_le _, rfl, Lib.hid (by simp)⟩
  case round =>
    obtain ⟨k, hk, rfl, HF⟩ := hrel
    by_cases hlt : k < n
    · obtain ⟨b, o, rfl, hat⟩ := HL.out.at (by omega)
      obtain ⟨x, hx⟩ : ∃ x, l[k]? = some x := ⟨l[k], List.getElem?_eq_getElem (by omega)⟩
      obtain ⟨n0, n1⟩ := hat k x hx
      have i0 : (0 : Int) ≤ (k : Int) := by omega
      have i1 : (k : Int) < (n : Int) := by omega
      have i2 : (k : Int) ≤ (c : Int) := by omega
      have e1 : IntKind.i64.wrap ((k : Int) + 1) = (k : Int) + 1 := IntWalk.i64_in _ (by omega)
      have HX := Lib.hid hx
      clear hat hx
      cases hq : (x.key.toList == key.toList)
      · have HF2 : Hid (∀ y ∈ l.take (k + 1), (y.key.toList == key.toList) = false) := Lib.hid fun y hy => by
          rw [List.take_add_one, HX.out, Option.toList_some, List.mem_append, List.mem_singleton] at hy
          rcases hy with hy | rfl
          · exact HF.out y hy
          · exact hq
        go_wp2_with fail
        go_round
        case rel => exact ⟨k + 1, by omega, by go_num, HF2⟩
        case measure => simp [intOf]; omega
      · have HD : Hid (entAtI (l.take n) key = k) := Lib.hid (by
          unfold entAtI
          rw [entAt_some (i := k) (e := x) (by rw [List.getElem?_take, if_pos hlt]; exact HX.out) hq (by rw [List.take_take, Nat.min_eq_left (by omega)]; exact HF.out)])
        have hq2 : x.key.toList = key.toList := by simpa using hq
        go_wp2_with fail
        go_ret
        exact ⟨by rw [HD.out]; rfl, rfl⟩
    · obtain rfl : k = n := by omega
      have HD : Hid (entAtI (l.take k) key = -1) := Lib.hid (by
        unfold entAtI
        rw [entAt_none HF.out])
      go_wp2_with fail
      go_ret
      exact ⟨by rw [HD.out]; rfl, rfl⟩
end Go.Proofs.YtnhlnhmjnnopaaaDoor

/- linguisterref2.TextIn. -/
namespace Go.Proofs.YtnhlnhmjnnopaaaDoor
open Go.RowKit

theorem key_dec (a b : ByteArray) : decide (a = b) = (a.toList == b.toList) := by
  rw [Bool.eq_iff_iff]
  simp only [decide_eq_true_eq, beq_iff_eq]
  constructor
  · rintro rfl; rfl
  · intro h
    rw [Lib.toList_data, Lib.toList_data] at h
    exact ByteArray.ext (Array.ext' h)
theorem entText_at (key : ByteArray) : ∀ es : List EntC, entText es key = (entAtN es key).bind (fun i => (es[i]?).map (·.text))
  | [] => rfl
  | e :: r => by
    have ih := entText_at key r
    unfold entText entAtN at ih ⊢
    rw [List.find?_cons, List.findIdx?_cons, key_dec]
    cases hq : (e.key.toList == key.toList)
    · simp only [Bool.false_eq_true, if_false]
      rw [ih]
      cases List.findIdx? (fun e => e.key.toList == key.toList) r <;> simp
    · simp
theorem entText_none {es : List EntC} {key : ByteArray} (h : entAtN es key = none) : entText es key = none := by rw [entText_at, h]; rfl
theorem entText_some {es : List EntC} {key : ByteArray} {i : Nat} (h : entAtN es key = some i) : ∃ e, es[i]? = some e ∧ entText es key = some e.text := by
  have hi : i < es.length := by
    unfold entAtN at h
    exact (List.findIdx?_eq_some_iff_getElem.1 h).1
  exact ⟨es[i], List.getElem?_eq_getElem hi, by rw [entText_at, h]; simp [hi]⟩
def textIn (l : List BunC) (name key : ByteArray) : ByteArray × Bool := match bunAt name.data.toList key 0 l with
  | some x => (x.2, true)
  | none => (⟨#[]⟩, false)
theorem bunAt_step {l : List BunC} {k : Nat} {b : BunC} (name : Bs) (key : ByteArray) (h : l[k]? = some b) : bunAt name key k (l.drop k) = match (if b.tag.data.toList = name then entText b.es key else none) with
    | some s => some (k, s)
    | none => bunAt name key (k + 1) (l.drop (k + 1)) := by
  obtain ⟨hk, rfl⟩ := List.getElem?_eq_some_iff.1 h
  rw [List.drop_eq_getElem_cons hk, bunAt]
  rfl
theorem tag_eq {a b : ByteArray} (h : (a.toList == b.toList) = true) : a.data.toList = b.data.toList := by
  have := eq_of_beq h
  rw [Lib.toList_data, Lib.toList_data] at this
  exact this
theorem tag_ne {a b : ByteArray} (h : (a.toList == b.toList) = false) : ¬ a.data.toList = b.data.toList := fun e => by
  rw [Lib.toList_data, Lib.toList_data, e] at h
  simp at h
set_option maxHeartbeats 2000000 in
theorem text_in (A : Option Addr) (c : Nat) (l : List BunC) (name key : ByteArray) (w : World) (hL : BunsIn w A l) (hc : l.length ≤ c) (hc2 : c ≤ 9223372036854775807) :
    Calls Tryd.prog 8 #[.slice A l.length c, .string name, .string key] w fun e w' => e = .returned (.tuple #[.string (textIn l name key).1, .bool (textIn l name key).2]) ∧ w' = w := by
  have HL := Lib.hid hL
  clear hL
  obtain ⟨R, hR⟩ : ∃ R, R = textIn l name key := ⟨_, rfl⟩
  rw [← hR]
  have HR := Lib.hid hR
  clear hR
  go_enter Tryd.func8, Tryd.ntmps8
  go_wp2_with fail
  go_loop [8] (fun i => ∃ k : Nat, k ≤ l.length ∧ i = .int .i64 k ∧ Hid (bunAt name.data.toList key 0 l = bunAt name.data.toList key k (l.drop k))) (fun i => l.length - (intOf i).toNat)
  case atStart => exact ⟨0, Nat.zero_le _, rfl, Lib.hid rfl⟩
  case round =>
    obtain ⟨k, hk, rfl, HF⟩ := hrel
    by_cases hlt : k < l.length
    · obtain ⟨b, o, rfl, hat⟩ := HL.out.at (by omega)
      obtain ⟨x, hx⟩ : ∃ x, l[k]? = some x := ⟨l[k], List.getElem?_eq_getElem (by omega)⟩
      obtain ⟨B, d, n0, n1, hE, hd, hd2, _⟩ := hat k x hx
      have i0 : (0 : Int) ≤ (k : Int) := by omega
      have i1 : (k : Int) < (l.length : Int) := by omega
      have e1 : IntKind.i64.wrap ((k : Int) + 1) = (k : Int) + 1 := IntWalk.i64_in _ (by omega)
      have HS := Lib.hid (bunAt_step name.data.toList key hx)
      have KE := Lib.hid (entry_at B x.es.length d x.es key w hE (Nat.le_refl _) hd hd2)
      rw [List.take_length] at KE
      unfold entAtI at KE
      cases hN : entAtN x.es key with
      | none =>
        rw [hN] at KE
        simp only at KE
        have HF2 : Hid (bunAt name.data.toList key 0 l = bunAt name.data.toList key (k + 1) (l.drop (k + 1))) := Lib.hid (by
          rw [HF.out, HS.out, entText_none hN]
          simp)
        have im : ¬ (0 : Int) ≤ -1 := by decide
        clear hat hx hE hN HS
        cases hq : (x.tag.toList == name.toList)
        · go_wp2_with fail
          refine KE.out.mono ?_
          rintro e w1 ⟨rfl, rfl⟩
          go_wp2_with fail
          go_round
          case rel => exact ⟨k + 1, by omega, by go_num, HF2⟩
          case measure => simp [intOf]; omega
        · have hq2 : x.tag.toList = name.toList := by simpa using hq
          go_wp2_with fail
          refine KE.out.mono ?_
          rintro e w1 ⟨rfl, rfl⟩
          go_wp2_with fail
          go_round
          case rel => exact ⟨k + 1, by omega, by go_num, HF2⟩
          case measure => simp [intOf]; omega
      | some j =>
        rw [hN] at KE
        simp only at KE
        obtain ⟨y, hy, ht⟩ := entText_some hN
        have hjl := (List.getElem?_eq_some_iff.1 hy).1
        obtain ⟨p, q, rfl, hat2⟩ := hE.at (by omega)
        obtain ⟨m0, m1⟩ := hat2 j y hy
        have j0 : (0 : Int) ≤ (j : Int) := by omega
        have j1 : (j : Int) < (x.es.length : Int) := by omega
        cases hq : (x.tag.toList == name.toList)
        · have HF2 : Hid (bunAt name.data.toList key 0 l = bunAt name.data.toList key (k + 1) (l.drop (k + 1))) := Lib.hid (by
            rw [HF.out, HS.out, if_neg (tag_ne hq)])
          clear hat hat2 hx hE hN HS ht hy
          go_wp2_with fail
          refine KE.out.mono ?_
          rintro e w1 ⟨rfl, rfl⟩
          go_wp2_with fail
          go_round
          case rel => exact ⟨k + 1, by omega, by go_num, HF2⟩
          case measure => simp [intOf]; omega
        · have HD : Hid (R = (y.text, true)) := Lib.hid (by
            rw [HR.out]
            unfold textIn
            rw [HF.out, HS.out, if_pos (tag_eq hq), ht])
          have hq2 : x.tag.toList = name.toList := by simpa using hq
          clear hat hat2 hx hE hN HS ht hy
          go_wp2_with fail
          refine KE.out.mono ?_
          rintro e w1 ⟨rfl, rfl⟩
          go_wp2_with fail
          go_ret2
          refine ⟨?_, rfl⟩
          rw [HD.out]
          all_goals rfl
    · obtain rfl : k = l.length := by omega
      have HD : Hid (R = (⟨#[]⟩, false)) := Lib.hid (by
        rw [HR.out]
        unfold textIn
        rw [HF.out, List.drop_length]
        rfl)
      go_wp2_with fail
      go_ret2
      refine ⟨?_, rfl⟩
      rw [HD.out]
      all_goals rfl
end Go.Proofs.YtnhlnhmjnnopaaaDoor

/- slices.ContainsFunc at bundles, by the closure of find.In: is a tag there already? -/
namespace Go.Proofs.YtnhlnhmjnnopaaaDoor
open Go.RowKit

theorem same_tag1 (x : BunC) (A : Option Addr) (n c bb : Nat) (t : ByteArray) (w : World) (hb : w.cell? ⟨bb, 0, none⟩ = some (.string t)) :
    Calls Tryd.prog 13 #[.agg #[.string x.tag, .slice A n c], .pointer (some ⟨bb, 0, none⟩)] w fun e w' => e = .returned (.bool (x.tag.toList == t.toList)) ∧ Below w.heap.size w w' := by
  have hlt := lt_of_cell hb
  generalize x.tag = u
  cases hq : (u.toList == t.toList)
  · go_enter Tryd.func13, Tryd.ntmps13
    go_wp2_with fail
    go_ret
    exact ⟨rfl, (by (repeat (first | with_reducible exact Below.refl _ _ | with_reducible refine bel_set ?_ ?_ | with_reducible refine bel_alloc ?_ ?_ | with_reducible refine Below.drew ?_ | with_reducible refine bel_drewN _ ?_ | with_reducible refine bel_call ?_ (by assumption) ?_)); all_goals (first | (simp; done) | omega | (simp; omega)))⟩
  · have hq2 : u.toList = t.toList := by simpa using hq
    go_enter Tryd.func13, Tryd.ntmps13
    go_wp2_with fail
    go_ret
    exact ⟨rfl, (by (repeat (first | with_reducible exact Below.refl _ _ | with_reducible refine bel_set ?_ ?_ | with_reducible refine bel_alloc ?_ ?_ | with_reducible refine Below.drew ?_ | with_reducible refine bel_drewN _ ?_ | with_reducible refine bel_call ?_ (by assumption) ?_)); all_goals (first | (simp; done) | omega | (simp; omega)))⟩
def tagAt (l : List BunC) (t : ByteArray) : Int := match l.findIdx? (fun b => b.tag.toList == t.toList) with
  | some i => i
  | none => -1
theorem tagAt_mem (l : List BunC) (t : ByteArray) : decide (0 ≤ tagAt l t) = memB (l.map (·.tag)) t := by
  unfold tagAt
  cases h : l.findIdx? (fun b => b.tag.toList == t.toList) with
  | none =>
    rw [List.findIdx?_eq_none_iff] at h
    rw [memB_not]
    · rfl
    · intro hm
      obtain ⟨b, hb, e⟩ := List.mem_map.1 hm
      have := h b hb
      rw [e] at this
      simp at this
  | some i =>
    obtain ⟨hi, h2, _⟩ := List.findIdx?_eq_some_iff_getElem.1 h
    have : memB (l.map (·.tag)) t = true := memB_iff.2 (List.mem_map.2 ⟨l[i], List.getElem_mem hi, by
      have := eq_of_beq h2
      rw [Lib.toList_data, Lib.toList_data] at this
      exact ByteArray.ext (Array.ext' this)⟩)
    rw [this]
    exact decide_eq_true (Int.natCast_nonneg i)
set_option maxHeartbeats 2000000 in
theorem index_tag (A : Option Addr) (n c bb : Nat) (l : List BunC) (t : ByteArray) (w : World) (hL : BunsIn w A l) (hn : n ≤ l.length) (hc : n ≤ c) (hc2 : c ≤ 9223372036854775807) (hb : w.cell? ⟨bb, 0, none⟩ = some (.string t)) :
    Calls Tryd.prog 28 #[.slice A n c, .func (.func 13) #[] #[.pointer (some ⟨bb, 0, none⟩)]] w fun e w' => e = .returned (.int .i64 (tagAt (l.take n) t)) ∧ Below w.heap.size w w' := by
  have HL := Lib.hid hL
  have HT := Lib.hid hb
  clear hL hb
  obtain ⟨R, hR⟩ : ∃ R, R = tagAt (l.take n) t := ⟨_, rfl⟩
  rw [← hR]
  have HR := Lib.hid hR
  clear hR
  go_enter Tryd.func28, Tryd.ntmps28
  go_wp2_with fail
  go_loopw [8] (fun i wr => ∃ k : Nat, k ≤ n ∧ i = .int .i64 k ∧ Hid (∀ y ∈ l.take k, (y.tag.toList == t.toList) = false) ∧ Hid (Below w.heap.size w wr)) (fun i _ => n - (intOf i).toNat)
  case atStart => exact ⟨0, Nat.zero_le _, rfl, Lib.hid (by simp), Lib.hid (Below.refl _ _)⟩
  case round =>
    obtain ⟨k, hk, rfl, HF, HB⟩ := hrel
    by_cases hlt : k < n
    · obtain ⟨b, o, rfl, hat⟩ := (HL.out.below HB.out).at (by omega)
      obtain ⟨x, hx⟩ : ∃ x, l[k]? = some x := ⟨l[k], List.getElem?_eq_getElem (by omega)⟩
      obtain ⟨B, d, n0, n1, _⟩ := hat k x hx
      have i0 : (0 : Int) ≤ (k : Int) := by omega
      have i1 : (k : Int) < (n : Int) := by omega
      have i2 : (k : Int) ≤ (c : Int) := by omega
      have e1 : IntKind.i64.wrap ((k : Int) + 1) = (k : Int) + 1 := IntWalk.i64_in _ (by omega)
      have HX := Lib.hid hx
      have K := Lib.hid (same_tag1 x B x.es.length d bb t wr (carry HB.out HT.out))
      clear hat hx
      cases hq : (x.tag.toList == t.toList)
      · have HF2 : Hid (∀ y ∈ l.take (k + 1), (y.tag.toList == t.toList) = false) := Lib.hid fun y hy => by
          rw [List.take_add_one, HX.out, Option.toList_some, List.mem_append, List.mem_singleton] at hy
          rcases hy with hy | rfl
          · exact HF.out y hy
          · exact hq
        rw [hq] at K
        go_wp2_with fail
        refine K.out.mono ?_
        rintro e w1 ⟨rfl, hb1⟩
        have HB1 := Lib.hid (HB.out.trans (hb1.mono HB.out.size))
        clear hb1
        go_wp2_with fail
        go_roundw
        case rel => exact ⟨k + 1, by omega, by go_num, HF2, HB1⟩
        case measure => simp [intOf]; omega
      · have HD : Hid (R = (k : Int)) := Lib.hid (by
          rw [HR.out]
          unfold tagAt
          have hfi : (l.take n).findIdx? (fun b => b.tag.toList == t.toList) = some k := List.findIdx?_eq_some_iff_getElem.2 ⟨by rw [List.length_take]; omega, by
            have h0 := (List.getElem?_eq_some_iff.1 HX.out)
            rw [List.getElem_take, h0.2]
            exact hq, fun j hj => by
            have h0 := HF.out (l[j]'(by omega)) (List.mem_take_iff_getElem.2 ⟨j, by omega, rfl⟩)
            rw [List.getElem_take, h0]
            decide⟩
          rw [hfi])
        rw [hq] at K
        go_wp2_with fail
        refine K.out.mono ?_
        rintro e w1 ⟨rfl, hb1⟩
        have HB1 := Lib.hid (HB.out.trans (hb1.mono HB.out.size))
        clear hb1
        go_wp2_with fail
        go_ret
        refine ⟨?_, HB1.out⟩
        rw [HD.out]
        rfl
    · obtain rfl : k = n := by omega
      have HD : Hid (R = -1) := Lib.hid (by
        rw [HR.out]
        unfold tagAt
        rw [List.findIdx?_eq_none_iff.2 HF.out])
      go_wp2_with fail
      go_ret
      refine ⟨?_, HB.out⟩
      rw [HD.out]
      rfl
theorem has_tag (A : Option Addr) (n c bb : Nat) (l : List BunC) (t : ByteArray) (w : World) (hL : BunsIn w A l) (hn : n ≤ l.length) (hc : n ≤ c) (hc2 : c ≤ 9223372036854775807) (hb : w.cell? ⟨bb, 0, none⟩ = some (.string t)) :
    Calls Tryd.prog 12 #[.slice A n c, .func (.func 13) #[] #[.pointer (some ⟨bb, 0, none⟩)]] w fun e w' => e = .returned (.bool (memB ((l.take n).map (·.tag)) t)) ∧ Below w.heap.size w w' := by
  have K := Lib.hid (index_tag A n c bb l t w hL hn hc hc2 hb)
  rw [← tagAt_mem]
  clear hL hb
  generalize tagAt (l.take n) t = i at *
  go_enter Tryd.func12, Tryd.ntmps12
  go_wp2_with fail
  refine K.out.mono ?_
  rintro e w1 ⟨rfl, hb1⟩
  go_wp2_with fail
  go_ret
  exact ⟨rfl, hb1⟩
end Go.Proofs.YtnhlnhmjnnopaaaDoor
