/- Parts, RefTagText: texts put together. -/
import Derived.Test.YtnhlnhmjnnopaaaDoorFe9
import Derived.Test.YtnhlnhmjnnopaaaDoorFe15
import Derived.Test.YtnhlnhmjnnopaaaDoorFe3
set_option linter.unusedVariables false
set_option linter.unusedSimpArgs false
/- linguisterref1.Parts. -/
namespace Go.Proofs.YtnhlnhmjnnopaaaDoor
open Go.RowKit

abbrev neL (xs : List ByteArray) : List ByteArray := xs.filter (fun x => !x.data.toList.isEmpty)
theorem OwnsS.lit3 (w : World) (a b c : ByteArray) : OwnsS (w.alloc (.cells #[.string a, .string b, .string c] 9)) w.heap.size (.slice (some ⟨w.heap.size, 0, none⟩) 3 3) [a, b, c] :=
  World.ownsRow_lit w #[.string a, .string b, .string c] 3 (Nat.le_refl _) (by simp [maxLen]) rfl
theorem neL_succ {xs : List ByteArray} {k : Nat} {x : ByteArray} (h : xs[k]? = some x) : neL (xs.take (k + 1)) = neL (xs.take k) ++ if x.data.toList.isEmpty then [] else [x] := by
  unfold neL
  rw [List.take_add_one, h, List.filter_append]
  congr 1
  show List.filter _ [x] = _
  rw [List.filter_cons]
  cases x.data.toList.isEmpty <;> rfl

set_option maxHeartbeats 2000000 in
theorem ref_parts (l s r : ByteArray) (A : Option Addr) (c : Nat) (vs : List ByteArray) (w : World) (hX : StrsIn w A vs) (hA : A = none → c = 0) (hn : vs.length ≤ 1000000) :
    Calls Tryd.prog 48 #[tagV l s r A vs.length c] w fun e w' => ∃ v, e = .returned v ∧ OwnsS w' w.heap.size v (neL ([l, s, r] ++ vs)) ∧ Below w.heap.size w w' := by
  generalize hQ : neL ([l, s, r] ++ vs) = Q
  have HQ := Lib.hid hQ
  have HX := Lib.hid hX
  have HA := Lib.hid hA
  clear hX hA hQ
  go_enter Tryd.func48, Tryd.ntmps48
  have hl3 : ∀ W : World, W.heap.size = w.heap.size + 1 → OwnsS (W.alloc (.cells #[.string l, .string s, .string r] 9)) w.heap.size (.slice (some ⟨w.heap.size + 1, 0, none⟩) 3 3) [l, s, r] := fun W hW => by
    have := OwnsS.lit3 W l s r
    rw [hW] at this
    exact this.base (by omega)
  have HL3 := Lib.hid hl3
  clear hl3
  go_wp2_with (at_builtin; refine wpList_append_many rfl _ _ rfl (ys := vs) rfl rfl (HL3.out _ (by simp)) ((HX.out.alloc _).alloc _) HA.out (by simp; omega) (by simp; omega) ?_; intro v1 w1 ho1 hf1)
  have hb1 : Below w.heap.size w w1 := ((((Below.refl _ _).alloc (Nat.le_refl _) _).alloc (by simp) _).trans (OwnsS.grown (HL3.out _ (by simp)) hf1 (by simp; omega)))
  obtain ⟨A1, c1, rfl, _, hs1, _⟩ := ho1.form
  have hlen : ([l, s, r] ++ vs).length ≤ 1000003 := by simp; omega
  have s1 := hb1.size
  clear hf1 HL3 HX ho1
  generalize [l, s, r] ++ vs = ps at *
  have HS := Lib.hid hs1
  have HB1 := Lib.hid hb1
  clear hs1 hb1
  go_loopw [3, 5] (fun v i wr => ∃ (k : Nat) (B : Option Addr) (d : Nat), k ≤ ps.length ∧ i = .int .i64 k ∧ v = .slice B (neL (ps.take k)).length d ∧ Hid (OwnsS wr w1.heap.size (.slice B (neL (ps.take k)).length d) (neL (ps.take k))) ∧ Hid (Below w1.heap.size w1 wr)) (fun _ i _ => ps.length - (intOf i).toNat)
  case atStart => exact ⟨0, none, 0, Nat.zero_le _, rfl, rfl, Lib.hid (OwnsS.nil _ _), Lib.hid (Below.refl _ _)⟩
  case round =>
    obtain ⟨k, B, d, hk, rfl, rfl, HO, HB⟩ := hrel
    by_cases hlt : k < ps.length
    · have hg : ps[k]? = some ps[k] := List.getElem?_eq_getElem hlt
      rcases HS.out with h0 | ⟨bk, o, rfl, hc⟩
      · subst h0; simp at hlt
      have hcell := carry HB.out (hc k _ hg)
      have hns := neL_succ hg
      have hle : (neL (ps.take k)).length ≤ k := Nat.le_trans (List.length_filter_le _ _) (List.length_take_le _ _)
      clear hc hg
      generalize ps[k] = x at *
      generalize neL (ps.take k) = qs at *
      have i1 : (0 : Int) ≤ (k : Int) := by omega
      have i2 : (k : Int) < (ps.length : Int) := by omega
      have hbs := HB.out.size
      cases hx : x.data.toList.isEmpty
      · have x1 : ¬ x.toList = [] := by rw [Lib.toList_data]; intro hq; rw [hq] at hx; cases hx
        have x2 : x.toList.isEmpty = false := by cases hq : x.toList with | nil => exact absurd hq x1 | cons y yl => rfl
        rw [hx] at hns
        have HN := Lib.hid hns
        clear hns hx
        go_wp2_with (at_builtin; refine wpList_append_one rfl _ _ rfl x rfl rfl (HO.out.alloc _) (by go_simp) (by simp; omega) (by omega) ?_; intro v' w' ho hoff)
        have hbl : Below w1.heap.size _ w' := OwnsS.grown (HO.out.alloc (.cells #[.string x] 9)) hoff (by simp; omega)
        have HB2 : Hid (Below w1.heap.size w1 w') := Lib.hid ((HB.out.alloc hbs _).trans hbl)
        obtain ⟨A', d', rfl, _⟩ := ho.form
        have HO2 := Lib.hid ho
        clear ho hoff hbl HO HB
        go_roundw
        case rel => exact ⟨k + 1, A', d', by omega, by go_num, by rw [HN.out]; rfl, by rw [HN.out]; exact HO2, HB2⟩
        case measure => simp [intOf]; omega
      · have x1 : x.toList = [] := by rw [Lib.toList_data]; exact List.isEmpty_iff.1 hx
        rw [hx] at hns
        have HN : Hid (neL (ps.take (k + 1)) = qs) := Lib.hid (by rw [hns]; simp)
        clear hns hx
        go_wp2_with fail
        go_roundw
        case rel => exact ⟨k + 1, B, d, by omega, by go_num, by rw [HN.out], by rw [HN.out]; exact HO, HB⟩
        case measure => simp [intOf]; omega
    · obtain rfl : k = ps.length := by omega
      have ht : ps.take ps.length = ps := List.take_length
      have HT := Lib.hid ht
      clear ht
      go_wp2_with fail
      go_ret
      refine ⟨.slice B Q.length d, ?_, ?_, HB1.out.trans (HB.out.mono s1)⟩
      · show Ending.returned (.slice B (neL (ps.take ps.length)).length d) = _
        rw [HT.out, HQ.out]
      have := HO.out
      rw [HT.out, HQ.out] at this
      exact this.base s1
end Go.Proofs.YtnhlnhmjnnopaaaDoor

/- linguisterref1.TagText. -/
namespace Go.Proofs.YtnhlnhmjnnopaaaDoor
open Go.RowKit

theorem neL_parts (l s r : ByteArray) (vs : List ByteArray) : strsL (neL ([l, s, r] ++ vs)) = partsL l.data.toList s.data.toList r.data.toList (listsOf vs) := by
  unfold neL strsL
  exact parts_map l s r vs
theorem lens_join_le (xs : List ByteArray) : lensB xs ≤ (Lib.join (strsL xs) [45]).length := by
  rw [join_len]
  unfold strsL
  rw [lens_map]
  omega
set_option maxHeartbeats 1000000 in
theorem ref_tag_text (l s r : ByteArray) (A : Option Addr) (c : Nat) (vs : List ByteArray) (w : World) (hX : StrsIn w A vs) (hA : A = none → c = 0) (hok : tagErr l.data.toList s.data.toList r.data.toList (listsOf vs) = 0) :
    Calls Tryd.prog 20 #[tagV l s r A vs.length c] w fun e w' => e = .returned (.string ⟨(tagText l.data.toList s.data.toList r.data.toList (listsOf vs)).toArray⟩) ∧ Below w.heap.size w w' := by
  have hn : vs.length ≤ 3 := by
    have := (tagErr_ok hok).2.2.2.2
    simpa using this
  have hlen := text_len hok
  unfold tagText at hlen ⊢
  rw [← neL_parts] at hlen ⊢
  have hsum := lens_join_le (neL ([l, s, r] ++ vs))
  have hcnt : (neL ([l, s, r] ++ vs)).length ≤ 6 := by
    have h1 : (neL ([l, s, r] ++ vs)).length ≤ ([l, s, r] ++ vs).length := by unfold neL; exact List.length_filter_le _ _
    have h2 : ([l, s, r] ++ vs).length = vs.length + 3 := by simp
    omega
  have KP := Lib.hid (fun W (hb : Below w.heap.size w W) => ref_parts l s r A c vs W (hX.below hb) hA (by omega))
  have HC := Lib.hid hcnt
  have HS : Hid (lensB (neL ([l, s, r] ++ vs)) ≤ 100) := Lib.hid (by omega)
  have hb0 : Below w.heap.size w (w.alloc (.cells #[.string l, .string s, .string r, .slice A vs.length c] 47)) := (by (repeat (first | with_reducible exact Below.refl _ _ | with_reducible refine bel_set ?_ ?_ | with_reducible refine bel_alloc ?_ ?_ | with_reducible refine Below.drew ?_ | with_reducible refine bel_drewN _ ?_ | with_reducible refine bel_call ?_ (by assumption) ?_)); all_goals (first | (simp; done) | omega | (simp; omega)))
  have HB0 := Lib.hid hb0
  clear hX hA hok hn hlen hsum hcnt hb0
  generalize neL ([l, s, r] ++ vs) = ps at *
  go_enter Tryd.func20, Tryd.ntmps20
  go_wp2_with fail
  refine (KP.out _ HB0.out).mono ?_
  rintro e w1 ⟨v, rfl, ho, hb1⟩
  obtain ⟨A1, c1, rfl, h0, hs1, _⟩ := ho.form
  have hcap := ho.cap.2
  have KJ := Lib.hid (ref_joined A1 c1 ps ⟨#[45]⟩ w1 hs1 hcap (by have := HC.out; omega) (by have := HS.out; omega) (by decide))
  have HB1 := Lib.hid (HB0.out.trans (hb1.mono HB0.out.size))
  clear ho hs1 hcap h0 hb1
  go_wp2_with fail
  refine KJ.out.mono ?_
  rintro e w2 ⟨rfl, rfl⟩
  go_wp2_with fail
  go_ret
  exact ⟨rfl, HB1.out⟩
end Go.Proofs.YtnhlnhmjnnopaaaDoor
