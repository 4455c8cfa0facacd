/- pick.names. -/
import Derived.Test.YtdpdnanjanceeaaDoorTagsFault
import Derived.Test.YtdpdnanjanceeaaDoorTagText
namespace Go.Proofs.YtdpdnanjanceeaaDoor
open Go.RowKit
attribute [local go_sem ↓] Go.wp_at_zero Go.wp_at_succ

def TagD.text (t : TagD) : ByteArray := ⟨(tagText t.c.l.data.toList t.c.s.data.toList t.c.r.data.toList (listsOf t.c.vs)).toArray⟩

set_option maxHeartbeats 2000000 in
theorem pick_names_no (g o n c : Nat) (ts : List TagD) (w : World) (h1 : TagsIn w g o ts) (hn : ts.length = n) (hnc : n ≤ c) (hk1 : ∀ t ∈ ts, t.fine w) (hz : ∀ t ∈ ts, t.small) (hsz : n ≤ 1955000000000) (hE : tagsErr ts ≠ 0) :
    Calls Tryd.prog 45 #[.slice (some ⟨g, o, none⟩) n c] w fun e w' => e = .returned (.tuple #[.slice none 0 0, errT (tagsErr ts)]) ∧ Below w.heap.size w w' := by
  have H1 := Lib.hid h1
  have HK1 := Lib.hid hk1
  have HZ := Lib.hid hz
  have HN := Lib.hid hn
  have HE : Hid (tagsErr (ts.drop 0) = tagsErr ts) := Lib.hid rfl
  generalize tagsErr ts = E at *
  clear h1 hk1 hz hn
  go_enter Tryd.func45, Tryd.ntmps45
  go_wp2_with fail
  go_loopw [4, 10] (fun p i wr => ∃ (k : Nat) (A : Option Addr) (d : Nat) (xs : List ByteArray), k ≤ n ∧ i = .int .i64 k ∧ p = .slice A xs.length d ∧ xs.length ≤ k ∧ Hid (OwnsS wr w.heap.size (.slice A xs.length d) xs) ∧ Hid (tagsErr (ts.drop k) = E) ∧ Hid (Below w.heap.size w wr)) (fun _ i _ => n - (intOf i).toNat)
  case atStart => exact ⟨0, none, 0, [], Nat.zero_le _, rfl, rfl, Nat.le_refl _, Lib.hid (OwnsS.nil _ _), HE, Lib.hid (Below.refl _ _)⟩
  case round =>
    obtain ⟨k, B, d, xs, hk, rfl, rfl, hxs, HO, HV, HB⟩ := hrel
    by_cases hlt : k < n
    · obtain ⟨t, ht⟩ : ∃ t, ts[k]? = some t := ⟨ts[k]'(by have := HN.out; omega), List.getElem?_eq_getElem _⟩
      have ok1 := (HK1.out t (List.mem_of_getElem? ht)).below HB.out
      have sm := HZ.out t (List.mem_of_getElem? ht)
      have hT := (H1.out.below HB.out)
      have hst := tagsErr_step ts k t ht
      rw [HV.out] at hst
      obtain ⟨⟨l, s, r, vs⟩, A, q⟩ := t
      have a0 := hT k _ 0 _ ht rfl
      have a1 := hT k _ 1 _ ht rfl
      have a2 := hT k _ 2 _ ht rfl
      have a3 := hT k _ 3 _ ht rfl
      simp only [Nat.add_zero] at a0 a1 a2 a3
      obtain ⟨⟨z1, z2, z3⟩, z4, z5⟩ := sm
      simp only at z1 z2 z3 z4 z5
      have i0 : (0 : Int) ≤ (k : Int) := by omega
      have i1 : (k : Int) < (n : Int) := by omega
      have i2 : (k : Int) ≤ (c : Int) := by omega
      have vl : vs.length ≤ q := ok1.2.2
      have KF := Lib.hid (fun W (hb : Below wr.heap.size wr W) => tag_check l s r A q vs W (by omega) (by omega) (by omega) (ok1.1.below hb) (by omega) vl (fun v hv => by have := z4 v hv; omega))
      have sB := HB.out.size
      have ee : (TagD.mk ⟨l, s, r, vs⟩ A q).c.err = tagErr l.data.toList s.data.toList r.data.toList (listsOf vs) := rfl
      rw [ee] at hst
      by_cases h0 : tagErr l.data.toList s.data.toList r.data.toList (listsOf vs) = 0
      · have e0 : errOf 0 = .nilIface := rfl
        have KT := Lib.hid (fun W (hb : Below wr.heap.size wr W) => tag_text l s r A q vs W (ok1.1.below hb) ok1.2.1 h0)
        rw [h0, e0] at KF
        rw [h0, if_pos rfl] at hst
        have HS := Lib.hid hst.symm
        generalize (⟨(tagText l.data.toList s.data.toList r.data.toList (listsOf vs)).toArray⟩ : ByteArray) = T at *
        clear hst ht hT ok1 z1 z2 z3 z4 z5 ee e0 h0
        have e1 : IntKind.i64.wrap ((k : Int) + 1) = (k : Int) + 1 := IntWalk.i64_in _ (by omega)
        go_wp2_with fail
        refine (KF.out _ ((Below.refl _ _).alloc (Nat.le_refl _) _)).mono ?_
        rintro e w1 ⟨rfl, hb⟩
        have s1 := hb.size
        simp at s1
        have b0 : w1.cell? ⟨wr.heap.size, 0, none⟩ = some (.string l) := carry hb (by go_simp)
        have b1 : w1.cell? ⟨wr.heap.size, 1, none⟩ = some (.string s) := carry hb (by go_simp)
        have b2 : w1.cell? ⟨wr.heap.size, 2, none⟩ = some (.string r) := carry hb (by go_simp)
        have b3 : w1.cell? ⟨wr.heap.size, 3, none⟩ = some (.slice A vs.length q) := carry hb (by go_simp)
        have hB1 : Below wr.heap.size wr w1 := ((Below.refl _ _).alloc (Nat.le_refl _) _).trans (hb.mono (by simp))
        clear hb
        go_wp2_with fail
        refine (KT.out _ hB1).mono ?_
        rintro e w2 ⟨rfl, hb⟩
        have hB2 : Below wr.heap.size wr w2 := hB1.trans (hb.mono (by omega))
        have s2 := hb.size
        have HO2 := Lib.hid (HO.out.below hB2)
        clear hb hB1 b0 b1 b2 b3 a0 a1 a2 a3 HO KF KT
        go_wp2_with (at_builtin; refine wpList_append_one rfl _ _ rfl T rfl rfl (HO2.out.alloc _) (by go_simp) (by simp; omega) (by omega) ?_; intro v' w' ho hoff)
        have hbl := OwnsS.grown (HO2.out.alloc (.cells #[.string T] 9)) hoff (by simp; omega)
        have HB3 : Hid (Below w.heap.size w w') := Lib.hid (((HB.out.trans (hB2.mono sB)).alloc (by omega) _).trans hbl)
        obtain ⟨A', d', rfl, _⟩ := ho.form
        have HO3 := Lib.hid ho
        have hl3 : (xs ++ [T]).length ≤ k + 1 := by simp; omega
        clear ho hoff hbl
        go_roundw
        case rel => exact ⟨k + 1, A', d', _, by omega, by go_num, rfl, hl3, HO3, HS, HB3⟩
        case measure => simp [intOf]; omega
      · have e0 : errOf (tagErr l.data.toList s.data.toList r.data.toList (listsOf vs)) = errT (tagErr l.data.toList s.data.toList r.data.toList (listsOf vs)) := by unfold errOf; rw [if_neg h0]
        rw [e0] at KF
        rw [if_neg h0] at hst
        have HS := Lib.hid hst
        generalize tagErr l.data.toList s.data.toList r.data.toList (listsOf vs) = F at *
        clear hst ht hT ok1 z1 z2 z3 z4 z5 ee e0
        go_wp2_with fail
        refine (KF.out _ ((Below.refl _ _).alloc (Nat.le_refl _) _)).mono ?_
        rintro e w1 ⟨rfl, hb⟩
        have s1 := hb.size
        simp at s1
        go_wp2_with fail
        go_ret2
        rw [HS.out]
        exact ⟨rfl, (HB.out.alloc sB _).trans (hb.mono (by simp; omega))⟩
    · exfalso
      have := HV.out
      rw [List.drop_of_length_le (by have := HN.out; omega)] at this
      exact hE this.symm

set_option maxHeartbeats 2000000 in
theorem pick_names_ok (g o n c : Nat) (ts : List TagD) (w : World) (h1 : TagsIn w g o ts) (hn : ts.length = n) (hnc : n ≤ c) (hk1 : ∀ t ∈ ts, t.fine w) (hz : ∀ t ∈ ts, t.small) (hsz : n ≤ 1955000000000) (hE : tagsErr ts = 0) :
    Calls Tryd.prog 45 #[.slice (some ⟨g, o, none⟩) n c] w fun e w' => (∃ A d, e = .returned (.tuple #[.slice A n d, .nilIface]) ∧ OwnsS w' w.heap.size (.slice A n d) (ts.map TagD.text)) ∧ Below w.heap.size w w' := by
  have H1 := Lib.hid h1
  have HK1 := Lib.hid hk1
  have HZ := Lib.hid hz
  have HN := Lib.hid hn
  have HE : Hid (tagsErr (ts.drop 0) = tagsErr ts) := Lib.hid rfl
  generalize tagsErr ts = E at *
  clear h1 hk1 hz hn
  go_enter Tryd.func45, Tryd.ntmps45
  go_wp2_with fail
  go_loopw [4, 10] (fun p i wr => ∃ (k : Nat) (A : Option Addr) (d : Nat) (xs : List ByteArray), k ≤ n ∧ i = .int .i64 k ∧ p = .slice A xs.length d ∧ xs.length ≤ k ∧ Hid (OwnsS wr w.heap.size (.slice A xs.length d) xs) ∧ Hid (tagsErr (ts.drop k) = E) ∧ Hid (xs = (ts.take k).map TagD.text) ∧ Hid (Below w.heap.size w wr)) (fun _ i _ => n - (intOf i).toNat)
  case atStart => exact ⟨0, none, 0, [], Nat.zero_le _, rfl, rfl, Nat.le_refl _, Lib.hid (OwnsS.nil _ _), HE, Lib.hid rfl, Lib.hid (Below.refl _ _)⟩
  case round =>
    obtain ⟨k, B, d, xs, hk, rfl, rfl, hxs, HO, HV, HX, HB⟩ := hrel
    by_cases hlt : k < n
    · obtain ⟨t, ht⟩ : ∃ t, ts[k]? = some t := ⟨ts[k]'(by have := HN.out; omega), List.getElem?_eq_getElem _⟩
      have ok1 := (HK1.out t (List.mem_of_getElem? ht)).below HB.out
      have sm := HZ.out t (List.mem_of_getElem? ht)
      have hT := (H1.out.below HB.out)
      have hst := tagsErr_step ts k t ht
      rw [HV.out] at hst
      obtain ⟨⟨l, s, r, vs⟩, A, q⟩ := t
      have a0 := hT k _ 0 _ ht rfl
      have a1 := hT k _ 1 _ ht rfl
      have a2 := hT k _ 2 _ ht rfl
      have a3 := hT k _ 3 _ ht rfl
      simp only [Nat.add_zero] at a0 a1 a2 a3
      obtain ⟨⟨z1, z2, z3⟩, z4, z5⟩ := sm
      simp only at z1 z2 z3 z4 z5
      have i0 : (0 : Int) ≤ (k : Int) := by omega
      have i1 : (k : Int) < (n : Int) := by omega
      have i2 : (k : Int) ≤ (c : Int) := by omega
      have vl : vs.length ≤ q := ok1.2.2
      have KF := Lib.hid (fun W (hb : Below wr.heap.size wr W) => tag_check l s r A q vs W (by omega) (by omega) (by omega) (ok1.1.below hb) (by omega) vl (fun v hv => by have := z4 v hv; omega))
      have sB := HB.out.size
      have ee : (TagD.mk ⟨l, s, r, vs⟩ A q).c.err = tagErr l.data.toList s.data.toList r.data.toList (listsOf vs) := rfl
      rw [ee] at hst
      by_cases h0 : tagErr l.data.toList s.data.toList r.data.toList (listsOf vs) = 0
      · have e0 : errOf 0 = .nilIface := rfl
        have KT := Lib.hid (fun W (hb : Below wr.heap.size wr W) => tag_text l s r A q vs W (ok1.1.below hb) ok1.2.1 h0)
        rw [h0, e0] at KF
        rw [h0, if_pos rfl] at hst
        have HS := Lib.hid hst.symm
        have HX2 : Hid (xs ++ [(⟨(tagText l.data.toList s.data.toList r.data.toList (listsOf vs)).toArray⟩ : ByteArray)] = (ts.take (k + 1)).map TagD.text) := Lib.hid (by rw [HX.out, List.take_add_one, ht, List.map_append]; rfl)
        generalize (⟨(tagText l.data.toList s.data.toList r.data.toList (listsOf vs)).toArray⟩ : ByteArray) = T at *
        clear hst ht hT ok1 z1 z2 z3 z4 z5 ee e0 h0
        have e1 : IntKind.i64.wrap ((k : Int) + 1) = (k : Int) + 1 := IntWalk.i64_in _ (by omega)
        go_wp2_with fail
        refine (KF.out _ ((Below.refl _ _).alloc (Nat.le_refl _) _)).mono ?_
        rintro e w1 ⟨rfl, hb⟩
        have s1 := hb.size
        simp at s1
        have b0 : w1.cell? ⟨wr.heap.size, 0, none⟩ = some (.string l) := carry hb (by go_simp)
        have b1 : w1.cell? ⟨wr.heap.size, 1, none⟩ = some (.string s) := carry hb (by go_simp)
        have b2 : w1.cell? ⟨wr.heap.size, 2, none⟩ = some (.string r) := carry hb (by go_simp)
        have b3 : w1.cell? ⟨wr.heap.size, 3, none⟩ = some (.slice A vs.length q) := carry hb (by go_simp)
        have hB1 : Below wr.heap.size wr w1 := ((Below.refl _ _).alloc (Nat.le_refl _) _).trans (hb.mono (by simp))
        clear hb
        go_wp2_with fail
        refine (KT.out _ hB1).mono ?_
        rintro e w2 ⟨rfl, hb⟩
        have hB2 : Below wr.heap.size wr w2 := hB1.trans (hb.mono (by omega))
        have s2 := hb.size
        have HO2 := Lib.hid (HO.out.below hB2)
        clear hb hB1 b0 b1 b2 b3 a0 a1 a2 a3 HO KF KT
        go_wp2_with (at_builtin; refine wpList_append_one rfl _ _ rfl T rfl rfl (HO2.out.alloc _) (by go_simp) (by simp; omega) (by omega) ?_; intro v' w' ho hoff)
        have hbl := OwnsS.grown (HO2.out.alloc (.cells #[.string T] 9)) hoff (by simp; omega)
        have HB3 : Hid (Below w.heap.size w w') := Lib.hid (((HB.out.trans (hB2.mono sB)).alloc (by omega) _).trans hbl)
        obtain ⟨A', d', rfl, _⟩ := ho.form
        have HO3 := Lib.hid ho
        have hl3 : (xs ++ [T]).length ≤ k + 1 := by simp; omega
        clear ho hoff hbl
        go_roundw
        case rel => exact ⟨k + 1, A', d', _, by omega, by go_num, rfl, hl3, HO3, HS, HX2, HB3⟩
        case measure => simp [intOf]; omega
      · exfalso
        rw [if_neg h0] at hst
        exact h0 (hst.symm.trans hE)
    · obtain rfl : k = n := by omega
      have hx : xs = ts.map TagD.text := by rw [HX.out, List.take_of_length_le (by have := HN.out; omega)]
      have hxl : xs.length = k := by rw [hx, List.length_map]; exact HN.out
      have HO4 : Hid (OwnsS wr w.heap.size (.slice B k d) (ts.map TagD.text)) := Lib.hid (by have := HO.out; rw [hxl, hx] at this; exact this)
      rw [hxl]
      clear hx hxl HO
      go_wp2_with fail
      go_ret2
      exact ⟨⟨B, d, rfl, HO4.out⟩, HB.out⟩
end Go.Proofs.YtdpdnanjanceeaaDoor
