/- PropText: texts put together. -/
import Derived.Test.YtnhlnhmjnnopaaaGreatDoorPp31
import Derived.Test.YtnhlnhmjnnopaaaGreatDoorPp19
import Derived.Test.YtnhlnhmjnnopaaaGreatDoorPp2
import Derived.Deep.RegionHeld3
set_option linter.unusedVariables false
set_option linter.unusedSimpArgs false
/- prop.Text of a right bundle. -/
namespace Go.Proofs.YtnhlnhmjnnopaaaGreatDoor
open Go.RowKit

theorem esc_any (B rb : Nat) (s : ByteArray) (w : World) (h : EscNew w B rb ∨ EscUsed w rb) (hs : s.size ≤ 10000000) :
    Calls Tryz.prog 37 #[.pointer (some ⟨rb, 0, none⟩), .string s] w fun e w' => e = .returned (.string ⟨(escP s.data.toList).toArray⟩) ∧ EscUsed w' rb ∧ Off [rb] w w' :=
  h.elim (fun h => esc_first B rb s w h hs) (fun h => esc_again rb s w h hs)
theorem EscAny.off {w w' : World} {B rb : Nat} {m : List Nat} (h : EscNew w B rb ∨ EscUsed w rb) (hf : Off m w w') (hm : Soft w m) : EscNew w' B rb ∨ EscUsed w' rb :=
  h.imp (fun h => h.off hf hm) (fun h => h.off hf hm)
theorem EscAny.ty {w : World} {B rb : Nat} (h : EscNew w B rb ∨ EscUsed w rb) : TyAt w rb 122 := h.elim (·.ty) (·.ty)
/-- a text's line -/
def lineT (e : EntC) : ByteArray := e.key ++ ⟨#[61]⟩ ++ ⟨(escP e.text.data.toList).toArray⟩ ++ ⟨#[10]⟩
def headT (tg : ByteArray) : ByteArray := ⟨#[64]⟩ ++ tg ++ ⟨#[10]⟩
theorem lineT_is (e : EntC) : (lineT e).data.toList = lineP e := by unfold lineT lineP; simp
theorem headT_is (tg : ByteArray) : (headT tg).data.toList = headP tg := by unfold headT headP; simp
theorem lineT_size (e : EntC) (h : e.key.size ≤ 40 ∧ e.text.size ≤ 2000) : (lineT e).size ≤ 4042 := by
  have h1 := esc_len e.text.data.toList
  have h2 : e.text.data.toList.length = e.text.size := by rw [Array.length_toList]; rfl
  have h3 : (lineT e).size = (lineT e).data.toList.length := by rw [Array.length_toList]; rfl
  have h4 : e.key.data.toList.length = e.key.size := by rw [Array.length_toList]; rfl
  rw [h3, lineT_is]
  unfold lineP
  simp only [List.length_append, List.length_cons, List.length_nil]
  omega
theorem headT_size (tg : ByteArray) (h : tg.size ≤ 1000) : (headT tg).size ≤ 1002 := by
  have h3 : (headT tg).size = (headT tg).data.toList.length := by rw [Array.length_toList]; rfl
  have h4 : tg.data.toList.length = tg.size := by rw [Array.length_toList]; rfl
  rw [h3, headT_is]
  unfold headP
  simp only [List.length_append, List.length_cons, List.length_nil]
  omega
theorem lines_len : ∀ l : List EntC, (∀ e ∈ l, e.key.size ≤ 40 ∧ e.text.size ≤ 2000) → (l.flatMap lineP).length ≤ l.length * 4042
  | [], _ => by simp
  | e :: l, h => by
    have h1 := lines_len l (fun x hx => h x (List.mem_cons_of_mem _ hx))
    have h2 := lineT_size e (h e List.mem_cons_self)
    rw [show (lineT e).size = (lineT e).data.toList.length by rw [Array.length_toList]; rfl, lineT_is] at h2
    rw [List.flatMap_cons, List.length_append, List.length_cons]
    omega
theorem BuiltAt.soft {w : World} {B b : Nat} {v : Value} {l : List UInt8} (h : BuiltAt w B b v l) : Soft w (b :: v.ownBlock.toList) := fun k hk => by
  rcases List.mem_cons.1 hk with rfl | hk
  · exact .inr h.ty
  · exact .inl (h.own.ty k hk)
set_option maxHeartbeats 8000000 in
set_option maxRecDepth 100000 in
theorem prop_text (b : BunC) (A : Option Addr) (c : Nat) (w : World) (hM : MaxL w) (hF : BunFine w b A c) (hs : b.small) (he : b.err = 0) (hn : b.es.length ≤ 100) (ht : b.tag.size ≤ 1000) (hk : ∀ e ∈ b.es, e.key.size ≤ 40 ∧ e.text.size ≤ 2000) :
    Calls Tryz.prog 11 #[bunV b A c] w fun e w' => e = .returned (.tuple #[.string ⟨(textP b.tag b.es).toArray⟩, .nilIface]) ∧ Below w.heap.size w w' := by
  have KC := Lib.hid (fun W (hb : Below w.heap.size w W) => prop_check b A c W (hM.below hb) (hF.below hb) hs)
  rw [he, errOf, if_pos rfl] at KC
  clear he
  obtain ⟨tg, es⟩ := b
  obtain ⟨hE, hc, hc2, _⟩ := hF
  simp only at hE hc hn ht hk
  have HE := Lib.hid hE
  have HK := Lib.hid hk
  unfold bunV at KC ⊢
  simp only at KC ⊢
  clear hE hM hs hk
  have hb0 : Below w.heap.size w (w.alloc (.cells #[.string tg, .slice A es.length c] 24)) := (by (repeat (first | with_reducible exact Below.refl _ _ | with_reducible refine bel_set ?_ ?_ | with_reducible refine bel_alloc ?_ ?_ | with_reducible refine Below.drew ?_ | with_reducible refine bel_drewN _ ?_ | with_reducible refine bel_call ?_ (by assumption) ?_)); all_goals (first | (simp; done) | omega | (simp; omega)))
  have HB0 := Lib.hid hb0
  clear hb0
  go_enter Tryz.func11, Tryz.ntmps11
  go_wp2_with fail
  refine (KC.out _ HB0.out).mono ?_
  rintro e w1 ⟨rfl, hb1⟩
  have c0 : w1.cell? ⟨w.heap.size, 0, none⟩ = some (.string tg) := carry hb1 (by go_simp)
  have c1 : w1.cell? ⟨w.heap.size, 1, none⟩ = some (.slice A es.length c) := carry hb1 (by go_simp)
  have HB1 := Lib.hid (HB0.out.trans (hb1.mono HB0.out.size))
  clear hb1 KC
  go_wp2_with fail
  have hL : LiesG kTx (w1.alloc (.cells #[.string ⟨#[92]⟩, .string ⟨#[92, 92]⟩, .string ⟨#[10]⟩, .string ⟨#[92, 110]⟩, .string ⟨#[13]⟩, .string ⟨#[92, 114]⟩] 9)) (some ⟨w1.heap.size, 0, none⟩) six := by
    refine .inr ⟨_, 0, rfl, fun j t i u ht hu => ?_⟩
    have hb := heap_alloc_new w1 (.cells #[.string ⟨#[92]⟩, .string ⟨#[92, 92]⟩, .string ⟨#[10]⟩, .string ⟨#[92, 110]⟩, .string ⟨#[13]⟩, .string ⟨#[92, 114]⟩] 9)
    rw [cell_of_row _ _ _ _ _ _ hb]
    match i, hu with
    | 0, hu =>
      cases hu
      match j, ht with
      | 0, ht => cases ht; rfl
      | 1, ht => cases ht; rfl
      | 2, ht => cases ht; rfl
      | 3, ht => cases ht; rfl
      | 4, ht => cases ht; rfl
      | 5, ht => cases ht; rfl
  have hq1 : Below w1.heap.size w1 (w1.alloc (.cells #[.string ⟨#[92]⟩, .string ⟨#[92, 92]⟩, .string ⟨#[10]⟩, .string ⟨#[92, 110]⟩, .string ⟨#[13]⟩, .string ⟨#[92, 114]⟩] 9)) := (by (repeat (first | with_reducible exact Below.refl _ _ | with_reducible refine bel_set ?_ ?_ | with_reducible refine bel_alloc ?_ ?_ | with_reducible refine Below.drew ?_ | with_reducible refine bel_drewN _ ?_ | with_reducible refine bel_call ?_ (by assumption) ?_)); all_goals (first | (simp; done) | omega | (simp; omega)))
  refine (new_replacer _ 6 _ hL (fun h => by cases h)).mono ?_
  rintro e w2 ⟨rb, rfl, hE2, hrb, hb2⟩
  have c0 := carry hb2 (carry hq1 c0)
  have c1 := carry hb2 (carry hq1 c1)
  have HB2 := Lib.hid (HB1.out.trans ((hq1.trans (hb2.mono hq1.size)).mono HB1.out.size))
  have HE2 := Lib.hid hE2
  clear hL hq1 hb2 hE2
  have hl2 := lt_of_cell c0
  go_wp2_with fail
  have hBT := BuiltAt.mk0 w2 (Nat.le_refl _)
  have hq2 : Below w2.heap.size w2 (w2.alloc (.cells #[.pointer none, .slice none 0 0] 85)) := (by (repeat (first | with_reducible exact Below.refl _ _ | with_reducible refine bel_set ?_ ?_ | with_reducible refine bel_alloc ?_ ?_ | with_reducible refine Below.drew ?_ | with_reducible refine bel_drewN _ ?_ | with_reducible refine bel_call ?_ (by assumption) ?_)); all_goals (first | (simp; done) | omega | (simp; omega)))
  have hs2 : (w2.alloc (.cells #[.pointer none, .slice none 0 0] 85)).heap.size = w2.heap.size + 1 := by simp
  have hsz := headT_size tg ht
  refine (built_write (headT tg) hBT (by simp; omega) (by omega)).mono ?_
  rintro e w3 ⟨rfl, hwr⟩
  obtain ⟨v3, hB3, _⟩ := hwr.at_
  have ho3 : Off [w2.heap.size] w2 w3 := by
    have := hwr.off
    exact ((Off.refl _ w2).below hq2 (Nat.le_refl _)).trans this
  have hE3 : EscNew w3 _ rb := (HE2.out.off (m := []) (Off.ofBelowB hq2) (Soft.nil _)).off hwr.off hBT.soft
  have c0 := ho3.cell c0 (by simp; omega)
  have c1 := ho3.cell c1 (by simp; omega)
  have hb3 : Below w.heap.size w w3 := HB2.out.trans (ho3.toBelow (fun k hk => by simp at hk; omega) (by omega))
  rw [List.nil_append, headT_is] at hB3
  obtain ⟨Bx, hBx⟩ : ∃ Bx, Bx = (w1.alloc (.cells #[.string ⟨#[92]⟩, .string ⟨#[92, 92]⟩, .string ⟨#[10]⟩, .string ⟨#[92, 110]⟩, .string ⟨#[13]⟩, .string ⟨#[92, 114]⟩] 9)).heap.size := ⟨_, rfl⟩
  rw [← hBx] at hE3
  obtain ⟨ob, hob⟩ : ∃ ob, ob = w2.heap.size := ⟨_, rfl⟩
  have hge : w.heap.size ≤ ob := by omega
  have HRB : Hid (w.heap.size ≤ rb) := Lib.hid (by have := HB1.out.size; simp at hrb; omega)
  rw [← hob] at hB3 ⊢
  have HB3 := Lib.hid hB3
  have HE3 := Lib.hid (Or.inl (b := EscUsed w3 rb) hE3)
  have HBL3 := Lib.hid hb3
  have l3 := lt_of_cell c0
  clear hBT hq2 hs2 hsz hwr ho3 hE3 hb3 hB3 hBx hob hl2 hrb
  go_wp2_with fail
  go_loopw [24] (fun i wr => ∃ (j : Nat) (v : Value), j ≤ es.length ∧ i = .int .i64 j ∧ Hid (BuiltAt wr ob ob v (headP tg ++ (es.take j).flatMap lineP)) ∧ Hid (EscNew wr Bx rb ∨ EscUsed wr rb) ∧ Hid (Below w.heap.size w wr)) (fun i _ => es.length - (intOf i).toNat)
  case atStart => exact ⟨0, v3, Nat.zero_le _, rfl, Lib.hid (by rw [List.take_zero, List.flatMap_nil, List.append_nil]; exact HB3.out), HE3, HBL3⟩
  case round =>
    obtain ⟨j, v, hj, rfl, HBt, HEs, HBr⟩ := hrel
    by_cases hlt : j < es.length
    · obtain ⟨g, o, rfl, hat⟩ := (HE.out.below HBr.out).at (by omega)
      obtain ⟨x, hx⟩ : ∃ x, es[j]? = some x := ⟨_, List.getElem?_eq_getElem hlt⟩
      obtain ⟨y0, y1⟩ := hat j x hx
      have hkx := HK.out x (List.mem_of_getElem? hx)
      have hlx := lineT_size x hkx
      have HNX : Hid (headP tg ++ (es.take (j + 1)).flatMap lineP = (headP tg ++ (es.take j).flatMap lineP) ++ (lineT x).data.toList) := Lib.hid (by
        rw [List.take_add_one, hx, List.flatMap_append, lineT_is, List.append_assoc]
        simp)
      have hll := lines_len (es.take j) (fun e he => HK.out e (List.mem_of_mem_take he))
      have hjl : (es.take j).length ≤ 100 := by rw [List.length_take]; omega
      have hhl : (headP tg).length ≤ 1002 := by
        have := headT_size tg ht
        rw [show (headT tg).size = (headT tg).data.toList.length by rw [Array.length_toList]; rfl, headT_is] at this
        exact this
      obtain ⟨acc, hacc⟩ : ∃ acc, acc = headP tg ++ (es.take j).flatMap lineP := ⟨_, rfl⟩
      have hal : acc.length ≤ 500000 := by rw [hacc, List.length_append]; omega
      rw [← hacc] at HBt HNX
      have i8 : (j : Int) < (es.length : Int) := by omega
      have i7 : (0 : Int) ≤ (j : Int) := by omega
      have i6 : (j : Int) < (c : Int) := by omega
      have HAL := Lib.hid (And.intro hal (And.intro hlx hkx))
      have gl := lt_of_cell y0
      clear hat hx hll hjl hhl hacc hal hlx hkx
      go_wp2_with fail
      obtain ⟨exb, hexb⟩ : ∃ exb : ByteArray, exb = ⟨(escP x.text.data.toList).toArray⟩ := ⟨_, rfl⟩
      have hexs : exb.size ≤ 4000 := by
        have h1 := esc_len x.text.data.toList
        have h2 : x.text.data.toList.length = x.text.size := by rw [Array.length_toList]; rfl
        have h3 : exb.size = (escP x.text.data.toList).length := by rw [hexb]; rfl
        have := HAL.out.2.2.2
        omega
      have hkx := HAL.out.2.2.1
      obtain ⟨W1, hW1⟩ : ∃ W1, W1 = wr.alloc (.cells #[.string x.key, .string x.text] 50) := ⟨_, rfl⟩
      have hq : Below wr.heap.size wr W1 := by rw [hW1]; exact (by (repeat (first | with_reducible exact Below.refl _ _ | with_reducible refine bel_set ?_ ?_ | with_reducible refine bel_alloc ?_ ?_ | with_reducible refine Below.drew ?_ | with_reducible refine bel_drewN _ ?_ | with_reducible refine bel_call ?_ (by assumption) ?_)); all_goals (first | (simp; done) | omega | (simp; omega)))
      have k0 : W1.cell? ⟨wr.heap.size, 0, none⟩ = some (.string x.key) := by rw [hW1]; go_simp
      have k1 : W1.cell? ⟨wr.heap.size, 1, none⟩ = some (.string x.text) := by rw [hW1]; go_simp
      have hbt1 := HBt.out.below hq
      have hes1 := EscAny.off (m := []) HEs.out (Off.ofBelowB hq) (Soft.nil _)
      have hrl := (EscAny.ty HEs.out).lt
      have hol := HBt.out.ty.lt
      rw [← hW1]
      have KR : Hid (∀ W, Off [] W1 W → Calls Tryz.prog 37 #[.pointer (some ⟨rb, 0, none⟩), .string x.text] W fun e W' => e = .returned (.string exb) ∧ EscUsed W' rb ∧ Off [rb] W1 W') := Lib.hid (fun W hO => by
        have := esc_any Bx rb x.text W (EscAny.off hes1 hO (Soft.nil _)) (by have := HAL.out.2.2.2; omega)
        rw [← hexb] at this
        refine this.mono ?_
        rintro e W' ⟨rfl, h1, h2⟩
        exact ⟨rfl, h1, (hO.more (fun _ h => absurd h List.not_mem_nil)).trans h2⟩)
      have hT1 := EscAny.ty hes1
      have nob : ob ∉ [rb] := fun hm => by
        simp only [List.mem_singleton] at hm
        exact hbt1.ty.ne hT1 (by decide) hm
      have nv : ∀ g, v.ownBlock = some g → g ∉ [rb] := fun g hg hm => by
        simp only [List.mem_singleton] at hm
        exact (hbt1.own.ty g (by simp [hg])).ne hT1 (by decide) hm
      have hlin : lineT x = x.key ++ ⟨#[61]⟩ ++ exb ++ ⟨#[10]⟩ := by rw [hexb]; rfl
      have KW : Hid (∀ W, Off [rb] W1 W → Calls Tryz.prog 36 #[.pointer (some ⟨ob, 0, none⟩), .string (x.key ++ ⟨#[61]⟩ ++ exb ++ ⟨#[10]⟩)] W fun e W' => (∃ n : Int, e = .returned (.tuple #[.int .i64 n, .nilIface])) ∧ ∃ v', BuiltAt W' ob ob v' (acc ++ (lineT x).data.toList) ∧ Off (ob :: v.ownBlock.toList) W W' ∧ Soft W (ob :: v.ownBlock.toList)) := Lib.hid (fun W hO => by
        have hb := hbt1.off hO nob nv
        have := built_write (lineT x) hb (by have := HAL.out.1; have := HAL.out.2.1; omega) (Nat.le_of_lt hb.ty.lt)
        rw [hlin] at this
        refine this.mono ?_
        rintro e W' ⟨rfl, h1⟩
        obtain ⟨v', h2, _⟩ := h1.at_
        rw [hlin]
        exact ⟨⟨_, rfl⟩, v', h2, h1.off, hb.soft⟩)
      obtain ⟨eb, heb⟩ : ∃ eb, eb = wr.heap.size := ⟨_, rfl⟩
      rw [← heb] at k0 k1 ⊢
      have neb : eb ∉ [rb] := fun hm => by
        simp only [List.mem_singleton] at hm
        omega
      have hs1 : eb < W1.heap.size := lt_of_cell k0
      have HB1r := Lib.hid (HBr.out.trans (hq.mono HBr.out.size))
      have HGE := Lib.hid (And.intro hge (Nat.le_of_lt hol))
      have NEB := Lib.hid neb
      have HRW := Lib.hid (HBr.out.size)
      have r1 : ¬ 9223372036854775807 < x.key.size + 1 := by omega
      have r2 : ¬ 9223372036854775807 < x.key.size + 1 + exb.size := by omega
      have r3 : ¬ 9223372036854775807 < x.key.size + 1 + exb.size + 1 := by omega
      have TEB : Hid (TyAt W1 eb 50) := Lib.hid (by rw [hW1, heb]; exact TyAt.new _ _ _)
      have HVB : Hid (∀ k ∈ ob :: v.ownBlock.toList, w.heap.size ≤ k) := Lib.hid (fun k hk => by
        rcases List.mem_cons.1 hk with rfl | hk
        · exact hge
        · exact Nat.le_trans hge (hbt1.own.block k hk).1)
      clear hW1 hq hbt1 hes1 hT1 nob nv hlin hrl hol hexb y0 y1 heb neb
      go_region_held3 (fun W => W.cell? ⟨eb, 0, none⟩ = some (.string x.key) ∧ W.cell? ⟨eb, 1, none⟩ = some (.string x.text)) (first | go_keep | exact ⟨kb0, kb1⟩ | exact ⟨hOA.out.cell k0 NEB.out, hOA.out.cell k1 NEB.out⟩) (first | (go_at_call 37; refine (KR.out _ (by exact ⟨rfl, rfl, rfl, Nat.le_refl _, fun _ _ _ => rfl⟩)).mono ?_; rintro e wA ⟨rfl, hU, hO⟩; have hOA := Lib.hid hO; have hUA := Lib.hid hU; clear hU hO) | (go_at_call 36; refine (KW.out _ hOA.out).mono ?_; rintro e wB ⟨⟨n, rfl⟩, v', hbB, hoB, hsB⟩; have nn := (TEB.out.off hOA.out NEB.out).soft hsB (by decide) (by decide); have kb0 := hoB.cell (hOA.out.cell k0 NEB.out) nn; have kb1 := hoB.cell (hOA.out.cell k1 NEB.out) nn; have HW := Lib.hid (And.intro hbB (And.intro hoB hsB)); clear hbB hoB hsB nn))
      go_wp2_with fail
      refine ⟨⟨j + 1, v', hlt, by congr 1, Lib.hid (by rw [HNX.out]; exact HW.out.1), Lib.hid (.inr (hUA.out.off HW.out.2.1 HW.out.2.2)), Lib.hid ?_⟩, meas_down hlt⟩
      have s1 := HB1r.out.size
      have b1 : Below w.heap.size W1 wA := hOA.out.toBelow (fun k hk => by
        simp only [List.mem_singleton] at hk
        rw [hk]
        exact HRB.out) s1
      exact (HB1r.out.trans b1).trans (HW.out.2.1.toBelow HVB.out (Nat.le_trans s1 b1.size))
    · obtain rfl : j = es.length := by omega
      have i8 : ¬ ((es.length : Int) < (es.length : Int)) := by omega
      have hB := HBt.out
      rw [List.take_of_length_le (Nat.le_refl _)] at hB
      have HBt2 := Lib.hid hB
      have hob2 : ob ≤ wr.heap.size := Nat.le_of_lt hB.ty.lt
      clear hB
      go_wp2_with fail
      refine (built_string HBt2.out hob2).mono ?_
      rintro e w5 ⟨rfl, hb5, _⟩
      have HB5 := Lib.hid (HBr.out.trans (hb5.mono hge))
      clear hb5
      go_wp2_with fail
      go_ret2
      exact ⟨rfl, HB5.out⟩
end Go.Proofs.YtnhlnhmjnnopaaaGreatDoor
