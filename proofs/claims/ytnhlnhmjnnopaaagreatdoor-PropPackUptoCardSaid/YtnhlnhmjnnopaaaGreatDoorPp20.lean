/- PackEncode: texts put together. -/
import Derived.Test.YtnhlnhmjnnopaaaGreatDoorPp3
import Derived.Test.YtnhlnhmjnnopaaaGreatDoorPp13
import Derived.Test.YtnhlnhmjnnopaaaGreatDoorPp19
import Derived.Lib.SlBytesConst
set_option linter.unusedVariables false
set_option linter.unusedSimpArgs false
/- pack.Encode: how long the bytes are. -/
namespace Go.Proofs.YtnhlnhmjnnopaaaGreatDoor
open Go.RowKit

def entLen (e : EntC) : Nat := 3 + e.key.size + e.text.size
def packLen (b : BunC) : Nat := 11 + b.tag.size + (b.es.map entLen).sum
theorem err_few {b : BunC} (h : b.err = 0) : b.es.length ≤ 100 := by
  unfold BunC.err at h
  split at h
  · cases h
  · split at h
    · cases h
    · omega
theorem sum_perm {l l' : List EntC} (h : l.Perm l') : (l.map entLen).sum = (l'.map entLen).sum := (h.map entLen).sum_nat
theorem sum_le (es : List EntC) (B : Nat) (h : ∀ e ∈ es, entLen e ≤ B) : (es.map entLen).sum ≤ es.length * B := by
  induction es with
  | nil => simp
  | cons e r ih =>
    rw [List.map_cons, List.sum_cons, List.length_cons, Nat.succ_mul]
    have := ih (fun x hx => h x (List.mem_cons_of_mem _ hx))
    have := h e List.mem_cons_self
    omega
set_option maxHeartbeats 8000000 in
set_option maxRecDepth 100000 in
theorem pack_encode (b : BunC) (A : Option Addr) (c : Nat) (w : World) (hM : MaxL w) (hF : BunFine w b A c) (hs : b.small) :
    Calls Tryz.prog 5 #[bunV b A c] w fun e w' => (if b.err = 0 then ∃ A' c', e = .returned (.tuple #[.slice A' (packLen b) c', .nilIface]) else e = .returned (.tuple #[.slice none 0 0, errT b.err])) ∧ Below w.heap.size w w' := by
  have KC := Lib.hid (fun W (hb : Below w.heap.size w W) => prop_check b A c W (hM.below hb) (hF.below hb) hs)
  obtain ⟨tg, es⟩ := b
  obtain ⟨hE, hc, hc2, _⟩ := hF
  obtain ⟨z1, z2, z3⟩ := hs
  simp only at hE hc z1 z2 z3
  have HE := Lib.hid hE
  have HZ := Lib.hid z3
  obtain ⟨R, hR⟩ : ∃ R, R = (BunC.mk tg es).err := ⟨_, rfl⟩
  rw [← hR] at KC ⊢
  have HR := Lib.hid hR
  clear hR
  clear hE hM z3
  unfold bunV at KC ⊢
  simp only at KC ⊢
  have hb0 : Below w.heap.size w (w.alloc (.cells #[.string tg, .slice A es.length c] 24)) := (by (repeat (first | with_reducible exact Below.refl _ _ | with_reducible refine bel_set ?_ ?_ | with_reducible refine bel_alloc ?_ ?_ | with_reducible refine Below.drew ?_ | with_reducible refine bel_drewN _ ?_ | with_reducible refine bel_call ?_ (by assumption) ?_)); all_goals (first | (simp; done) | omega | (simp; omega)))
  have HB0 := Lib.hid hb0
  clear hb0
  go_enter Tryz.func5, Tryz.ntmps5
  go_wp2_with fail
  refine (KC.out _ HB0.out).mono ?_
  rintro e w1 ⟨rfl, hb1⟩
  have c0 : w1.cell? ⟨w.heap.size, 0, none⟩ = some (.string tg) := carry hb1 (by go_simp)
  have c1 : w1.cell? ⟨w.heap.size, 1, none⟩ = some (.slice A es.length c) := carry hb1 (by go_simp)
  have HB1 := Lib.hid (HB0.out.trans (hb1.mono HB0.out.size))
  clear hb1
  by_cases h0 : R = 0
  · obtain ⟨wm, hwm⟩ : ∃ wm, wm = w1.alloc (.cells #[.int .u8 76, .int .u8 71, .int .u8 66, .int .u8 49] 5 (4, 5)) := ⟨_, rfl⟩
    have hcv : (convert 44 44 (.slice (some ⟨w1.heap.size, 0, none⟩) 4 4)).run Tryz.prog (w1.alloc (.cells #[.int .u8 76, .int .u8 71, .int .u8 66, .int .u8 49] 5)) = .ok (.slice (some ⟨w1.heap.size, 0, none⟩) 4 4) wm := by
      rw [hwm]
      exact Lib.run_convert_bytes_const w1 44 5 #[.int .u8 76, .int .u8 71, .int .u8 66, .int .u8 49] 4 4 Tryz.underlying44 Tryz.underlying5
    have hbm : Below w1.heap.size w1 wm := by rw [hwm]; exact (by (repeat (first | with_reducible exact Below.refl _ _ | with_reducible refine bel_set ?_ ?_ | with_reducible refine bel_alloc ?_ ?_ | with_reducible refine Below.drew ?_ | with_reducible refine bel_drewN _ ?_ | with_reducible refine bel_call ?_ (by assumption) ?_)); all_goals (first | (simp; done) | omega | (simp; omega)))
    have hms : wm.heap.size = w1.heap.size + 1 := by rw [hwm]; simp
    have hfull : FullB wm w1.heap.size (.slice (some ⟨w1.heap.size, 0, none⟩) 4 4) [76, 71, 66, 49] := by
      refine ⟨w1.heap.size, _, _, rfl, Nat.le_refl _, by rw [hwm]; exact heap_alloc_new w1 _, fun j c hc => ?_⟩
      rw [hwm]
      match j, c, hc with
      | 0, _, hc => injection hc with hc; subst hc; rw [cell_of_row _ _ 0 _ _ (4, 5) (heap_alloc_new w1 _)]; rfl
      | 1, _, hc => injection hc with hc; subst hc; rw [cell_of_row _ _ 1 _ _ (4, 5) (heap_alloc_new w1 _)]; rfl
      | 2, _, hc => injection hc with hc; subst hc; rw [cell_of_row _ _ 2 _ _ (4, 5) (heap_alloc_new w1 _)]; rfl
      | 3, _, hc => injection hc with hc; subst hc; rw [cell_of_row _ _ 3 _ _ (4, 5) (heap_alloc_new w1 _)]; rfl
    have d0 := carry hbm c0
    have d1 := carry hbm c1
    have s0 := lt_of_cell d0
    have s1 := lt_of_cell c0
    have HFULL := Lib.hid hfull
    have HBM := Lib.hid hbm
    have HMS := Lib.hid hms
    have H0 := Lib.hid h0
    rw [h0, errOf, if_pos rfl]
    clear h0 hwm hfull hbm hms c0 c1
    go_wp2_with fail
    have hTy : TyAt (wm.alloc (.cells #[.slice (some ⟨w1.heap.size, 0, none⟩) 4 4] 44)) wm.heap.size 44 := TyAt.new _ _ _
    have hbq : Below wm.heap.size wm (wm.alloc (.cells #[.slice (some ⟨w1.heap.size, 0, none⟩) 4 4] 44)) := (by (repeat (first | with_reducible exact Below.refl _ _ | with_reducible refine bel_set ?_ ?_ | with_reducible refine bel_alloc ?_ ?_ | with_reducible refine Below.drew ?_ | with_reducible refine bel_drewN _ ?_ | with_reducible refine bel_call ?_ (by assumption) ?_)); all_goals (first | (simp; done) | omega | (simp; omega)))
    have hW0 : WAt True (wm.alloc (.cells #[.slice (some ⟨w1.heap.size, 0, none⟩) 4 4] 44)) w1.heap.size wm.heap.size (.slice (some ⟨w1.heap.size, 0, none⟩) 4 4) [76, 71, 66, 49] :=
      ⟨hTy, by go_simp, .inr ⟨trivial, HFULL.out.off (Off.ofBelowB hbq) (fun _ _ hm => List.not_mem_nil hm)⟩⟩
    have hsz : w1.heap.size ≤ (wm.alloc (.cells #[.slice (some ⟨w1.heap.size, 0, none⟩) 4 4] 44)).heap.size := by have := HMS.out; simp; omega
    have d0 := carry hbq d0
    have d1 := carry hbq d1
    refine (pack_text w1.heap.size wm.heap.size _ _ tg 1 _ hW0 hsz (by omega) (by omega) (by omega) (by decide)).mono ?_
    rintro e w2 ⟨rfl, hwr⟩
    obtain ⟨v2, hW2, hF2⟩ := hwr.at_
    have nb : w.heap.size ∉ wm.heap.size :: (Value.slice (some ⟨w1.heap.size, 0, none⟩) 4 4).ownBlock.toList := by
      have := HMS.out
      simp [Value.ownBlock]
      omega
    have d0 := hwr.off.cell d0 nb
    have d1 := hwr.off.cell d1 nb
    have hb2 : Below w1.heap.size w1 w2 := ((HBM.out.trans (hbq.mono HBM.out.size))).trans (hwr.off.toBelow (by have := HMS.out; simp [Value.ownBlock]; omega) hsz)
    obtain ⟨cs2, hcs2⟩ : ∃ cs2, cs2 = ([76, 71, 66, 49] : List UInt8) ++ wordB tg.size 1 ++ tg.data.toList := ⟨_, rfl⟩
    have hl2 : cs2.length = 5 + tg.size := by rw [hcs2, List.length_append, List.length_append, wordB_len, Array.length_toList]; show 4 + 1 + tg.size = _; omega
    rw [← hcs2] at hW2
    have hbase2 : w1.heap.size ≤ w2.heap.size := hb2.size
    have HB2 := Lib.hid hb2
    have HW2 := Lib.hid hW2
    clear hwr hW2 nb hcs2 hb2 hF2 hTy hbq hW0 hsz
    go_wp2_with fail
    refine (pack_number w1.heap.size wm.heap.size v2 cs2 es.length 2 w2 HW2.out hbase2 (by omega) (by omega) (by omega) (by omega)).mono ?_
    rintro e w3 ⟨rfl, hwr⟩
    obtain ⟨v3, hW3, hF3⟩ := hwr.at_
    have nb : w.heap.size ∉ wm.heap.size :: v2.ownBlock.toList := by
      intro hm
      rcases List.mem_cons.1 hm with h | h
      · have := HMS.out; omega
      · have := (HW2.out.own.own.block _ h).1; omega
    have d0 := hwr.off.cell d0 nb
    have d1 := hwr.off.cell d1 nb
    have hb3 : Below w1.heap.size w1 w3 := HB2.out.trans (hwr.off.toBelow (fun k hk => by
      rcases List.mem_cons.1 hk with h | h
      · have := HMS.out; omega
      · exact (HW2.out.own.own.block _ h).1) hbase2)
    obtain ⟨cs3, hcs3⟩ : ∃ cs3, cs3 = cs2 ++ wordB es.length 2 := ⟨_, rfl⟩
    have hl3 : cs3.length = 7 + tg.size := by rw [hcs3, List.length_append, wordB_len]; omega
    rw [← hcs3] at hW3
    have hE3 : EntsIn w3 A es := HE.out.below (HB1.out.trans (hb3.mono HB1.out.size))
    have s3 := lt_of_cell d0
    have HB3 := Lib.hid hb3
    have HW3 := Lib.hid hW3
    have HE3 := Lib.hid hE3
    clear hwr hW3 nb hcs3 hb3 hF3 hE3 HW2 hl2
    go_wp2_with fail
    refine (values_mk A es.length c w3).mono ?_
    rintro e w4 ⟨rfl, rfl⟩
    go_wp2_with fail
    have hq4 : Below w3.heap.size w3 (w3.alloc (.cells #[.slice A es.length c] 22)) := (by (repeat (first | with_reducible exact Below.refl _ _ | with_reducible refine bel_set ?_ ?_ | with_reducible refine bel_alloc ?_ ?_ | with_reducible refine Below.drew ?_ | with_reducible refine bel_drewN _ ?_ | with_reducible refine bel_call ?_ (by assumption) ?_)); all_goals (first | (simp; done) | omega | (simp; omega)))
    refine (sorted_func A c w3.heap.size es _ (HE3.out.below hq4) (by omega) (by go_simp)).mono ?_
    rintro e w5 ⟨A5, c5, es', rfl, hp5, hE5, hA5, hb5⟩
    have hfew : es.length ≤ 100 := err_few (b := ⟨tg, es⟩) (HR.out.symm.trans H0.out)
    have hlen5 : es'.length = es.length := hp5.length_eq
    have hsm5 : ∀ e ∈ es', e.key.size ≤ 1048576 ∧ e.text.size ≤ 1048576 := fun e he => HZ.out e (hp5.mem_iff.1 he)
    have hsum5 := sum_perm hp5
    have hW5 : WAt False w5 w1.heap.size wm.heap.size v3 cs3 := (HW3.out.below hq4).below hb5
    have hwm5 : wm.heap.size < w3.heap.size := HW3.out.ty.lt
    have hB5 : Below w1.heap.size w1 w5 := (HB3.out.trans (hq4.mono HB3.out.size)).trans (hb5.mono (Nat.le_trans HB3.out.size hq4.size))
    have hsz4 : (w3.alloc (.cells #[.slice A es.length c] 22)).heap.size = w3.heap.size + 1 := by simp
    have HA5 : Hid (es = [] ∨ ∃ g, A5 = some ⟨g, 0, none⟩ ∧ g ∉ wm.heap.size :: v3.ownBlock.toList) := Lib.hid (by
      rcases hA5 with h | ⟨g, h1, h2⟩
      · exact .inl h
      · refine .inr ⟨g, h1, fun hm => ?_⟩
        rcases List.mem_cons.1 hm with h | h
        · omega
        · obtain ⟨_, cur, hc⟩ := HW3.out.own.own.block _ h
          have := (Array.getElem?_eq_some_iff.1 hc).1
          omega)
    have HFEW := Lib.hid hfew
    have HL5 := Lib.hid hlen5
    have HSM := Lib.hid hsm5
    have HSUM := Lib.hid hsum5
    have HW5 := Lib.hid hW5
    have HB5 := Lib.hid hB5
    have HE5 := Lib.hid hE5
    clear hfew hlen5 hsm5 hsum5 hW5 hwm5 hB5 hsz4 hA5 hE5 hp5 hb5 hq4 HW3 HE3 HB3 d0 d1 s3
    go_wp2_with fail
    have hbase5 : w1.heap.size ≤ w5.heap.size := HB5.out.size
    go_loopw [28] (fun i wr => ∃ j : Nat, j ≤ es.length ∧ i = .int .i64 j ∧ Hid (∃ bs', bs'.length = cs3.length + ((es'.take j).map entLen).sum ∧ Wrote False w5 wr w1.heap.size wm.heap.size v3 bs')) (fun i _ => es.length - (intOf i).toNat)
    case atStart => exact ⟨0, Nat.zero_le _, rfl, Lib.hid ⟨cs3, by simp, Wrote.refl HW5.out⟩⟩
    case round =>
      obtain ⟨j, hj, rfl, HX⟩ := hrel
      by_cases hlt : j < es.length
      · obtain ⟨bs', hbl, hwr⟩ := HX.out
        have hlt' : j < es'.length := by rw [HL5.out]; exact hlt
        obtain ⟨g, o, hA, hent⟩ := HE5.out.at (by omega)
        obtain ⟨g', hA', hg'⟩ : ∃ g, A5 = some ⟨g, 0, none⟩ ∧ g ∉ wm.heap.size :: v3.ownBlock.toList := HA5.out.resolve_left (fun h => by rw [h] at hlt; simp at hlt)
        have hgg : g = g' ∧ o = 0 := by rw [hA] at hA'; injection hA' with hA'; injection hA' with h1 h2; exact ⟨h1, h2⟩
        obtain ⟨rfl, rfl⟩ := hgg
        obtain ⟨x, hx⟩ : ∃ x, es'[j]? = some x := ⟨_, List.getElem?_eq_getElem hlt'⟩
        obtain ⟨y0, y1⟩ := hent j x hx
        have y0 := hwr.off.cell y0 hg'
        have y1 := hwr.off.cell y1 hg'
        have hsum : ((es'.take j).map entLen).sum ≤ (es'.take j).length * 2097155 := sum_le _ _ (fun e he => by
          have := HSM.out e (List.mem_of_mem_take he)
          unfold entLen
          omega)
        have hjl : (es'.take j).length = j := by rw [List.length_take]; omega
        rw [hjl] at hsum
        have hfew := HFEW.out
        have hsmall : bs'.length ≤ 300000000 := by
          have : j * 2097155 ≤ 100 * 2097155 := Nat.mul_le_mul_right _ (by omega)
          omega
        have hxs := HSM.out x (List.mem_of_getElem? hx)
        have htk : ((es'.take (j + 1)).map entLen).sum = ((es'.take j).map entLen).sum + entLen x := by
          rw [List.take_succ_eq_append_getElem hlt', List.map_append, List.sum_append]
          rw [List.getElem?_eq_getElem hlt'] at hx
          injection hx with hx
          rw [hx]
          simp
        obtain ⟨va, hWa, hFa⟩ := hwr.at_
        have hbx : Below wr.heap.size wr (wr.alloc (.cells #[.string x.key, .string x.text] 50)) := (by (repeat (first | with_reducible exact Below.refl _ _ | with_reducible refine bel_set ?_ ?_ | with_reducible refine bel_alloc ?_ ?_ | with_reducible refine Below.drew ?_ | with_reducible refine bel_drewN _ ?_ | with_reducible refine bel_call ?_ (by assumption) ?_)); all_goals (first | (simp; done) | omega | (simp; omega)))
        have hxb : (wr.alloc (.cells #[.string x.key, .string x.text] 50)).heap.size = wr.heap.size + 1 := by simp
        have hwl := hWa.ty.lt
        have HWA := Lib.hid (hWa.below hbx)
        have HOF := Lib.hid (hwr.off.below hbx hwr.off.size)
        have HFA := Lib.hid hFa
        have hbw : w1.heap.size ≤ (wr.alloc (.cells #[.string x.key, .string x.text] 50)).heap.size := by have := hwr.off.size; omega
        have hne1 : wr.heap.size ∉ wm.heap.size :: va.ownBlock.toList := fun hm => by
          rcases List.mem_cons.1 hm with h | h
          · omega
          · obtain ⟨_, cur, hc⟩ := hWa.own.own.block _ h
            have := (Array.getElem?_eq_some_iff.1 hc).1
            omega
        have i8 : (j : Int) < (es.length : Int) := by omega
        have HTK := Lib.hid htk
        have HBL := Lib.hid hbl
        have l8 := HL5.out
        clear hent hx hA' hwr hWa hFa hbx hsum hjl htk hbl HX
        subst hA
        simp only [Nat.zero_add] at y0 y1
        have hgl := lt_of_cell y0
        have hbl8 := HBL.out
        have hk1 := hxs.1
        have hk2 := hxs.2
        go_wp2_with fail
        refine (pack_text w1.heap.size wm.heap.size va bs' x.key 1 _ HWA.out hbw (by omega) (by omega) (by omega) (by omega)).mono ?_
        rintro e wA ⟨rfl, hwrA⟩
        obtain ⟨vb, hWb, hFb⟩ := hwrA.at_
        have k1 : wA.cell? ⟨wr.heap.size, 1, none⟩ = some (.string x.text) := hwrA.off.cell (by go_simp) hne1
        have k1l := lt_of_cell k1
        obtain ⟨bs2, hbs2⟩ : ∃ bs2, bs2 = bs' ++ wordB x.key.size 1 ++ x.key.data.toList := ⟨_, rfl⟩
        rw [← hbs2] at hWb
        have hl2 : bs2.length = bs'.length + 1 + x.key.size := by
          rw [hbs2, List.length_append, List.length_append, wordB_len, Array.length_toList]
          rfl
        have hbA : w1.heap.size ≤ wA.heap.size := Nat.le_trans hbw hwrA.off.size
        have HOB := Lib.hid hwrA.off
        have HFB := Lib.hid hFb
        have HWB := Lib.hid hWb
        clear hwrA hFb hWb hbs2 HWA hne1 y0 y1 hgl hg'
        go_wp2_with fail
        refine (pack_text w1.heap.size wm.heap.size vb bs2 x.text 2 wA HWB.out hbA (by omega) (by omega) (by omega) (by omega)).mono ?_
        rintro e wB ⟨rfl, hwrB⟩
        have hl3 : (bs2 ++ wordB x.text.size 2 ++ x.text.data.toList).length = bs2.length + 2 + x.text.size := by
          rw [List.length_append, List.length_append, wordB_len, Array.length_toList]
          rfl
        have hfin : Hid (∃ bs'', bs''.length = cs3.length + ((es'.take (j + 1)).map entLen).sum ∧ Wrote False w5 wB w1.heap.size wm.heap.size v3 bs'') := by
          refine Lib.hid ⟨_, ?_, Wrote.trans HOF.out HFA.out (Wrote.trans HOB.out HFB.out hwrB)⟩
          rw [hl3, hl2, HTK.out, hbl8]
          unfold entLen
          omega
        clear hwrB hl3 HOB HFB HWB HOF HFA k1 hl2 HTK HBL
        have i9 : IntKind.i64.wrap ((j : Int) + 1) = ((j + 1 : Nat) : Int) := by rw [IntWalk.i64_in _ (by omega)]; omega
        go_wp2_with fail
        exact ⟨⟨j + 1, by omega, by congr 1, hfin⟩, by simp only [intOf]; omega⟩
      · obtain rfl : j = es.length := by omega
        obtain ⟨bs', hbl, hwr⟩ := HX.out
        have htake : es'.take es.length = es' := List.take_of_length_le (by rw [HL5.out]; exact Nat.le_refl _)
        rw [htake, HSUM.out] at hbl
        have hsum := sum_le es 2097155 (fun e he => by
          have := HZ.out e he
          unfold entLen
          omega)
        have hfew := HFEW.out
        have hblen : bs'.length = 7 + tg.size + (es.map entLen).sum := by omega
        have hsmall : bs'.length ≤ 300000000 := by
          have : es.length * 2097155 ≤ 100 * 2097155 := Nat.mul_le_mul_right _ (by omega)
          omega
        obtain ⟨va, hWa, hFa⟩ := hwr.at_
        obtain ⟨Aa, ca, rfl, hca⟩ := hWa.own.form
        have p0 := hWa.c0
        have plt := lt_of_cell p0
        have hbr : Below w1.heap.size w1 wr := HB5.out.trans (hwr.off.toBelow (fun k hk => by
          rcases List.mem_cons.1 hk with h | h
          · have := HMS.out; omega
          · exact (HW5.out.own.own.block _ h).1) hbase5)
        have HWA := Lib.hid hWa
        have HBR := Lib.hid hbr
        have l8 := HL5.out
        have HBN := Lib.hid hblen
        have HSL := Lib.hid hsmall
        have HL3 := Lib.hid hl3
        clear hwr hWa hFa hbr hsum HX hbl htake hblen hfew hsmall hl3 hca
        go_wp2_with fail
        refine (pack_sum w1.heap.size Aa bs' ca wr HWA.out.own.own (by have := HSL.out; omega)).mono ?_
        rintro e w6 ⟨n, hn, rfl, hb6⟩
        have hW6 := HWA.out.below hb6
        have q0 := hW6.c0
        have HW6 := Lib.hid hW6
        have HB6 := Lib.hid (HBR.out.trans (hb6.mono HBR.out.size))
        clear hb6 hW6 HWA p0
        go_wp2_with fail
        refine (pack_number w1.heap.size wm.heap.size (.slice Aa bs'.length ca) bs' n 4 w6 HW6.out HB6.out.size (by omega) (by omega) (by omega) (by have := HSL.out; omega)).mono ?_
        rintro e w7 ⟨rfl, hwr⟩
        obtain ⟨vz, hWz, hFz⟩ := hwr.at_
        obtain ⟨Az, cz, rfl, hcz⟩ := hWz.own.form
        have p0 := hWz.c0
        have plt := lt_of_cell p0
        have hlz : (bs' ++ wordB n 4).length = packLen ⟨tg, es⟩ := by
          rw [List.length_append, wordB_len, HBN.out]
          unfold packLen
          simp only
          omega
        have hb7 : Below w1.heap.size w1 w7 := HB6.out.trans (hwr.off.toBelow (fun k hk => by
          rcases List.mem_cons.1 hk with h | h
          · have := HMS.out; omega
          · exact (HW6.out.own.own.block _ h).1) HB6.out.size)
        rw [hlz] at p0
        have HB7 := Lib.hid (HB1.out.trans (hb7.mono HB1.out.size))
        clear hwr hWz hFz hcz hlz hb7 HW6 HB6
        go_wp2_with fail
        all_goals first
          | exact absurd H0.out (by assumption)
          | (go_ret2; exact ⟨⟨Az, cz, rfl⟩, HB7.out⟩)
  · rw [errOf, if_neg h0]
    have H0 := Lib.hid h0
    clear h0
    go_wp2_with fail
    go_ret2
    refine ⟨?_, HB1.out⟩
    first
      | rfl
      | (split <;> first | (exact absurd (by assumption) H0.out) | rfl)
end Go.Proofs.YtnhlnhmjnnopaaaGreatDoor
