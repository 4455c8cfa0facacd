/- PropPack: texts put together. -/
import Derived.Test.YtnhlnhmjnnopaaaGreatDoorPp26
import Derived.Test.YtnhlnhmjnnopaaaGreatDoorPp33
import Derived.Test.YtnhlnhmjnnopaaaGreatDoorPp34
import Derived.Test.YtnhlnhmjnnopaaaGreatDoorPp35
import Derived.Deep.RegionHeld3
set_option linter.unusedVariables false
set_option linter.unusedSimpArgs false
/- PropPack: the law's walk. -/
namespace Go.Proofs.YtnhlnhmjnnopaaaGreatDoor
open Go.RowKit

def enP : BunC := ⟨⟨#[101, 110]⟩, []⟩
theorem enP_err : enP.err = 0 := by decide +kernel
theorem enP_len : packLen enP = 13 := by decide +kernel
theorem perm_ok {tg : ByteArray} {es es' : List EntC} (hp : es'.Perm es) (h : (BunC.mk tg es).err = 0) : (BunC.mk tg es').err = 0 := by
  obtain ⟨h1, h2, h3, h4⟩ := bun_ok h
  exact bun_of h1 (by rw [show (BunC.mk tg es').es.length = es.length from hp.length_eq]; exact h2) (fun e he => h3 e (hp.mem_iff.1 he)) ((hp.map (·.key)).nodup_iff.2 h4)
theorem ok_sizes {b : BunC} (h : b.err = 0) : b.es.length ≤ 100 ∧ b.tag.size ≤ 200 ∧ (∀ e ∈ b.es, keyOk e.key = true) ∧ ∀ e ∈ b.es, e.key.size ≤ 40 ∧ e.text.size ≤ 2000 := by
  obtain ⟨h1, h2, h3, h4⟩ := bun_ok h
  have ht := (own_signs h1).2.2
  rw [Array.length_toList] at ht
  refine ⟨h2, ht, fun e he => (h3 e he).1, fun e he => ⟨?_, (h3 e he).2⟩⟩
  have hk := (h3 e he).1
  unfold keyOk at hk
  simp only [Bool.and_eq_true, decide_eq_true_eq] at hk
  exact hk.2.1
set_option maxHeartbeats 16000000 in
set_option maxRecDepth 100000 in
theorem walkP (b : BunC) (A : Option Addr) (c : Nat) (w : World) (hM : MaxL w) (hF : BunFine w b A c) (hs : b.small) :
    Calls Tryz.prog 4 #[bunV b A c] w fun e w' => e = .returned (.bool true) ∧ Below w.heap.size w w' := by
  have KE : Hid (∀ W, Below w.heap.size w W → Calls Tryz.prog 5 #[.agg #[.string ⟨#[101, 110]⟩, .slice none 0 0]] W fun e w' => (∃ A' c', e = .returned (.tuple #[.slice A' 13 c', .nilIface])) ∧ Below W.heap.size W w') := Lib.hid (fun W h => by
    have k := pack_encode enP none 0 W (hM.below h) ⟨.inl rfl, Nat.le_refl _, by decide, fun _ => rfl⟩ ⟨by decide, by decide, fun e he => by cases he⟩
    rw [enP_err, enP_len] at k
    simp only [if_true] at k
    exact k)
  have K1 := Lib.hid (fun W (h : Below w.heap.size w W) => pack_bytes b A c W (hM.below h) (hF.below h) hs)
  have K2 := Lib.hid (fun W (h : Below w.heap.size w W) => prop_check b A c W (hM.below h) (hF.below h) hs)
  have HM := Lib.hid hM
  have HF := Lib.hid hF
  have HS := Lib.hid hs
  obtain ⟨tg, es⟩ := b
  clear hM hF hs
  obtain ⟨R, hR⟩ : ∃ R, R = (BunC.mk tg es).err := ⟨_, rfl⟩
  rw [← hR] at K1 K2
  have HR := Lib.hid hR
  clear hR
  unfold bunV at K1 K2 ⊢
  simp only at K1 K2 ⊢
  have hb0 : Below w.heap.size w (w.alloc (.cells #[.string tg, .slice A es.length c] 24)) := (by (repeat (first | with_reducible exact Below.refl _ _ | with_reducible refine bel_set ?_ ?_ | with_reducible refine bel_alloc ?_ ?_ | with_reducible refine Below.drew ?_ | with_reducible refine bel_drewN _ ?_ | with_reducible refine bel_call ?_ (by assumption) ?_)); all_goals (first | (simp; done) | omega | (simp; omega)))
  have HB0 := Lib.hid hb0
  clear hb0
  go_enter Tryz.func4, Tryz.ntmps4
  go_wp2_with fail
  refine (KE.out _ HB0.out).mono ?_
  rintro e w1 ⟨⟨E1, e1, rfl⟩, hb1⟩
  have c0 : w1.cell? ⟨w.heap.size, 0, none⟩ = some (.string tg) := carry hb1 (by go_simp)
  have c1 : w1.cell? ⟨w.heap.size, 1, none⟩ = some (.slice A es.length c) := carry hb1 (by go_simp)
  have HB1 := Lib.hid (HB0.out.trans (hb1.mono HB0.out.size))
  clear hb1 HB0 KE
  go_wp2_with fail
  by_cases h0 : R = 0
  · have k1 := K1.out _ HB1.out
    simp only [if_pos h0] at k1
    refine k1.mono ?_
    rintro e w2 ⟨⟨A2, c2, es', rfl, hp, hord, hO⟩, hb2⟩
    have herr : (BunC.mk tg es).err = 0 := by rw [← HR.out]; exact h0
    have herr2 := perm_ok hp herr
    obtain ⟨hn, ht, hkk, hk⟩ := ok_sizes herr2
    have hso : es' = sortedP es := sorted_same (bun_ok herr).2.2.2 hp hord
    have HB2 := Lib.hid (HB1.out.trans (hb2.mono HB1.out.size))
    have c0 := carry hb2 c0
    have c1 := carry hb2 c1
    obtain ⟨bs, hbs⟩ : ∃ bs, bs = encB tg es' := ⟨_, rfl⟩
    rw [show encB (BunC.mk tg es).tag es' = bs from hbs.symm] at hO ⊢
    have KD : Hid (Calls Tryz.prog 10 #[.slice A2 bs.length c2] w2 fun e w' => ∃ A' c', e = .returned (.tuple #[.agg #[.string tg, .slice A' es'.length c'], .nilIface]) ∧ BunFine w' ⟨tg, es'⟩ A' c' ∧ Below w2.heap.size w2 w') := Lib.hid (pack_decode tg es' bs A2 w1.heap.size c2 w2 (HM.out.below HB2.out) hO hbs herr2 hord hn ht hk)
    have HOK := Lib.hid (And.intro herr2 (And.intro hn (And.intro ht (And.intro hkk (And.intro hk (And.intro hso (And.intro hp.length_eq (bun_ok herr2).1)))))))
    clear k1 K1 K2 hp hord hO herr herr2 hn ht hkk hk hso hbs hb2 h0
    go_wp2_with fail
    refine KD.out.mono ?_
    rintro e w3 ⟨A3, c3, rfl, hF3, hb3⟩
    have HB3 := Lib.hid (HB2.out.trans (hb3.mono HB2.out.size))
    have c0 := carry hb3 c0
    have c1 := carry hb3 c1
    have hq3 : Below w3.heap.size w3 (w3.alloc (.cells #[.string tg, .slice A3 es'.length c3] 24)) := (by (repeat (first | with_reducible exact Below.refl _ _ | with_reducible refine bel_set ?_ ?_ | with_reducible refine bel_alloc ?_ ?_ | with_reducible refine Below.drew ?_ | with_reducible refine bel_drewN _ ?_ | with_reducible refine bel_call ?_ (by assumption) ?_)); all_goals (first | (simp; done) | omega | (simp; omega)))
    have HB3a := Lib.hid (HB3.out.trans (hq3.mono HB3.out.size))
    have HF3 := Lib.hid (hF3.below hq3)
    have HQ3 := Lib.hid hq3
    obtain ⟨tx, htx⟩ : ∃ tx : ByteArray, tx = ⟨(textP tg es').toArray⟩ := ⟨_, rfl⟩
    have HTX := Lib.hid htx
    have HSM : Hid (BunC.small ⟨tg, es'⟩) := Lib.hid ⟨by have := HOK.out.2.2.1; show tg.size ≤ _; omega, by have := HOK.out.2.1; show es'.length ≤ _; omega, fun e he => by have := HOK.out.2.2.2.2.1 e he; omega⟩
    have KT : Hid (∀ (B : Option Addr) (d : Nat) W, Below w.heap.size w W → BunFine W ⟨tg, es'⟩ B d → Calls Tryz.prog 11 #[.agg #[.string tg, .slice B es'.length d]] W fun e w' => e = .returned (.tuple #[.string tx, .nilIface]) ∧ Below W.heap.size W w') := Lib.hid (fun B d W hb hf => by
      rw [htx]
      exact prop_text ⟨tg, es'⟩ B d W (HM.out.below hb) hf HSM.out HOK.out.1 HOK.out.2.1 (by have := HOK.out.2.2.1; show tg.size ≤ _; omega) HOK.out.2.2.2.2.1)
    clear hb3 KD hF3 hq3 htx
    go_wp2_with fail
    refine (KT.out A3 c3 _ HB3a.out HF3.out).mono ?_
    rintro e w4 ⟨rfl, hb4⟩
    have y0 : w4.cell? ⟨w3.heap.size, 0, none⟩ = some (.string tg) := carry hb4 (by go_simp)
    have y1 : w4.cell? ⟨w3.heap.size, 1, none⟩ = some (.slice A3 es'.length c3) := carry hb4 (by go_simp)
    have c0 := carry hb4 (carry HQ3.out c0)
    have c1 := carry hb4 (carry HQ3.out c1)
    have HB4 := Lib.hid (HB3a.out.trans (hb4.mono HB3a.out.size))
    have HF4 := Lib.hid (HF3.out.below hb4)
    have yl := lt_of_cell y0
    have cl := lt_of_cell c0
    obtain ⟨yb, hyb⟩ : ∃ yb, yb = w3.heap.size := ⟨_, rfl⟩
    rw [← hyb] at y0 y1 yl ⊢
    clear hb4 HQ3 hyb
    go_wp2_with fail
    have KSO : Hid (∀ W, Off [] w4 W → Calls Tryz.prog 12 #[.slice A es.length c] W fun e W' => (∃ A' c', e = .returned (.slice A' es'.length c') ∧ BunFine W' ⟨tg, es'⟩ A' c') ∧ Off [] w4 W') := Lib.hid (fun W ho => by
      have hbw : Below w.heap.size w W := HB4.out.trans (ho.toBelow (fun k hk => absurd hk List.not_mem_nil) HB4.out.size)
      obtain ⟨f1, f2, f3, f4⟩ := HF.out
      have hle : es.length ≤ 100 := by have h1 := HOK.out.2.2.2.2.2.2.1; have h2 := HOK.out.2.1; omega
      refine (ref_sorted es A c W (EntsIn.below f1 hbw) f2 f3 (by omega)).mono ?_
      rintro e W' ⟨v, rfl, h1, h2⟩
      rw [← HOK.out.2.2.2.2.2.1] at h1
      obtain ⟨A', c', rfl, g1, g2, g3, g4⟩ := ents_of h1
      exact ⟨⟨A', c', rfl, g4, g1, g2, g3⟩, ho.trans (Off.ofBelowB h2)⟩)
    have HO4 : Hid (∀ W, Off [] w4 W → Below w.heap.size w W) := Lib.hid (fun W ho => HB4.out.trans (ho.toBelow (fun k hk => absurd hk List.not_mem_nil) HB4.out.size))
    go_region_held3 (fun W => W.cell? ⟨w.heap.size, 0, none⟩ = some (.string tg) ∧ W.cell? ⟨w.heap.size, 1, none⟩ = some (.slice A es.length c)) (first | go_keep | exact ⟨kb0, kb1⟩ | exact ⟨hOA.out.cell c0 List.not_mem_nil, hOA.out.cell c1 List.not_mem_nil⟩) (first | (go_at_call 12; (with_reducible refine (KSO.out _ ?_).mono ?_); exact ⟨rfl, rfl, rfl, Nat.le_refl _, fun _ _ _ => rfl⟩; rintro e wA ⟨⟨A5, c5, rfl, hF5⟩, hoA⟩; have hOA := Lib.hid hoA; have HF5 := Lib.hid hF5; clear hoA hF5) | (go_at_call 11; (with_reducible refine (KT.out A5 c5 _ (HO4.out _ hOA.out) HF5.out).mono ?_); rintro e wB ⟨rfl, hbB⟩; have kb0 := carry hbB (hOA.out.cell c0 List.not_mem_nil); have kb1 := carry hbB (hOA.out.cell c1 List.not_mem_nil); have HOB := Lib.hid (hOA.out.trans (Off.ofBelowB hbB)); clear hbB))
    have HB5 := Lib.hid (HO4.out _ HOB.out)
    have y0 := HOB.out.cell y0 List.not_mem_nil
    have y1 := HOB.out.cell y1 List.not_mem_nil
    have hbo : Below w4.heap.size w4 wB := HOB.out.toBelow (fun k hk => absurd hk List.not_mem_nil) (Nat.le_refl _)
    have HF5 := Lib.hid (HF4.out.below hbo)
    have KP : Hid (Calls Tryz.prog 13 #[.string tx] wB fun e w' => ∃ A' c', e = .returned (.tuple #[.agg #[.string tg, .slice A' es'.length c'], .nilIface]) ∧ BunFine w' ⟨tg, es'⟩ A' c' ∧ Below wB.heap.size wB w') := Lib.hid (by
      refine prop_parse tg es' tx wB (HM.out.below HB5.out) (by rw [HTX.out]) ?_ HOK.out.2.2.2.1 HOK.out.2.1 (by have := HOK.out.2.2.1; omega) HOK.out.2.2.2.2.1 HOK.out.1
      exact (bun_ok HOK.out.1).1)
    clear hbo HO4 KSO kb0 kb1 hOA
    go_wp2_with fail
    refine KP.out.mono ?_
    rintro e w6 ⟨A6, c6, rfl, hF6, hb6⟩
    have y0 := carry hb6 y0
    have y1 := carry hb6 y1
    have hq6 : Below w6.heap.size w6 (w6.alloc (.cells #[.string tg, .slice A6 es'.length c6] 24)) := (by (repeat (first | with_reducible exact Below.refl _ _ | with_reducible refine bel_set ?_ ?_ | with_reducible refine bel_alloc ?_ ?_ | with_reducible refine Below.drew ?_ | with_reducible refine bel_drewN _ ?_ | with_reducible refine bel_call ?_ (by assumption) ?_)); all_goals (first | (simp; done) | omega | (simp; omega)))
    have HB6 := Lib.hid ((HB5.out.trans (hb6.mono HB5.out.size)).trans (hq6.mono (Nat.le_trans HB5.out.size hb6.size)))
    have HS6 : Hid (Calls Tryz.prog 8 #[.agg #[.string tg, .slice A6 es'.length c6], .agg #[.string tg, .slice A3 es'.length c3]] (w6.alloc (.cells #[.string tg, .slice A6 es'.length c6] 24)) fun e w' => e = .returned (.bool true) ∧ Below (w6.alloc (.cells #[.string tg, .slice A6 es'.length c6] 24)).heap.size (w6.alloc (.cells #[.string tg, .slice A6 es'.length c6] 24)) w') := Lib.hid (same_bundle2 ⟨tg, es'⟩ A6 A3 c6 c3 _ (hF6.below hq6) ((HF5.out.below hb6).below hq6) (by have := HOK.out.2.1; show es'.length ≤ _; omega))
    have yl := lt_of_cell y0
    clear hb6 hq6 hF6 KP
    go_wp2_with fail
    refine HS6.out.mono ?_
    rintro e w7 ⟨rfl, hb7⟩
    have HB7 := Lib.hid (HB6.out.trans (hb7.mono HB6.out.size))
    clear hb7 HS6
    go_wp2_with fail
    go_ret
    exact ⟨rfl, HB7.out⟩
  · have k1 := K1.out _ HB1.out
    simp only [if_neg h0] at k1
    refine k1.mono ?_
    rintro e w2 ⟨rfl, hb2⟩
    have HB2 := Lib.hid (HB1.out.trans (hb2.mono HB1.out.size))
    have c0 := carry hb2 c0
    have c1 := carry hb2 c1
    clear hb2 k1 K1
    go_wp2_with fail
    refine (K2.out _ HB2.out).mono ?_
    rintro e w3 ⟨rfl, hb3⟩
    have HB3 := Lib.hid (HB2.out.trans (hb3.mono HB2.out.size))
    rw [errOf, if_neg h0]
    clear hb3 K2 h0
    go_wp2_with fail
    go_ret
    exact ⟨rfl, HB3.out⟩
end Go.Proofs.YtnhlnhmjnnopaaaGreatDoor
