/- ServeLoad: texts put together. -/
import Derived.Test.YtplaohmdllindaaGreatDoorQn44
import Derived.Test.YtplaohmdllindaaGreatDoorQn48
import Derived.Test.YtplaohmdllindaaGreatDoorQn27
import Derived.Deep.RegionLaw
import Derived.Test.YtplaohmdllindaaGreatDoorQn1
set_option linter.unusedVariables false
set_option linter.unusedSimpArgs false
/- serve.Load of one bundle. -/
namespace Go.Proofs.YtplaohmdllindaaGreatDoor
open Go.RowKit Go.Maps

theorem EntsIn.cells {w w' : World} {A : Option Addr} {l : List EntC} (hc : ∀ b o v, w.cell? ⟨b, o, none⟩ = some v → w'.cell? ⟨b, o, none⟩ = some v) (h : EntsIn w A l) : EntsIn w' A l := by
  rcases h with h | ⟨b, o, h1, h2⟩
  · exact .inl h
  · exact .inr ⟨b, o, h1, fun j x hx => ⟨hc _ _ _ (h2 j x hx).1, hc _ _ _ (h2 j x hx).2⟩⟩
theorem BunsIn.cells {w w' : World} {A : Option Addr} {l : List BunC} (hc : ∀ b o v, w.cell? ⟨b, o, none⟩ = some v → w'.cell? ⟨b, o, none⟩ = some v) (h : BunsIn w A l) : BunsIn w' A l := by
  rcases h with h | ⟨b, o, h1, h2⟩
  · exact .inl h
  · refine .inr ⟨b, o, h1, fun j x hx => ?_⟩
    obtain ⟨A', c, k1, k2, k3, k4⟩ := h2 j x hx
    exact ⟨A', c, hc _ _ _ k1, hc _ _ _ k2, k3.cells hc, k4⟩
theorem BunsF.all {B : Nat} {w : World} {A : Option Addr} {l : List BunC} (h : BunsIn (erase B w) A l) : BunsIn w A l := h.cells fun _ _ _ hc => (erase_some hc).2
theorem BunsF.off {B : Nat} {w w' : World} {A : Option Addr} {l : List BunC} {L : List Nat} (h : BunsIn (erase B w) A l) (ho : Off L w w') (hl : ∀ k ∈ L, k < B) : BunsIn (erase B w') A l :=
  h.cells fun b o v hc => by
    obtain ⟨h1, h2⟩ := erase_some hc
    rw [erase_cell h1]
    exact ho.cell h2 (fun hm => by have := hl b hm; omega)

theorem bun_cells (W : World) (t : ByteArray) (A : Option Addr) (n c : Nat) : ∀ i u, (kBunQ.cells (bunQ t A n c))[i]? = some u → (W.alloc (.cells #[.string t, .slice A n c] 64)).cell? ⟨W.heap.size, i, none⟩ = some u := fun i u hu => by
  match i, hu with
  | 0, hu => cases hu; go_simp
  | 1, hu => cases hu; go_simp
/-- the bundles are copied -/
def CopiedAt (w0 w : World) (x : BunC) (sv sb cb mb g : Nat) : Prop := ∃ (n c : Nat), n = 1 ∧ n ≤ c ∧ c ≤ 9223372036854775807 ∧ SrvAt w sv sb cb mb (.slice (some ⟨g, 0, none⟩) n c) 1 ∧ BunsIn (erase w0.heap.size w) (some ⟨g, 0, none⟩) [x] ∧ w0.heap.size ≤ g ∧ g < w.heap.size
theorem CopiedAt.off {w0 w w' : World} {x : BunC} {sv sb cb mb g : Nat} {L : List Nat} (h : CopiedAt w0 w x sv sb cb mb g) (hf : Off L w w') (hn : sv ∉ L) (hL : ∀ k ∈ L, k < w0.heap.size) : CopiedAt w0 w' x sv sb cb mb g := by
  obtain ⟨n, c, h1, h2, h3, h4, h5, h6, h7⟩ := h
  exact ⟨n, c, h1, h2, h3, h4.off hf hn, BunsF.off h5 hf hL, h6, Nat.lt_of_lt_of_le h7 hf.size⟩
theorem CacheAt.off {w w' : World} {cb pb n h : Nat} {S : Cch} {L : List Nat} (c : CacheAt w cb pb n S h) (hf : Off L w w') (h1 : cb ∉ L) (h2 : pb ∉ L) : CacheAt w' cb pb n S h :=
  ⟨c.n0, c.n1, c.hh, c.ne, hf.cell c.head h1, hf.cell c.hand h1, fun i hi => hf.cell (c.k i hi) h2, fun i hi => hf.cell (c.v i hi) h2, fun i hi => hf.cell (c.u i hi) h2, fun i hi => hf.cell (c.m i hi) h2,
    fun o => (hf.frozen (lt_of_cell c.head) h1).trans (c.fc o), fun o => (hf.frozen (lt_of_cell (c.k 0 c.n0)) h2).trans (c.fp o)⟩

theorem copied_done {w w3 W2 W4 : World} {A1 A2 : Option Addr} {d1 d2 sv sb cb mb n : Nat} {tg : ByteArray} {es' : List EntC} (hn : n = 1) (hB : OwnsG kBunQ W4 W2.heap.size (.slice A2 n d2) [bunQ tg A1 es'.length d1]) (hQ : OwnsG kEnt W4 w3.heap.size (.slice A1 es'.length d1) es')
    (hV : SrvAt W4 sv sb cb mb (.slice none 0 0) 1) (hsv : sv < w3.heap.size) (hw : w.heap.size ≤ w3.heap.size) (h32 : w3.heap.size ≤ W2.heap.size) : ∃ g, CopiedAt w (W4.setCell ⟨sv, 3, none⟩ (.slice A2 n d2)) ⟨tg, es'⟩ sv sb cb mb g := by
  subst hn
  obtain ⟨Aq, cq, heq, h1, h2, h0, h3⟩ := hB.form
  have hAc : A2 = Aq ∧ d2 = cq := by
    injection heq with e1 e2 e3
    exact ⟨e1, e3⟩
  obtain ⟨rfl, rfl⟩ := hAc
  rcases h3 with h3 | ⟨g, rfl, hg, hgl, _⟩
  · cases h3
  · have hgw : g < W4.heap.size := (hB.ty g (by simp [Value.ownBlock])).lt
    have c0 : W4.cell? ⟨g, 0, none⟩ = some (.string tg) := hB.cells (j := 0) (t := bunQ tg A1 es'.length d1) rfl (i := 0) rfl
    have c1 : W4.cell? ⟨g, 1, none⟩ = some (.slice A1 es'.length d1) := hB.cells (j := 0) (t := bunQ tg A1 es'.length d1) rfl (i := 1) rfl
    have hof : Off [sv] W4 (W4.setCell ⟨sv, 3, none⟩ (.slice (some ⟨g, 0, none⟩) 1 d2)) := (Off.refl _ _).setCell _ _ (by simp)
    have hgs : g ∉ [sv] := by simp; omega
    have hQ2 : OwnsG kEnt (W4.setCell ⟨sv, 3, none⟩ (.slice (some ⟨g, 0, none⟩) 1 d2)) w3.heap.size (.slice A1 es'.length d1) es' := hQ.off hof (fun k hk hm => by
      simp only [List.mem_singleton] at hm
      have := (hQ.block k (by simp [hk])).1
      omega)
    obtain ⟨Ar, dr, heq2, g1, g2, g3, hor⟩ := hQ2.form
    have hr : A1 = Ar ∧ d1 = dr := by
      injection heq2 with e1 e2 e3
      exact ⟨e1, e3⟩
    obtain ⟨rfl, rfl⟩ := hr
    have hin : EntsIn (erase w.heap.size (W4.setCell ⟨sv, 3, none⟩ (.slice (some ⟨g, 0, none⟩) 1 d2))) A1 es' := by
      rcases hor with hor | ⟨ge, rfl, hge, _, hce⟩
      · exact .inl hor
      · refine .inr ⟨ge, 0, rfl, fun j y hy => ?_⟩
        rw [Nat.zero_add]
        exact ⟨(erase_cell (by omega)).trans (hce j y 0 _ hy rfl), (erase_cell (by omega)).trans (hce j y 1 _ hy rfl)⟩
    refine ⟨g, 1, d2, rfl, h1, h2, hV.set3 _, .inr ⟨g, 0, rfl, fun j y hy => ?_⟩, by omega, by simpa using hgw⟩
    match j, hy with
    | 0, hy =>
      injection hy with hy
      subst hy
      exact ⟨A1, d1, (erase_cell (by omega)).trans (hof.cell c0 hgs), (erase_cell (by omega)).trans (hof.cell c1 hgs), hin, g1, g2, g3⟩

set_option maxHeartbeats 16000000 in
set_option maxRecDepth 100000 in
theorem serve_load1 (l : List BunC) (x : BunC) (A : Option Addr) (c : Nat) (w : World) (sv sb smb cb pb mb B BL : Nat) (hM : MaxL w) (hV : SrvAt w sv sb cb mb (.slice none 0 0) 0) (hS : StoreAt w B sb smb 0 [] (fun _ => 0) (fun _ => 0)) (hC : CacheAt w cb pb 1 Cch.none 0) (hm : HMap w mb 0 []) (hB : B ≤ w.heap.size)
    (hd1 : sv ∉ [sb, smb] ∧ cb ∉ [sv, sb, smb] ∧ pb ∉ [sv, sb, smb] ∧ mb ∉ [sv, sb, smb]) (hd2 : sv ≠ cb ∧ sv ≠ mb ∧ mb ≠ cb) (hlt : sv < BL ∧ sb < BL ∧ smb < BL)
    (hl1 : l.length = 1) (hx : l[0]? = some x) (hL : BunsIn (erase BL w) A l) (hc : l.length ≤ c) (hc2 : c ≤ 9223372036854775807) (hok : x.err = 0) (hsm : x.small) (hone : One x.tag) :
    Calls Tryz.prog 17 #[.pointer (some ⟨sv, 0, none⟩), .slice A l.length c] w fun e w' => e = .returned (.tuple #[.int .i64 1, .nilIface]) ∧ (∃ g pb', CopiedAt w w' x sv sb cb mb g ∧ CacheAt w' cb pb' 1 Cch.none 0 ∧ g < pb' ∧ HMap w' mb 0 []) ∧ Off [sv, sb, smb, cb, mb] w w' := by
  have KL : Hid (Calls Tryz.prog 52 #[.pointer (some ⟨sb, 0, none⟩), .slice A l.length c] w fun e w' => e = .returned (.tuple #[.int .i64 1, .nilIface]) ∧ Off [sb, smb] w w') := Lib.hid (store_load1 (S := []) l x A c w hM hS (by omega) hB (by simp) hl1 hx (BunsF.all hL) hc hc2 hok hsm hone)
  have c0 := hV.c0
  have HV := Lib.hid hV
  have HC := Lib.hid hC
  have HMP := Lib.hid hm
  have HL := Lib.hid hL
  have HX := Lib.hid hx
  have HD1 := Lib.hid hd1
  have HD2 := Lib.hid hd2
  have HLT := Lib.hid hlt
  have HSM := Lib.hid hsm
  have hle : l.length ≤ 1 := by omega
  have hge : 1 ≤ l.length := by omega
  clear hM hV hS hC hm hL hx hd1 hd2 hlt hl1 hok hsm hone
  go_enter Tryz.func17, Tryz.ntmps17
  go_wp2_with fail
  refine KL.out.mono ?_
  rintro e w1 ⟨rfl, ho1⟩
  have HV1 := Lib.hid (HV.out.off ho1 HD1.out.1)
  have q3 := HV1.out.c3
  have q4 := HV1.out.c4
  have f3 := HV1.out.fz 3
  have f4 := HV1.out.fz 4
  have HO1 := Lib.hid ho1
  clear ho1 KL HV c0
  obtain ⟨w2, hw2⟩ : ∃ w2, w2 = (w1.setCell ⟨sv, 4, none⟩ (.int .i64 1)).setCell ⟨sv, 3, none⟩ (.slice none 0 0) := ⟨_, rfl⟩
  have HV2 : Hid (SrvAt w2 sv sb cb mb (.slice none 0 0) 1) := Lib.hid (by rw [hw2]; exact (HV1.out.set4 1).set3 _)
  have HO2 : Hid (Off [sv, sb, smb] w w2) := Lib.hid (by
    have h2 : Off [sv] w1 w2 := by rw [hw2]; exact ((Off.refl _ _).setCell _ _ (by simp)).setCell _ _ (by simp)
    exact (HO1.out.more (by simp)).trans (h2.more (by simp)))
  have HW2 := Lib.hid hw2
  clear hw2 HV1 HO1
  go_wp2_with fail
  rw [← HW2.out]
  clear HW2 q3 q4 f3 f4
  go_loopw [31] (fun i wr => ∃ k : Nat, k ≤ l.length ∧ i = .int .i64 k ∧ Hid (k = 0 → w2 = wr) ∧ Hid (0 < k → ∃ g, CopiedAt w wr x sv sb cb mb g) ∧ Hid (Off [sv, sb, smb] w wr)) (fun i _ => l.length - (intOf i).toNat)
  case atStart => exact ⟨0, Nat.zero_le _, rfl, Lib.hid (fun _ => rfl), Lib.hid (fun h => absurd h (by omega)), HO2⟩
  case round =>
    obtain ⟨k, hk, rfl, HW, HR, HO⟩ := hrel
    by_cases hlt : k < l.length
    · have hk0 : k = 0 := by omega
      obtain rfl := HW.out hk0
      obtain ⟨b, o, rfl, hat⟩ := (BunsF.all (BunsF.off HL.out HO2.out (by have := HLT.out; simp; omega))).at (by omega)
      obtain ⟨Ae, ce, n0, n1, hEs, hce, hce2, hA0⟩ := hat k x (by rw [hk0]; exact HX.out)
      have HK0 := Lib.hid hk0
      obtain ⟨tg, es'⟩ := x
      simp only at n0 n1 hEs hce
      have i0 : (0 : Int) ≤ (k : Int) := by omega
      have i1 : (k : Int) < (l.length : Int) := by omega
      have i2 : (k : Int) ≤ (c : Int) := by omega
      have e1 : IntKind.i64.wrap ((k : Int) + 1) = (k : Int) + 1 := IntWalk.i64_in _ (by omega)
      obtain ⟨w3, hw3⟩ : ∃ w3, w3 = w2.alloc (.cells #[.string tg, .slice Ae es'.length ce] 64) := ⟨_, rfl⟩
      have hb3 : Below w2.heap.size w2 w3 := by rw [hw3]; exact belx
      have p0 : w3.cell? ⟨w2.heap.size, 0, none⟩ = some (.string tg) := by rw [hw3]; go_simp
      have p1 : w3.cell? ⟨w2.heap.size, 1, none⟩ = some (.slice Ae es'.length ce) := by rw [hw3]; go_simp
      have HV3 := Lib.hid (HV2.out.below hb3)
      have HO3 := Lib.hid (HO.out.below hb3 HO.out.size)
      have HE3 := Lib.hid (hEs.below hb3)
      have HA0 := Lib.hid hA0
      have v3 := HV3.out.c3
      have HW3 := Lib.hid hw3
      have HEZ : Hid (es'.length ≤ 1048576) := Lib.hid HSM.out.2.1
      clear hat hEs hA0 hk0 hw3 hb3 HW HR
      go_upto_region 8 with fail
      rw [← HW3.out]
      clear HW3 n0 n1
      obtain ⟨W1, hW1⟩ : ∃ W1, W1 = (w3.alloc (.cells #[] 61)).drew := ⟨_, rfl⟩
      have hbd : Below w3.heap.size w3 W1 := by rw [hW1]; exact belx
      have HN1 : Hid (OwnsG kEnt W1 w3.heap.size (.slice (some ⟨w3.heap.size, 0, none⟩) 0 0) []) := Lib.hid (by rw [hW1]; exact ent_lit w3)
      have HY1 := Lib.hid (HE3.out.below hbd).lies
      have HS1 : Hid (w3.heap.size ≤ W1.heap.size) := Lib.hid hbd.size
      have HL1 : Hid ((([] : List EntC).length + es'.length) * kEnt.bytes ≤ 140737488355328) := Lib.hid (by have := HEZ.out; show (0 + es'.length) * 32 ≤ _; omega)
      have HL2 : Hid (([] : List EntC).length + es'.length ≤ 9223372036854775807) := Lib.hid (by have := HEZ.out; simp; omega)
      have HL3 : Hid ((([] : List (Vals 2)).length + 1) * kBunQ.bytes ≤ 140737488355328) := Lib.hid (by decide)
      have HL4 : Hid (([] : List (Vals 2)).length + 1 ≤ 9223372036854775807) := Lib.hid (by decide)
      have HV4 := Lib.hid (HV3.out.below hbd)
      have HO4 := Lib.hid (HO3.out.below hbd HO3.out.size)
      have hsv : sv < w3.heap.size := HV3.out.lt
      have HSV : Hid (sv ∉ (Value.slice (some ⟨w3.heap.size, 0, none⟩) 0 0).ownBlock.toList) := Lib.hid (by simp [Value.ownBlock]; omega)
      have HLS : Hid (∀ k ∈ (Value.slice (some ⟨w3.heap.size, 0, none⟩) 0 0).ownBlock.toList, w3.heap.size ≤ k) := Lib.hid (fun k hk => by simp [Value.ownBlock] at hk; omega)
      have HW1 := Lib.hid hW1
      have h23 : w2.heap.size < w3.heap.size := lt_of_cell p0
      have P0 := Lib.hid (carry hbd p0)
      have V3 := Lib.hid HV4.out.c3
      have p0a : (w3.alloc (.cells #[] 61)).cell? ⟨w2.heap.size, 0, none⟩ = some (.string tg) := carry (Below.alloc (Below.refl _ _) (Nat.le_refl _) _) p0
      have p1a : (w3.alloc (.cells #[] 61)).cell? ⟨w2.heap.size, 1, none⟩ = some (.slice Ae es'.length ce) := carry (Below.alloc (Below.refl _ _) (Nat.le_refl _) _) p1
      have v3a : (w3.alloc (.cells #[] 61)).cell? ⟨sv, 3, none⟩ = some (.slice none 0 0) := carry (Below.alloc (Below.refl _ _) (Nat.le_refl _) _) v3
      have HPN : Hid (w2.heap.size ∉ (Value.slice (some ⟨w3.heap.size, 0, none⟩) 0 0).ownBlock.toList) := Lib.hid (by simp [Value.ownBlock]; omega)
      have HW1S : Hid (w3.heap.size ≤ W1.heap.size) := HS1
      have HSVW : Hid (sv < w3.heap.size) := Lib.hid hsv
      rw [hW1] at HN1 HY1 HS1
      clear hW1 hbd
      go_region_law (first
        | (apply step_append_manyS (k := kEnt) (s := .tmp 42) (x := .tmp 44) (ys := es') (hown := HN1.out) (hy := HY1.out) (hA := HA0.out) (hb := HS1.out) (hn := HL1.out) (hn2 := HL2.out); (any_goals rfl); intro v1 W2 ho hoff; rw [List.nil_append] at ho; obtain ⟨A1, d1, rfl, g1, g2, g3, _⟩ := ho.form; rw [← HW1.out] at hoff; have HQ2 := Lib.hid ho; have HV5 := Lib.hid (HV4.out.off hoff HSV.out); have HO5 : Hid (Off [sv, sb, smb] w W2) := Lib.hid (HO4.out.below (hoff.toBelow HLS.out HW1S.out) (Nat.le_trans HO3.out.size (Nat.le_refl _))); have p0b := hoff.cell P0.out HPN.out; have v3b := HV5.out.c3; have hbe : Below W2.heap.size W2 (W2.alloc (.cells #[.string tg, .slice A1 es'.length d1] 64)) := Below.alloc (Below.refl _ _) (Nat.le_refl _) _; have p0c := carry hbe p0b; have v3c := carry hbe v3b; have HX3 : Hid (∀ i u, (kBunQ.cells (bunQ tg A1 es'.length d1))[i]? = some u → (W2.alloc (.cells #[.string tg, .slice A1 es'.length d1] 64)).cell? ⟨W2.heap.size, i, none⟩ = some u) := Lib.hid (bun_cells W2 tg A1 es'.length d1); have HW2S : Hid (w3.heap.size ≤ W2.heap.size) := Lib.hid (Nat.le_trans HW1S.out hoff.size); have HN3 : Hid (OwnsG kBunQ (W2.alloc (.cells #[.string tg, .slice A1 es'.length d1] 64)) W2.heap.size (.slice none 0 0) []) := Lib.hid (OwnsG.nil _ _); have HS3 : Hid (W2.heap.size ≤ (W2.alloc (.cells #[.string tg, .slice A1 es'.length d1] 64)).heap.size) := Lib.hid hbe.size; have HQ3 := Lib.hid (HQ2.out.below hbe); have HV6 := Lib.hid (HV5.out.below hbe); have HO6 := Lib.hid (HO5.out.below hbe HO5.out.size); clear ho hoff g1 g2 g3 hbe p0a p1a v3a)
        | (apply step_append_gB (k := kBunQ) (s := .tmp 39) (x := .tmp 47) (t := bunQ tg _ _ _) (hown := HN3.out) (hc := HX3.out) (hb := HS3.out) (hn := HL3.out) (hn2 := HL4.out); (any_goals rfl); intro v2 W4 ho2 hoff2 hfr2; obtain ⟨A2, d2, rfl, _⟩ := ho2.form; have HB4 := Lib.hid ho2; have hoff3 : Off [] _ W4 := hoff2; have HQ4 := Lib.hid (HQ3.out.off hoff3 (by simp)); have HV7 := Lib.hid (HV6.out.off hoff3 (by simp)); have HO7 := Lib.hid (HO6.out.trans (hoff3.more (by simp))); have v3d := HV7.out.c3; have f3d := HV7.out.fz 3; clear ho2 hoff2 hfr2 hoff3 HV4 HV5 HV6 HO4 HO5 HO6 HQ2 HQ3 HN1 HN3 HX3 p0b v3b p0c v3c))
      all_goals (have HCP := Lib.hid (copied_done (w := w) rfl HB4.out HQ4.out HV7.out HSVW.out HO3.out.size HW2S.out))
      all_goals (have HOF := Lib.hid (HO7.out.setCell ⟨sv, 3, none⟩ (.slice A2 ([] ++ [bunQ tg A1 es'.length d1]).length d2) (by simp)))
      all_goals (clear HB4 HQ4 HV7 HO7 HY1 HS1 HL1 HL2 HL3 HL4 HSV HLS HW1 P0 V3 HPN HW1S HW2S HS3 HE3 HA0)
      all_goals (go_wp2_with fail; go_roundw; (case rel => exact ⟨k + 1, by omega, by go_num, Lib.hid (fun h => absurd h (by omega)), Lib.hid (fun _ => HCP.out), HOF⟩); (case measure => simp [intOf]; omega))
    · have hkk : k = l.length := by omega
      obtain ⟨g, hcp⟩ := HR.out (by omega)
      have HCP := Lib.hid hcp
      obtain ⟨n, c', hn, hnc, hc9, hV, hBn, hg1, hg2⟩ := hcp
      have HG := Lib.hid hg2
      have q1 := hV.c1
      have q2 := hV.c2
      have HCr := Lib.hid (HC.out.off HO.out HD1.out.2.1 HD1.out.2.2.1)
      have HMr := Lib.hid (HMP.out.off HO.out HD1.out.2.2.2)
      have HLTW : Hid (cb < w.heap.size ∧ mb < w.heap.size) := Lib.hid ⟨HC.out.lcb, HMP.out.lt⟩
      have KC := Lib.hid (clear_ok cb pb 1 0 Cch.none wr HCr.out)
      clear HR HW hV hBn hn hnc hc9 hg1 hg2
      go_wp2_with fail
      refine KC.out.mono ?_
      rintro e w5 ⟨rfl, hC5, ho5⟩
      have HC5 := Lib.hid hC5
      have HO5 := Lib.hid ho5
      have HM5 := Lib.hid (HMr.out.off ho5 (by have := HD2.out; simp; omega))
      have r2 := ho5.cell q2 (by have := HD2.out; simp; omega)
      have HCP5 := Lib.hid (HCP.out.off ho5 (by have := HD2.out; simp; omega) (by have := HLTW.out; simp; omega))
      clear hC5 ho5 KC HCr HMr q1 q2 HCP
      obtain ⟨w6, hr6, hm6, ho6⟩ := hm_clear HM5.out Tryz.underlying124 0
      have HC6 := Lib.hid (HC5.out.off ho6 (by have := HD2.out; simp; omega) (by have := HLTW.out; have := HO.out.size; simp; omega))
      have HCP6 := Lib.hid (HCP5.out.off ho6 (by have := HD2.out; simp; omega) (by have := HLTW.out; simp; omega))
      have HM6 := Lib.hid hm6
      have HO6 : Hid (Off [sv, sb, smb, cb, mb] w w6) := Lib.hid (((HO.out.more (by simp)).trans (HO5.out.more (by simp))).trans (ho6.more (by simp)))
      clear hm6 ho6
      go_wp2_with fail
      go_ret2
      exact ⟨rfl, ⟨g, wr.heap.size, HCP6.out, HC6.out, HG.out, HM6.out⟩, HO6.out⟩
end Go.Proofs.YtplaohmdllindaaGreatDoor
