/- DiffOf: texts put together. -/
import Derived.Test.YtnhlnhmjnnopaaaGreatDoorDt13
import Derived.Test.YtnhlnhmjnnopaaaGreatDoorDt4
import Derived.Test.YtnhlnhmjnnopaaaGreatDoorDt3
import Derived.Deep.RegionHeld
import Derived.Deep.DeepCutAuto
set_option linter.unusedVariables false
set_option linter.unusedSimpArgs false
/- diff.Of. -/
namespace Go.Proofs.YtnhlnhmjnnopaaaGreatDoor
open Go.RowKit Go.Maps

abbrev SO (g : Nat) (w1 W : World) : Prop := Hid (Off [g] w1 W)
abbrev SB (w1 W : World) : Prop := Hid (Below w1.heap.size w1 W)
theorem bell (W : World) (o : Obj) : Below W.heap.size W (W.alloc o) := (Below.refl _ _).alloc (Nat.le_refl _) o
theorem EMap.ne {W : World} {mb n g : Nat} {l : List EntC} {v : Value} (h : EMap W mb n l) (hc : W.cell? ⟨g, 0, none⟩ = some v) : mb ≠ g := by
  rintro rfl
  obtain ⟨es, ⟨es0, clock, h0, _⟩, _⟩ := h
  simp only [World.cell?, h0] at hc
  cases hc
theorem EMap.nblk {W : World} {mb n g : Nat} {l : List EntC} {cur : Array Value} {t : TypeId} {fr : Nat × Nat} (h : EMap W mb n l) (hc : W.heap[g]? = some (.cells cur t fr)) : mb ≠ g := by
  rintro rfl
  obtain ⟨es, ⟨es0, clock, h0, _⟩, _⟩ := h
  rw [h0] at hc
  cases hc
theorem owns_fits {w : World} {base : Nat} {A : Option Addr} {n c : Nat} {xs : List ByteArray} (h : OwnsS w base (.slice A n c) xs) : xs.length ≤ c ∧ c ≤ 9223372036854775807 := by
  rcases h.2 with ⟨h1, h2⟩ | ⟨g, cap, cur, h1, _, _, h5, h6, _⟩
  · injection h1 with _ h3 h4
    omega
  · injection h1 with _ h3 h4
    subst h4
    exact ⟨h5, h6⟩
/-- a bundle's box -/
def BoxAt (W : World) (g : Nat) : Prop := TyAt W g 24 ∧ (∃ v, W.cell? ⟨g, 0, none⟩ = some v) ∧ ∃ v, W.cell? ⟨g, 1, none⟩ = some v
theorem BoxAt.off {W W' : World} {g : Nat} {m : List Nat} (h : BoxAt W g) (hf : Off m W W') (hg : g ∉ m) : BoxAt W' g := by
  obtain ⟨h1, ⟨v, h2⟩, ⟨u, h3⟩⟩ := h
  exact ⟨h1.off hf hg, ⟨v, hf.cell h2 hg⟩, ⟨u, hf.cell h3 hg⟩⟩
theorem BoxAt.below {W W' : World} {g : Nat} (h : BoxAt W g) (hb : Below W.heap.size W W') : BoxAt W' g := by
  obtain ⟨h1, ⟨v, h2⟩, ⟨u, h3⟩⟩ := h
  exact ⟨h1.below hb, ⟨v, carry hb h2⟩, ⟨u, carry hb h3⟩⟩
theorem EntsIn.off {w w' : World} {A : Option Addr} {l : List EntC} {m : List Nat} (h : EntsIn w A l) (hf : Off m w w') (hn : ∀ g o, A = some ⟨g, o, none⟩ → g ∉ m) : EntsIn w' A l := by
  rcases h with h | ⟨b, o, rfl, h2⟩
  · exact .inl h
  · exact .inr ⟨b, o, rfl, fun j x hx => ⟨hf.cell (h2 j x hx).1 (hn b o rfl), hf.cell (h2 j x hx).2 (hn b o rfl)⟩⟩
theorem StrsIn.off {w w' : World} {A : Option Addr} {l : List ByteArray} {m : List Nat} (h : StrsIn w A l) (hf : Off m w w') (hn : ∀ g o, A = some ⟨g, o, none⟩ → g ∉ m) : StrsIn w' A l := by
  rcases h with h | ⟨b, o, rfl, h2⟩
  · exact .inl h
  · exact .inr ⟨b, o, rfl, fun j x hx => hf.cell (h2 j x hx) (hn b o rfl)⟩
theorem isNew_at (a b : List EntC) (s : ByteArray) : isNew a (atE b s) = (!memB (a.map (·.key)) s || !decide ((lookE a s).getD ⟨#[]⟩ = (lookE b s).getD ⟨#[]⟩)) := by
  unfold isNew atE
  simp only
  cases h : lookE a s with
  | none => rw [memB_not (lookE_none.1 h)]; simp
  | some t =>
    have : memB (a.map (·.key)) s = true := memB_iff.2 (Classical.byContradiction fun hn => by rw [lookE_none.2 hn] at h; cases h)
    rw [this]
    simp
theorem sortE_at {l : List EntC} {j : Nat} {s : ByteArray} (h : (sortK l)[j]? = some s) : (sortE l)[j]? = some (atE l s) := by
  unfold sortE
  rw [List.getElem?_map, h]
  rfl
def ofOut (a b : BunC) (w w' : World) (e : Ending) : Prop := if bothErr a b = 0 then ∃ P p G g, e = .returned (.tuple #[bunV ⟨b.tag, newE a.es b.es⟩ P p, .slice G (sortK (goneE a.es b.es)).length g, .nilIface]) ∧ BunFine w' ⟨b.tag, newE a.es b.es⟩ P p ∧ StrsIn w' G (sortK (goneE a.es b.es)) ∧ (sortK (goneE a.es b.es)).length ≤ g ∧ Below w.heap.size w w'
  else e = .returned (.tuple #[.agg #[.string ⟨#[]⟩, .slice none 0 0], .slice none 0 0, errT (bothErr a b)]) ∧ Below w.heap.size w w'
theorem ofOut_bad {a b : BunC} {w w' : World} {e : Ending} (h : bothErr a b ≠ 0) (he : e = .returned (.tuple #[.agg #[.string ⟨#[]⟩, .slice none 0 0], .slice none 0 0, errT (bothErr a b)])) (hb : Below w.heap.size w w') : ofOut a b w w' e := by
  unfold ofOut
  rw [if_neg h]
  exact ⟨he, hb⟩
theorem ofOut_good {a b : BunC} {w w' : World} {e : Ending} (h : bothErr a b = 0) {P : Option Addr} {p : Nat} {G : Option Addr} {g : Nat} (he : e = .returned (.tuple #[bunV ⟨b.tag, newE a.es b.es⟩ P p, .slice G (sortK (goneE a.es b.es)).length g, .nilIface])) (h1 : BunFine w' ⟨b.tag, newE a.es b.es⟩ P p) (h2 : StrsIn w' G (sortK (goneE a.es b.es))) (h3 : (sortK (goneE a.es b.es)).length ≤ g) (hb : Below w.heap.size w w') : ofOut a b w w' e := by
  unfold ofOut
  rw [if_pos h]
  exact ⟨P, p, G, g, he, h1, h2, h3, hb⟩
set_option maxHeartbeats 16000000 in
set_option maxRecDepth 100000 in
theorem diff_of (a b : BunC) (A B : Option Addr) (c d : Nat) (w : World) (hM : MaxL w) (hA : BunFine w a A c) (hB : BunFine w b B d) (ha : a.small) (hb : b.small) :
    Calls Tryz.prog 6 #[bunV a A c, bunV b B d] w fun e w' => ofOut a b w w' e := by
  have K1 := Lib.hid (fun W (h : Below w.heap.size w W) => diff_both a b A B c d W (hM.below h) (hA.below h) (hB.below h) ha hb)
  have KA0 := Lib.hid (fun W (h : Below w.heap.size w W) (h1 : KeysOne a.es) => diff_words a A c W (hA.below h) h1 (by have := ha.2.1; omega) (fun e he => (ha.2.2 e he).1))
  have KB0 := Lib.hid (fun W (h : Below w.heap.size w W) (h1 : KeysOne b.es) => diff_words b B d W (hB.below h) h1 (by have := hb.2.1; omega) (fun e he => (hb.2.2 e he).1))
  have KOK : Hid (bothErr a b = 0 → a.err = 0 ∧ b.err = 0) := Lib.hid (fun h => by
    unfold bothErr at h
    split at h
    · exact ⟨by assumption, h⟩
    · exact absurd h (by assumption))
  obtain ⟨ta, ea⟩ := a
  obtain ⟨tb, eb⟩ := b
  have KE1 : Hid (bothErr ⟨ta, ea⟩ ⟨tb, eb⟩ = 0 → KeysOne ea ∧ KeysOne eb ∧ ea.length ≤ 100 ∧ eb.length ≤ 100) := Lib.hid (fun h => by
    obtain ⟨h1, h2⟩ := KOK.out h
    obtain ⟨_, p2, _, p4⟩ := bun_ok h1
    obtain ⟨_, q2, _, q4⟩ := bun_ok h2
    exact ⟨p4, q4, p2, q2⟩)
  have KSZ : Hid ((∀ e ∈ ea, e.key.size ≤ 1048576) ∧ (∀ e ∈ eb, e.key.size ≤ 1048576)) := Lib.hid ⟨fun e he => (ha.2.2 e he).1, fun e he => (hb.2.2 e he).1⟩
  obtain ⟨R, hR⟩ : ∃ R, R = bothErr ⟨ta, ea⟩ ⟨tb, eb⟩ := ⟨_, rfl⟩
  rw [← hR] at K1 KE1
  have HR := Lib.hid hR
  clear hR hA hB ha hb hM KOK
  unfold bunV at K1 KA0 KB0 ⊢
  simp only at K1 KA0 KB0 ⊢
  have hb0 : Below w.heap.size w (((w.alloc (.cells #[.string ta, .slice A ea.length c] 24)).alloc (.cells #[.string tb, .slice B eb.length d] 24)).alloc (.cells #[.string ⟨#[]⟩, .slice none 0 0] 24)) := (by (repeat (first | with_reducible exact Below.refl _ _ | with_reducible refine bel_set ?_ ?_ | with_reducible refine bel_alloc ?_ ?_ | with_reducible refine Below.drew ?_ | with_reducible refine bel_drewN _ ?_ | with_reducible refine bel_call ?_ (by assumption) ?_)); all_goals (first | (simp; done) | omega | (simp; omega)))
  have hty : TyAt (((w.alloc (.cells #[.string ta, .slice A ea.length c] 24)).alloc (.cells #[.string tb, .slice B eb.length d] 24)).alloc (.cells #[.string ⟨#[]⟩, .slice none 0 0] 24)) (w.heap.size + 1 + 1) 24 := by
    have := TyAt.new ((w.alloc (.cells #[.string ta, .slice A ea.length c] 24)).alloc (.cells #[.string tb, .slice B eb.length d] 24)) #[.string ⟨#[]⟩, .slice none 0 0] 24
    simpa using this
  have HB0 := Lib.hid hb0
  have HTY := Lib.hid hty
  clear hb0 hty
  go_enter Tryz.func6, Tryz.ntmps6
  go_wp2_with fail
  refine (K1.out _ HB0.out).mono ?_
  rintro e w1 ⟨rfl, hb1⟩
  have a0 : w1.cell? ⟨w.heap.size, 0, none⟩ = some (.string ta) := carry hb1 (by go_simp)
  have a1 : w1.cell? ⟨w.heap.size, 1, none⟩ = some (.slice A ea.length c) := carry hb1 (by go_simp)
  have b0 : w1.cell? ⟨w.heap.size + 1, 0, none⟩ = some (.string tb) := carry hb1 (by go_simp)
  have b1 : w1.cell? ⟨w.heap.size + 1, 1, none⟩ = some (.slice B eb.length d) := carry hb1 (by go_simp)
  have r0 : w1.cell? ⟨w.heap.size + 1 + 1, 0, none⟩ = some (.string ⟨#[]⟩) := carry hb1 (by go_simp)
  have r1 : w1.cell? ⟨w.heap.size + 1 + 1, 1, none⟩ = some (.slice none 0 0) := carry hb1 (by go_simp)
  have HT1 := Lib.hid (HTY.out.below hb1)
  have HB1 := Lib.hid (HB0.out.trans (hb1.mono HB0.out.size))
  clear hb1 HB0 HTY
  have l1 := lt_of_cell r0
  by_cases h0 : R = 0
  · have HR0 : Hid (bothErr ⟨ta, ea⟩ ⟨tb, eb⟩ = 0) := Lib.hid (HR.out.symm.trans h0)
    rw [h0, show errOf 0 = Value.nilIface from if_pos rfl]
    obtain ⟨ka, kb, la, lb8⟩ := KE1.out h0
    have KA := Lib.hid (fun W (h : Below w1.heap.size w1 W) => KA0.out W (HB1.out.trans (h.mono HB1.out.size)) ka)
    have KB := Lib.hid (fun W (h : Below w1.heap.size w1 W) => KB0.out W (HB1.out.trans (h.mono HB1.out.size)) kb)
    have HKA := Lib.hid ka
    have HKB := Lib.hid kb
    clear h0 KE1 ka kb KA0 KB0 K1
    go_upto_region 4 with fail
    go_cut [8, 9] (fun s8 s9 wx => ∃ ma mb g, s8 = .map (some ma) ∧ s9 = .pointer (some ⟨g, 0, none⟩) ∧ Hid (EMap wx ma ea.length ea ∧ EMap wx mb eb.length eb ∧ w1.heap.size ≤ ma ∧ w1.heap.size ≤ mb ∧ ma ≠ mb ∧ wx.cell? ⟨g, 0, none⟩ = some (.map (some mb)) ∧ Below w1.heap.size w1 wx))
    case first =>
      refine wp_region_held_drew (S := SB w1) (by kernel_rfl) ?_ (fun hHeld => ?_)
      · exact Lib.hid (Below.refl _ _).drew
      refine wpAnyH_take (i := 0) (v := ?v1) rfl (by kernel_rfl) (by kernel_rfl) (by kernel_rfl) (fun _ _ _ h => h) (Or.inl ⟨rfl, ?hy1⟩) hHeld ?rest1
      case hy1 => (intro w hSw; have p0 := carry hSw.out a0; have p1 := carry hSw.out a1; clear hSw; go_simp; try with_reducible rfl)
      try simp only [Act.put, List.setIfInBounds_toArray, List.set_cons_zero, List.set_cons_succ, List.getElem_toArray, List.getElem_cons_zero, List.getElem_cons_succ]
      refine wpAnyH_take (i := 2) (v := ?v2) rfl (by kernel_rfl) (by kernel_rfl) (by kernel_rfl) (fun _ _ _ h => h) (Or.inl ⟨rfl, ?hy2⟩) hHeld ?rest2
      case hy2 => (intro w hSw; have p0 := carry hSw.out b0; have p1 := carry hSw.out b1; clear hSw; go_simp; try with_reducible rfl)
      try simp only [Act.put, List.setIfInBounds_toArray, List.set_cons_zero, List.set_cons_succ, List.getElem_toArray, List.getElem_cons_zero, List.getElem_cons_succ]
      have HS := Lib.hid hHeld
      generalize w1.drew = x0 at *
      refine wpAnyH_ready (rs := [1, 4]) (by kernel_rfl) (by simp) (AllReadyH.cons rfl (fun K hK => ?_) (AllReadyH.cons rfl (fun K hK => ?_) (AllReadyH.nil)))
      · -- [] then 1
        clear hHeld
        go_simp
        go_at_call 21
        refine (KA.out x0 HS.out.out).mono ?_
        rintro e x3 ⟨ma3, hge, rfl, hem, hst⟩
        have HEA := Lib.hid hem
        have HGA : Hid (w1.heap.size ≤ ma3) := Lib.hid (Nat.le_trans HS.out.out.size hge)
        have hNew : SB w1 x3 := Lib.hid (HS.out.out.trans (hst.mono HS.out.out.size))
        try dsimp only
        refine hK.out _ _ hNew (fun _ => ?_)
        clear hge hem hst
        clear hK K
        have hHeld := hNew
        replace HS := Lib.hid hNew
        clear hNew
        try simp only [Act.put, List.setIfInBounds_toArray, List.set_cons_zero, List.set_cons_succ, List.getElem_toArray, List.getElem_cons_zero, List.getElem_cons_succ]
        refine wpAnyH_ready (rs := [3, 4]) (by kernel_rfl) (by simp) (AllReadyH.cons rfl (fun K hK => ?_) (AllReadyH.cons rfl (fun K hK => ?_) (AllReadyH.nil)))
        · -- [1] then 3
          clear hHeld
          go_simp
          go_at_call 21
          refine (KB.out x3 HS.out.out).mono ?_
          rintro e x4 ⟨mb4, hge, rfl, hem, hst⟩
          have HEB := Lib.hid hem
          have HGB : Hid (w1.heap.size ≤ mb4) := Lib.hid (Nat.le_trans HS.out.out.size hge)
          have HNE : Hid (ma3 ≠ mb4) := Lib.hid (fun e => by have := HEA.out.lt; omega)
          replace HEA := Lib.hid (HEA.out.below hst)
          have hNew : SB w1 x4 := Lib.hid (HS.out.out.trans (hst.mono HS.out.out.size))
          try dsimp only
          refine hK.out _ _ hNew (fun _ => ?_)
          clear hge hem hst
          clear hK K
          have hHeld := hNew
          replace HS := Lib.hid hNew
          clear hNew
          try simp only [Act.put, List.setIfInBounds_toArray, List.set_cons_zero, List.set_cons_succ, List.getElem_toArray, List.getElem_cons_zero, List.getElem_cons_succ]
          refine wpAnyH_ready (rs := [4]) (by kernel_rfl) (by simp) (AllReadyH.cons rfl (fun K hK => ?_) (AllReadyH.nil))
          · -- [1, 3] then 4
            clear hHeld
            obtain ⟨g5, hg5⟩ : ∃ g, g = x4.heap.size := ⟨_, rfl⟩
            obtain ⟨x5, hx5⟩ : ∃ W1, W1 = x4.alloc (.cells #[.map none] 57) := ⟨_, rfl⟩
            have hst : Below x4.heap.size x4 x5 := by rw [hx5]; exact bell _ _
            have HT : Hid (TyAt x5 g5 57) := Lib.hid (by rw [hx5, hg5]; exact TyAt.new _ _ _)
            have HQ : Hid (x5.cell? ⟨g5, 0, none⟩ = some (.map none)) := Lib.hid (by rw [hx5, hg5]; go_simp)
            have HGG : Hid (w1.heap.size ≤ g5) := Lib.hid (by rw [hg5]; exact HS.out.out.size)
            replace HEA := Lib.hid (HEA.out.below hst)
            replace HEB := Lib.hid (HEB.out.below hst)
            have hNew : SB w1 x5 := Lib.hid (HS.out.out.trans (hst.mono HS.out.out.size))
            go_simp
            rw [← hx5, ← hg5]
            refine hK.out _ _ hNew (fun _ => ?_)
            clear hx5 hst hg5
            clear hK K
            have hHeld := hNew
            replace HS := Lib.hid hNew
            clear hNew
            try simp only [Act.put, List.setIfInBounds_toArray, List.set_cons_zero, List.set_cons_succ, List.getElem_toArray, List.getElem_cons_zero, List.getElem_cons_succ]
            refine wpAnyH_take (i := 5) (v := ?v6) rfl (by kernel_rfl) (by kernel_rfl) (by kernel_rfl) (fun _ _ _ h => h) (Or.inl ⟨rfl, ?hy6⟩) hHeld ?rest6
            case hy6 => (intro w hSw; clear hSw; go_simp; try with_reducible rfl)
            try simp only [Act.put, List.setIfInBounds_toArray, List.set_cons_zero, List.set_cons_succ, List.getElem_toArray, List.getElem_cons_zero, List.getElem_cons_succ]
            refine wpAnyH_ready (rs := [6]) (by kernel_rfl) (by simp) (AllReadyH.cons rfl (fun K hK => ?_) (AllReadyH.nil))
            · -- [1, 3, 4] then 6
              clear hHeld
              have hq := HQ.out
              have hf := HT.out.frozen 0
              have hl := lt_of_cell hq
              obtain ⟨x7, hx7⟩ : ∃ W1, W1 = x5.setCell ⟨g5, 0, none⟩ (.map (some mb4)) := ⟨_, rfl⟩
              have hof : Off [g5] x5 x7 := by rw [hx7]; exact (Off.refl [g5] x5).setCell _ _ (by simp)
              have HC : Hid (x7.cell? ⟨g5, 0, none⟩ = some (.map (some mb4))) := Lib.hid (by rw [hx7]; exact cell_same hq)
              have hst : Below w1.heap.size x5 x7 := hof.toBelow (fun j hj => by simp only [List.mem_singleton] at hj; subst hj; exact HGG.out) HS.out.out.size
              replace HEA := Lib.hid (HEA.out.off hof (by simpa using HEA.out.ne hq))
              replace HEB := Lib.hid (HEB.out.off hof (by simpa using HEB.out.ne hq))
              have hNew : SB w1 x7 := Lib.hid (HS.out.out.trans hst)
              go_simp
              rw [← hx7]
              refine hK.out _ _ hNew (fun _ => ?_)
              clear hx7 hst hq hf hl hof HQ HT HGG
              clear hK K
              have hHeld := hNew
              replace HS := Lib.hid hNew
              clear hNew
              try simp only [Act.put, List.setIfInBounds_toArray, List.set_cons_zero, List.set_cons_succ, List.getElem_toArray, List.getElem_cons_zero, List.getElem_cons_succ]
              refine wpAnyH_done (by kernel_rfl) ?_ _
              try dsimp only
              go_wp2_with fail
              go_meet
              exact ⟨ma3, mb4, g5, rfl, rfl, Lib.hid ⟨HEA.out, HEB.out, HGA.out, HGB.out, HNE.out, HC.out, HS.out.out⟩⟩
        · -- [1] then 4
          clear hHeld
          obtain ⟨g8, hg8⟩ : ∃ g, g = x3.heap.size := ⟨_, rfl⟩
          obtain ⟨x8, hx8⟩ : ∃ W1, W1 = x3.alloc (.cells #[.map none] 57) := ⟨_, rfl⟩
          have hst : Below x3.heap.size x3 x8 := by rw [hx8]; exact bell _ _
          have HT : Hid (TyAt x8 g8 57) := Lib.hid (by rw [hx8, hg8]; exact TyAt.new _ _ _)
          have HQ : Hid (x8.cell? ⟨g8, 0, none⟩ = some (.map none)) := Lib.hid (by rw [hx8, hg8]; go_simp)
          have HGG : Hid (w1.heap.size ≤ g8) := Lib.hid (by rw [hg8]; exact HS.out.out.size)
          replace HEA := Lib.hid (HEA.out.below hst)
          have hNew : SB w1 x8 := Lib.hid (HS.out.out.trans (hst.mono HS.out.out.size))
          go_simp
          rw [← hx8, ← hg8]
          refine hK.out _ _ hNew (fun _ => ?_)
          clear hx8 hst hg8
          clear hK K
          have hHeld := hNew
          replace HS := Lib.hid hNew
          clear hNew
          try simp only [Act.put, List.setIfInBounds_toArray, List.set_cons_zero, List.set_cons_succ, List.getElem_toArray, List.getElem_cons_zero, List.getElem_cons_succ]
          refine wpAnyH_ready (rs := [3]) (by kernel_rfl) (by simp) (AllReadyH.cons rfl (fun K hK => ?_) (AllReadyH.nil))
          · -- [1, 4] then 3
            clear hHeld
            go_simp
            go_at_call 21
            refine (KB.out x8 HS.out.out).mono ?_
            rintro e x9 ⟨mb9, hge, rfl, hem, hst⟩
            have HEB := Lib.hid hem
            have HGB : Hid (w1.heap.size ≤ mb9) := Lib.hid (Nat.le_trans HS.out.out.size hge)
            have HNE : Hid (ma3 ≠ mb9) := Lib.hid (fun e => by have := HEA.out.lt; omega)
            replace HEA := Lib.hid (HEA.out.below hst)
            replace HT := Lib.hid (HT.out.below hst)
            replace HQ := Lib.hid (carry hst HQ.out)
            have hNew : SB w1 x9 := Lib.hid (HS.out.out.trans (hst.mono HS.out.out.size))
            try dsimp only
            refine hK.out _ _ hNew (fun _ => ?_)
            clear hge hem hst
            clear hK K
            have hHeld := hNew
            replace HS := Lib.hid hNew
            clear hNew
            try simp only [Act.put, List.setIfInBounds_toArray, List.set_cons_zero, List.set_cons_succ, List.getElem_toArray, List.getElem_cons_zero, List.getElem_cons_succ]
            refine wpAnyH_take (i := 5) (v := ?v10) rfl (by kernel_rfl) (by kernel_rfl) (by kernel_rfl) (fun _ _ _ h => h) (Or.inl ⟨rfl, ?hy10⟩) hHeld ?rest10
            case hy10 => (intro w hSw; clear hSw; go_simp; try with_reducible rfl)
            try simp only [Act.put, List.setIfInBounds_toArray, List.set_cons_zero, List.set_cons_succ, List.getElem_toArray, List.getElem_cons_zero, List.getElem_cons_succ]
            refine wpAnyH_ready (rs := [6]) (by kernel_rfl) (by simp) (AllReadyH.cons rfl (fun K hK => ?_) (AllReadyH.nil))
            · -- [1, 3, 4] then 6
              clear hHeld
              have hq := HQ.out
              have hf := HT.out.frozen 0
              have hl := lt_of_cell hq
              obtain ⟨x11, hx11⟩ : ∃ W1, W1 = x9.setCell ⟨g8, 0, none⟩ (.map (some mb9)) := ⟨_, rfl⟩
              have hof : Off [g8] x9 x11 := by rw [hx11]; exact (Off.refl [g8] x9).setCell _ _ (by simp)
              have HC : Hid (x11.cell? ⟨g8, 0, none⟩ = some (.map (some mb9))) := Lib.hid (by rw [hx11]; exact cell_same hq)
              have hst : Below w1.heap.size x9 x11 := hof.toBelow (fun j hj => by simp only [List.mem_singleton] at hj; subst hj; exact HGG.out) HS.out.out.size
              replace HEA := Lib.hid (HEA.out.off hof (by simpa using HEA.out.ne hq))
              replace HEB := Lib.hid (HEB.out.off hof (by simpa using HEB.out.ne hq))
              have hNew : SB w1 x11 := Lib.hid (HS.out.out.trans hst)
              go_simp
              rw [← hx11]
              refine hK.out _ _ hNew (fun _ => ?_)
              clear hx11 hst hq hf hl hof HQ HT HGG
              clear hK K
              have hHeld := hNew
              replace HS := Lib.hid hNew
              clear hNew
              try simp only [Act.put, List.setIfInBounds_toArray, List.set_cons_zero, List.set_cons_succ, List.getElem_toArray, List.getElem_cons_zero, List.getElem_cons_succ]
              refine wpAnyH_done (by kernel_rfl) ?_ _
              try dsimp only
              go_wp2_with fail
              go_meet
              exact ⟨ma3, mb9, g8, rfl, rfl, Lib.hid ⟨HEA.out, HEB.out, HGA.out, HGB.out, HNE.out, HC.out, HS.out.out⟩⟩
      · -- [] then 4
        clear hHeld
        obtain ⟨g12, hg12⟩ : ∃ g, g = x0.heap.size := ⟨_, rfl⟩
        obtain ⟨x12, hx12⟩ : ∃ W1, W1 = x0.alloc (.cells #[.map none] 57) := ⟨_, rfl⟩
        have hst : Below x0.heap.size x0 x12 := by rw [hx12]; exact bell _ _
        have HT : Hid (TyAt x12 g12 57) := Lib.hid (by rw [hx12, hg12]; exact TyAt.new _ _ _)
        have HQ : Hid (x12.cell? ⟨g12, 0, none⟩ = some (.map none)) := Lib.hid (by rw [hx12, hg12]; go_simp)
        have HGG : Hid (w1.heap.size ≤ g12) := Lib.hid (by rw [hg12]; exact HS.out.out.size)
        have hNew : SB w1 x12 := Lib.hid (HS.out.out.trans (hst.mono HS.out.out.size))
        go_simp
        rw [← hx12, ← hg12]
        refine hK.out _ _ hNew (fun _ => ?_)
        clear hx12 hst hg12
        clear hK K
        have hHeld := hNew
        replace HS := Lib.hid hNew
        clear hNew
        try simp only [Act.put, List.setIfInBounds_toArray, List.set_cons_zero, List.set_cons_succ, List.getElem_toArray, List.getElem_cons_zero, List.getElem_cons_succ]
        refine wpAnyH_ready (rs := [1]) (by kernel_rfl) (by simp) (AllReadyH.cons rfl (fun K hK => ?_) (AllReadyH.nil))
        · -- [4] then 1
          clear hHeld
          go_simp
          go_at_call 21
          refine (KA.out x12 HS.out.out).mono ?_
          rintro e x13 ⟨ma13, hge, rfl, hem, hst⟩
          have HEA := Lib.hid hem
          have HGA : Hid (w1.heap.size ≤ ma13) := Lib.hid (Nat.le_trans HS.out.out.size hge)
          replace HT := Lib.hid (HT.out.below hst)
          replace HQ := Lib.hid (carry hst HQ.out)
          have hNew : SB w1 x13 := Lib.hid (HS.out.out.trans (hst.mono HS.out.out.size))
          try dsimp only
          refine hK.out _ _ hNew (fun _ => ?_)
          clear hge hem hst
          clear hK K
          have hHeld := hNew
          replace HS := Lib.hid hNew
          clear hNew
          try simp only [Act.put, List.setIfInBounds_toArray, List.set_cons_zero, List.set_cons_succ, List.getElem_toArray, List.getElem_cons_zero, List.getElem_cons_succ]
          refine wpAnyH_ready (rs := [3]) (by kernel_rfl) (by simp) (AllReadyH.cons rfl (fun K hK => ?_) (AllReadyH.nil))
          · -- [1, 4] then 3
            clear hHeld
            go_simp
            go_at_call 21
            refine (KB.out x13 HS.out.out).mono ?_
            rintro e x14 ⟨mb14, hge, rfl, hem, hst⟩
            have HEB := Lib.hid hem
            have HGB : Hid (w1.heap.size ≤ mb14) := Lib.hid (Nat.le_trans HS.out.out.size hge)
            have HNE : Hid (ma13 ≠ mb14) := Lib.hid (fun e => by have := HEA.out.lt; omega)
            replace HEA := Lib.hid (HEA.out.below hst)
            replace HT := Lib.hid (HT.out.below hst)
            replace HQ := Lib.hid (carry hst HQ.out)
            have hNew : SB w1 x14 := Lib.hid (HS.out.out.trans (hst.mono HS.out.out.size))
            try dsimp only
            refine hK.out _ _ hNew (fun _ => ?_)
            clear hge hem hst
            clear hK K
            have hHeld := hNew
            replace HS := Lib.hid hNew
            clear hNew
            try simp only [Act.put, List.setIfInBounds_toArray, List.set_cons_zero, List.set_cons_succ, List.getElem_toArray, List.getElem_cons_zero, List.getElem_cons_succ]
            refine wpAnyH_take (i := 5) (v := ?v15) rfl (by kernel_rfl) (by kernel_rfl) (by kernel_rfl) (fun _ _ _ h => h) (Or.inl ⟨rfl, ?hy15⟩) hHeld ?rest15
            case hy15 => (intro w hSw; clear hSw; go_simp; try with_reducible rfl)
            try simp only [Act.put, List.setIfInBounds_toArray, List.set_cons_zero, List.set_cons_succ, List.getElem_toArray, List.getElem_cons_zero, List.getElem_cons_succ]
            refine wpAnyH_ready (rs := [6]) (by kernel_rfl) (by simp) (AllReadyH.cons rfl (fun K hK => ?_) (AllReadyH.nil))
            · -- [1, 3, 4] then 6
              clear hHeld
              have hq := HQ.out
              have hf := HT.out.frozen 0
              have hl := lt_of_cell hq
              obtain ⟨x16, hx16⟩ : ∃ W1, W1 = x14.setCell ⟨g12, 0, none⟩ (.map (some mb14)) := ⟨_, rfl⟩
              have hof : Off [g12] x14 x16 := by rw [hx16]; exact (Off.refl [g12] x14).setCell _ _ (by simp)
              have HC : Hid (x16.cell? ⟨g12, 0, none⟩ = some (.map (some mb14))) := Lib.hid (by rw [hx16]; exact cell_same hq)
              have hst : Below w1.heap.size x14 x16 := hof.toBelow (fun j hj => by simp only [List.mem_singleton] at hj; subst hj; exact HGG.out) HS.out.out.size
              replace HEA := Lib.hid (HEA.out.off hof (by simpa using HEA.out.ne hq))
              replace HEB := Lib.hid (HEB.out.off hof (by simpa using HEB.out.ne hq))
              have hNew : SB w1 x16 := Lib.hid (HS.out.out.trans hst)
              go_simp
              rw [← hx16]
              refine hK.out _ _ hNew (fun _ => ?_)
              clear hx16 hst hq hf hl hof HQ HT HGG
              clear hK K
              have hHeld := hNew
              replace HS := Lib.hid hNew
              clear hNew
              try simp only [Act.put, List.setIfInBounds_toArray, List.set_cons_zero, List.set_cons_succ, List.getElem_toArray, List.getElem_cons_zero, List.getElem_cons_succ]
              refine wpAnyH_done (by kernel_rfl) ?_ _
              try dsimp only
              go_wp2_with fail
              go_meet
              exact ⟨ma13, mb14, g12, rfl, rfl, Lib.hid ⟨HEA.out, HEB.out, HGA.out, HGB.out, HNE.out, HC.out, HS.out.out⟩⟩
    case rest =>
      obtain ⟨ma, mb, gx, rfl, rfl, HW⟩ := hcut
      obtain ⟨hEA, hEB, hga, hgb, hne, hgc, hb2⟩ := HW.out
      have b0 := carry hb2 b0
      have HT2 : Hid (BoxAt wc (w.heap.size + 1 + 1)) := Lib.hid (BoxAt.below ⟨HT1.out, ⟨_, r0⟩, ⟨_, r1⟩⟩ hb2)
      have l2 := lt_of_cell b0
      have lg := lt_of_cell hgc
      have la := hEA.lt
      have lm := hEB.lt
      have HB2 := Lib.hid (HB1.out.trans (hb2.mono HB1.out.size))
      have hbk : Below wc.heap.size wc ((wc.alloc (.cells #[.string tb, .slice none 0 0] 24)).alloc (.cells #[.map (some mb)] 57)) := (by (repeat (first | with_reducible exact Below.refl _ _ | with_reducible refine bel_set ?_ ?_ | with_reducible refine bel_alloc ?_ ?_ | with_reducible refine Below.drew ?_ | with_reducible refine bel_drewN _ ?_ | with_reducible refine bel_call ?_ (by assumption) ?_)); all_goals (first | (simp; done) | omega | (simp; omega)))
      have HEB3 := Lib.hid (hEB.below hbk)
      have HEA3 := Lib.hid (hEA.below hbk)
      have HK3 := Lib.hid hbk
      have hTP : TyAt ((wc.alloc (.cells #[.string tb, .slice none 0 0] 24)).alloc (.cells #[.map (some mb)] 57)) wc.heap.size 24 := (TyAt.new wc _ _).below (by (repeat (first | with_reducible exact Below.refl _ _ | with_reducible refine bel_set ?_ ?_ | with_reducible refine bel_alloc ?_ ?_ | with_reducible refine Below.drew ?_ | with_reducible refine bel_drewN _ ?_ | with_reducible refine bel_call ?_ (by assumption) ?_)); all_goals (first | (simp; done) | omega | (simp; omega)))
      have HTP := Lib.hid hTP
      have hrt : w.heap.size + 1 + 1 < w1.heap.size := l1
      have HNE := Lib.hid hne
      clear hne
      have HG := Lib.hid (And.intro hga hgb)
      have HS1 := Lib.hid hb2.size
      clear HW hEA hEB hbk hTP hb2 a0 a1 b1 r0 r1 hga hgb KA KB HB1 HT1
      go_wp2_with fail
      refine (keys_calls _ _).mono ?_
      rintro e w3 ⟨rfl, rfl⟩
      go_wp2_with fail
      refine (sorted_calls HEB3.out (by omega) _ (by go_simp)).mono ?_
      rintro e w4 ⟨v4, rfl, hrow, hb4⟩
      obtain ⟨A4, c4, rfl, hA4, hs4, ho4⟩ := hrow.form
      have p0 : w4.cell? ⟨wc.heap.size, 0, none⟩ = some (.string tb) := carry hb4 (by go_simp)
      have p1 : w4.cell? ⟨wc.heap.size, 1, none⟩ = some (.slice none 0 0) := carry hb4 (by go_simp)
      have x9 : w4.cell? ⟨gx, 0, none⟩ = some (.map (some mb)) := carry (HK3.out.trans (hb4.mono HK3.out.size)) hgc
      have HEA4 := Lib.hid (HEA3.out.below hb4)
      have HEB4 := Lib.hid (HEB3.out.below hb4)
      have HT4 := Lib.hid ((HT2.out.below HK3.out).below hb4)
      have HP0 := Lib.hid (PutAt.start p0 p1 (HTP.out.below hb4))
      have HB4 := Lib.hid ((HB2.out.trans (HK3.out.mono HB2.out.size)).trans (hb4.mono (Nat.le_trans HB2.out.size HK3.out.size)))
      have HS4 := Lib.hid hs4
      have HO4 : Hid (∀ g o, A4 = some ⟨g, o, none⟩ → g ≠ wc.heap.size) := Lib.hid (fun g o e => by
        subst e
        have := (ho4 g rfl).1
        simp at this
        omega)
      have hlK : (sortK eb).length = eb.length := sortK_len eb
      have hwl := lt_of_cell p0
      have hxl := lt_of_cell x9
      have HNX : Hid (gx ≠ wc.heap.size ∧ ma ≠ wc.heap.size ∧ mb ≠ wc.heap.size) := Lib.hid ⟨by omega, by omega, by omega⟩
      clear hrow hb4 hs4 ho4 hA4 HEA3 HEB3 HK3 HTP HB2 HT2 p0 p1 b0 hgc
      go_wp2_with fail
      go_loopw [33] (fun i wr => ∃ j : Nat, j ≤ eb.length ∧ i = .int .i64 j ∧ Hid (PutAt w4 wr wc.heap.size tb (((sortE eb).take j).filter (isNew ea)))) (fun i _ => eb.length - (intOf i).toNat)
      case atStart => exact ⟨0, Nat.zero_le _, rfl, Lib.hid (by rw [List.take_zero]; exact HP0.out)⟩
      case round =>
        obtain ⟨j, hj, rfl, HP⟩ := hrel
        obtain ⟨acc, hacc⟩ : ∃ acc, acc = ((sortE eb).take j).filter (isNew ea) := ⟨_, rfl⟩
        rw [← hacc] at HP
        have HAC := Lib.hid hacc
        have HAL : Hid (acc.length ≤ 100) := Lib.hid (by rw [hacc]; have h1 := List.length_filter_le (isNew ea) ((sortE eb).take j); rw [List.length_take] at h1; omega)
        clear hacc
        have x9r := HP.out.off.cell x9 (by simp [HNX.out.1])
        have hxr := lt_of_cell x9r
        have p0r := HP.out.c0
        have hpr := lt_of_cell p0r
        by_cases hlt : j < eb.length
        · obtain ⟨s, hs⟩ : ∃ s, (sortK eb)[j]? = some s := ⟨_, List.getElem?_eq_getElem (by rw [hlK]; exact hlt)⟩
          have hX := sortE_at hs
          have hsm : s ∈ eb.map (·.key) := sortK_mem.1 (List.mem_of_getElem? hs)
          have hsz : s.size ≤ 1048576 := by
            obtain ⟨y, hy, rfl⟩ := List.mem_map.1 hsm
            exact KSZ.out.2 y hy
          obtain ⟨bS, oS, rfl, hat⟩ : ∃ b o, A4 = some ⟨b, o, none⟩ ∧ ∀ (j : Nat) x, (sortK eb)[j]? = some x → w4.cell? ⟨b, o + j, none⟩ = some (.string x) := by
            rcases HS4.out with h | h
            · rw [h] at hs; cases hs
            · exact h
          have y0 := HP.out.off.cell (hat j s hs) (by simp [HO4.out _ _ rfl])
          have yl := lt_of_cell y0
          have i8 : (j : Int) < (eb.length : Int) := by omega
          have i9 : IntKind.i64.wrap ((j : Int) + 1) = ((j + 1 : Nat) : Int) := by rw [IntWalk.i64_in _ (by omega)]; omega
          have hEAr := HEA4.out.off HP.out.off (by simp [HNX.out.2.1])
          have hEBr := HEB4.out.off HP.out.off (by simp [HNX.out.2.2])
          have hlk1 := em_ok hEAr Tryz.underlying57 (zero_str wr) (s := s) (by unfold maxLen; omega)
          have hlk2 := em_at hEBr Tryz.underlying57 (zero_str wr) (s := s) (by unfold maxLen; omega)
          have hbA : Below wr.heap.size wr (wr.alloc (.cells #[.string s, .string ((lookE eb s).getD ⟨#[]⟩)] 50)) := (by (repeat (first | with_reducible exact Below.refl _ _ | with_reducible refine bel_set ?_ ?_ | with_reducible refine bel_alloc ?_ ?_ | with_reducible refine Below.drew ?_ | with_reducible refine bel_drewN _ ?_ | with_reducible refine bel_call ?_ (by assumption) ?_)); all_goals (first | (simp; done) | omega | (simp; omega)))
          have hN0 := isNew_at ea eb s
          obtain ⟨xE, hxE⟩ : ∃ x, x = atE eb s := ⟨_, rfl⟩
          have hx2 : xE = ⟨s, (lookE eb s).getD ⟨#[]⟩⟩ := hxE
          rw [← hxE] at hN0 hX
          obtain ⟨T, hT⟩ : ∃ T, T = (lookE eb s).getD ⟨#[]⟩ := ⟨_, rfl⟩
          obtain ⟨U, hU⟩ : ∃ U, U = (lookE ea s).getD ⟨#[]⟩ := ⟨_, rfl⟩
          obtain ⟨M, hM⟩ : ∃ M, M = memB (ea.map (·.key)) s := ⟨_, rfl⟩
          rw [← hT] at hlk2 hN0 hx2
          rw [← hU] at hlk1 hN0
          rw [← hM] at hlk1 hN0
          have HXE := Lib.hid hx2
          have HX := Lib.hid hX
          have HI := Lib.hid hN0
          clear hT hU hM hN0 hX hsm hat hs hEAr hEBr hx2 hxE hbA
          cases M
          · have HB : Hid ((!false || !decide (U = T)) = true) := Lib.hid rfl
            obtain ⟨v8, c80, hO8⟩ := HP.out.box
            have hN : isNew ea xE = true := by rw [HI.out]; exact HB.out
            obtain ⟨A8, c8, rfl, _⟩ := hO8.form
            have hBa : Below wr.heap.size wr (wr.alloc (.cells #[.string s, .string T] 50)) := (by (repeat (first | with_reducible exact Below.refl _ _ | with_reducible refine bel_set ?_ ?_ | with_reducible refine bel_alloc ?_ ?_ | with_reducible refine Below.drew ?_ | with_reducible refine bel_drewN _ ?_ | with_reducible refine bel_call ?_ (by assumption) ?_)); all_goals (first | (simp; done) | omega | (simp; omega)))
            have HOA := Lib.hid (hO8.below hBa)
            have X0 : Hid (∀ i u, (kEnt.cells xE)[i]? = some u → (wr.alloc (.cells #[.string s, .string T] 50)).cell? ⟨wr.heap.size, i, none⟩ = some u) := Lib.hid (fun i u hu => by
              rw [HXE.out] at hu
              match i, u, hu with
              | 0, _, hu => injection hu with hu; subst hu; go_simp
              | 1, _, hu => injection hu with hu; subst hu; go_simp)
            have HSZ : Hid (w4.heap.size ≤ (wr.alloc (.cells #[.string s, .string T] 50)).heap.size) := Lib.hid (Nat.le_trans HP.out.off.size hBa.size)
            have HN8 : Hid ((acc.length + 1) * kEnt.bytes ≤ 140737488355328) := Lib.hid (by show (acc.length + 1) * 32 ≤ _; have := HAL.out; omega)
            have HN9 : Hid (acc.length + 1 ≤ 9223372036854775807) := Lib.hid (by have := HAL.out; omega)
            have HEND := Lib.hid (fun (v' : Value) (w8 : World) (h8 : OwnsG kEnt w8 w4.heap.size v' (acc ++ [xE])) (hF : Off (Value.slice A8 acc.length c8).ownBlock.toList (wr.alloc (.cells #[.string s, .string T] 50)) w8) => HP.out.more c80 hO8 hBa h8 hF)
            have HTK : Hid (((sortE eb).take (j + 1)).filter (isNew ea) = acc ++ [xE]) := Lib.hid (by rw [List.take_add_one, HX.out, List.filter_append, ← HAC.out]; simp [hN])
            have s80 := lt_of_cell c80
            clear hO8 hBa hN HB HI
            go_wp2_with (at_builtin; refine wpList_append_gB (k := kEnt) rfl _ _ rfl (base := w4.heap.size) (v := .slice A8 acc.length c8) (ts := acc) xE rfl rfl HOA.out X0.out HSZ.out HN8.out HN9.out ?_; intro v' w8 ho hoff hfr; have hend := HEND.out v' w8 ho hoff; obtain ⟨A9, c9, rfl, _⟩ := ho.form; have d4 := hend.1; have f4 := hend.2.1; have HE8 := Lib.hid hend.2.2; clear ho hoff hfr hend)
            have h9 := HE8.out
            rw [List.length_append, List.length_singleton] at h9
            exact ⟨⟨j + 1, hlt, by congr 1, Lib.hid (by rw [HTK.out]; exact h9)⟩, by simp only [intOf]; omega⟩
          · by_cases hUT : U = T
            · have hN : isNew ea xE = false := by rw [HI.out]; simp [hUT]
              have HTK : Hid (((sortE eb).take (j + 1)).filter (isNew ea) = acc) := Lib.hid (by rw [List.take_add_one, HX.out, List.filter_append, ← HAC.out]; simp [hN])
              clear hN HI HX
              subst hUT
              go_wp2_with fail
              all_goals exact ⟨⟨j + 1, hlt, by congr 1, Lib.hid (by rw [HTK.out]; exact HP.out)⟩, by simp only [intOf]; omega⟩
            · have HB : Hid ((!true || !decide (U = T)) = true) := Lib.hid (by simp [hUT])
              have h2 : (U.toList == T.toList) = false := by
                rw [ByteArray.toList_eq, ByteArray.toList_eq]
                exact beq_eq_false_iff_ne.2 (fun e => hUT (ByteArray.ext (Array.ext' e)))
              obtain ⟨v8, c80, hO8⟩ := HP.out.box
              have hN : isNew ea xE = true := by rw [HI.out]; exact HB.out
              obtain ⟨A8, c8, rfl, _⟩ := hO8.form
              have hBa : Below wr.heap.size wr (wr.alloc (.cells #[.string s, .string T] 50)) := (by (repeat (first | with_reducible exact Below.refl _ _ | with_reducible refine bel_set ?_ ?_ | with_reducible refine bel_alloc ?_ ?_ | with_reducible refine Below.drew ?_ | with_reducible refine bel_drewN _ ?_ | with_reducible refine bel_call ?_ (by assumption) ?_)); all_goals (first | (simp; done) | omega | (simp; omega)))
              have HOA := Lib.hid (hO8.below hBa)
              have X0 : Hid (∀ i u, (kEnt.cells xE)[i]? = some u → (wr.alloc (.cells #[.string s, .string T] 50)).cell? ⟨wr.heap.size, i, none⟩ = some u) := Lib.hid (fun i u hu => by
                rw [HXE.out] at hu
                match i, u, hu with
                | 0, _, hu => injection hu with hu; subst hu; go_simp
                | 1, _, hu => injection hu with hu; subst hu; go_simp)
              have HSZ : Hid (w4.heap.size ≤ (wr.alloc (.cells #[.string s, .string T] 50)).heap.size) := Lib.hid (Nat.le_trans HP.out.off.size hBa.size)
              have HN8 : Hid ((acc.length + 1) * kEnt.bytes ≤ 140737488355328) := Lib.hid (by show (acc.length + 1) * 32 ≤ _; have := HAL.out; omega)
              have HN9 : Hid (acc.length + 1 ≤ 9223372036854775807) := Lib.hid (by have := HAL.out; omega)
              have HEND := Lib.hid (fun (v' : Value) (w8 : World) (h8 : OwnsG kEnt w8 w4.heap.size v' (acc ++ [xE])) (hF : Off (Value.slice A8 acc.length c8).ownBlock.toList (wr.alloc (.cells #[.string s, .string T] 50)) w8) => HP.out.more c80 hO8 hBa h8 hF)
              have HTK : Hid (((sortE eb).take (j + 1)).filter (isNew ea) = acc ++ [xE]) := Lib.hid (by rw [List.take_add_one, HX.out, List.filter_append, ← HAC.out]; simp [hN])
              have s80 := lt_of_cell c80
              clear hO8 hBa hN HB HI
              go_wp2_with (at_builtin; refine wpList_append_gB (k := kEnt) rfl _ _ rfl (base := w4.heap.size) (v := .slice A8 acc.length c8) (ts := acc) xE rfl rfl HOA.out X0.out HSZ.out HN8.out HN9.out ?_; intro v' w8 ho hoff hfr; have hend := HEND.out v' w8 ho hoff; obtain ⟨A9, c9, rfl, _⟩ := ho.form; have d4 := hend.1; have f4 := hend.2.1; have HE8 := Lib.hid hend.2.2; clear ho hoff hfr hend)
              have h9 := HE8.out
              rw [List.length_append, List.length_singleton] at h9
              exact ⟨⟨j + 1, hlt, by congr 1, Lib.hid (by rw [HTK.out]; exact h9)⟩, by simp only [intOf]; omega⟩
        · obtain rfl : j = eb.length := by omega
          have HTK : Hid (acc = newE ea eb) := Lib.hid (by rw [HAC.out, List.take_of_length_le (by rw [sortE_len]; exact Nat.le_refl _)]; rfl)
          obtain ⟨v8, c80, hO8⟩ := HP.out.box
          rw [HTK.out] at hO8
          obtain ⟨P, p, rfl, k1, k2, k3, k4⟩ := ents_of hO8
          have hEAr := HEA4.out.off HP.out.off (by simp [HNX.out.2.1])
          have hEBr := HEB4.out.off HP.out.off (by simp [HNX.out.2.2])
          have HTr := Lib.hid (HT4.out.off HP.out.off (by have := HS1.out; simp; omega))
          have hmf : ∀ (fn : Fn) (first cap : Array Value) (w : World), (Instr.makeFunc fn first cap).run Tryz.prog w = .ok (.func fn first cap) w := fun _ _ _ _ => rfl
          have HBr := Lib.hid (HB4.out.trans (HP.out.off.toBelow (fun k hk => by simp only [List.mem_singleton] at hk; omega) HB4.out.size))
          have HKD := Lib.hid (delete_calls hEAr hEBr HNE.out gx x9r)
          have hma : wc.heap.size ≠ ma := fun e => HNX.out.2.1 e.symm
          have hrm : w.heap.size + 1 + 1 ≠ ma := by have := HG.out.1; omega
          have HPM : Hid (∀ g o, P = some ⟨g, o, none⟩ → ma ≠ g) := Lib.hid (fun g o e => by
            subst e
            obtain ⟨_, cur, hc⟩ := hO8.block g (by simp [Value.ownBlock])
            exact hEAr.nblk hc)
          have HK4 := Lib.hid k4
          have HPR : Hid (∀ g o, P = some ⟨g, o, none⟩ → g ∉ [w.heap.size + 1 + 1]) := Lib.hid (fun g o e => by
            subst e
            have h9 := (hO8.block g (by simp [Value.ownBlock])).1
            have := HS1.out
            simp
            omega)
          clear hEAr hEBr hO8 HP HEA4 HEB4 k4 HAC
          go_wp2_with fail
          refine HKD.out.mono ?_
          rintro e w5 ⟨rfl, hE5, ho5⟩
          have q0 := ho5.cell p0r (by simp [hma])
          have q1 := ho5.cell c80 (by simp [hma])
          have HT5 := Lib.hid (HTr.out.off ho5 (by simp [hrm]))
          have HBM : Hid (w.heap.size ≤ ma) := Lib.hid (by have := HG.out.1; omega)
          have HB5 := Lib.hid (HBr.out.trans (ho5.toBelow (fun k hk => by simp only [List.mem_singleton] at hk; have := HBM.out; omega) HBr.out.size))
          have HK5 : Hid (EntsIn w5 P (newE ea eb)) := Lib.hid (HK4.out.off ho5 (fun g o e => by
            have := HPM.out g o e
            simp
            exact fun e => this e.symm))
          have HE5 := Lib.hid hE5
          have ql := lt_of_cell q0
          clear hE5 ho5 HKD HK4 HPM p0r c80 x9r hxr hpr
          go_upto_region 14 with fail
          have hpn : wc.heap.size ≠ w.heap.size + 1 + 1 := by have := HS1.out; omega
          have HTY5 : Hid (BoxAt w5 (w.heap.size + 1 + 1)) := HT5
          clear HT5
          refine wp_region_held_drew (S := SO (w.heap.size + 1 + 1) w5) (by kernel_rfl) ?_ (fun hHeld => ?_)
          · exact Lib.hid ((Off.refl _ w5).drewN 1)
          refine wpAnyH_take (i := 0) (v := ?vz1) rfl (by kernel_rfl) (by kernel_rfl) (by kernel_rfl) (fun _ _ _ h => h) (Or.inl ⟨rfl, ?hz1⟩) hHeld ?restz1
          case hz1 => (intro w hSw; have u0 := hSw.out.cell q0 (by simp [hpn]); have u1 := hSw.out.cell q1 (by simp [hpn]); clear hSw; go_simp; try with_reducible rfl)
          try simp only [Act.put, List.setIfInBounds_toArray, List.set_cons_zero, List.set_cons_succ, List.getElem_toArray, List.getElem_cons_zero, List.getElem_cons_succ]
          refine wpAnyH_take (i := 1) (v := ?vz2) rfl (by kernel_rfl) (by kernel_rfl) (by kernel_rfl) (fun _ _ _ h => h) (Or.inl ⟨rfl, ?hz2⟩) hHeld ?restz2
          case hz2 => (intro w hSw; clear hSw; go_simp; try with_reducible rfl)
          try simp only [Act.put, List.setIfInBounds_toArray, List.set_cons_zero, List.set_cons_succ, List.getElem_toArray, List.getElem_cons_zero, List.getElem_cons_succ]
          have HS := Lib.hid hHeld
          have HY : Hid (BoxAt w5.drew (w.heap.size + 1 + 1)) := HTY5
          generalize w5.drew = x0 at *
          refine wpAnyH_ready (rs := [2]) (by kernel_rfl) (by simp) (AllReadyH.cons rfl (fun K hK => ?_) (AllReadyH.nil))
          clear hHeld
          go_simp
          go_at_call 23
          refine (keys_calls (some ma) x0).mono ?_
          rintro e x1 ⟨rfl, hx1⟩
          have hst : Below x0.heap.size x0 x1 := by rw [hx1]; exact bell _ _
          have hbx : x1.cell? ⟨x0.heap.size, 0, none⟩ = some (.map (some ma)) := by rw [hx1]; go_simp
          have hNew : SO (w.heap.size + 1 + 1) w5 x1 := Lib.hid (HS.out.out.below hst HS.out.out.size)
          try dsimp only
          refine hK.out _ _ hNew (fun _ => ?_)
          replace HY := Lib.hid (HY.out.below hst)
          clear hK K hx1 hst
          have HBX := Lib.hid hbx
          clear hbx
          have hHeld := hNew
          replace HS := Lib.hid hNew
          clear hNew
          try simp only [Act.put, List.setIfInBounds_toArray, List.set_cons_zero, List.set_cons_succ, List.getElem_toArray, List.getElem_cons_zero, List.getElem_cons_succ]
          refine wpAnyH_ready (rs := [3]) (by kernel_rfl) (by simp) (AllReadyH.cons rfl (fun K hK => ?_) (AllReadyH.nil))
          clear hHeld
          go_simp
          go_at_call 22
          refine (sorted_calls (HE5.out.off HS.out.out (by simp; exact fun e => hrm e.symm)) (Nat.le_trans (List.length_filter_le _ _) (by omega)) _ HBX.out).mono ?_
          rintro e x2 ⟨v2, rfl, hrow, hst⟩
          obtain ⟨G, gc, rfl, hG, hGs, hGo⟩ := hrow.form
          have HGL : Hid ((sortK (goneE ea eb)).length ≤ gc) := Lib.hid (owns_fits hrow).1
          have HGS := Lib.hid hGs
          have HGO := Lib.hid hGo
          have HX1 : Hid (w5.heap.size ≤ x1.heap.size) := Lib.hid HS.out.out.size
          have hNew : SO (w.heap.size + 1 + 1) w5 x2 := Lib.hid (HS.out.out.below hst HS.out.out.size)
          try dsimp only
          refine hK.out _ _ hNew (fun _ => ?_)
          replace HY := Lib.hid (HY.out.below hst)
          clear hK K hst hrow hG hGs hGo HBX
          have hHeld := hNew
          replace HS := Lib.hid hNew
          clear hNew
          try simp only [Act.put, List.setIfInBounds_toArray, List.set_cons_zero, List.set_cons_succ, List.getElem_toArray, List.getElem_cons_zero, List.getElem_cons_succ]
          refine wpAnyH_ready (rs := [4]) (by kernel_rfl) (by simp) (AllReadyH.cons rfl (fun K hK => ?_) (AllReadyH.nil))
          clear hHeld
          obtain ⟨hX1, ⟨z0, hz0⟩, ⟨z1, hz1⟩⟩ := HY.out
          have f0 := hX1.frozen 0
          have f1 := hX1.frozen 1
          have zl := lt_of_cell hz0
          go_simp
          have hNew : SO (w.heap.size + 1 + 1) w5 ((x2.setCell ⟨w.heap.size + 1 + 1, 0, none⟩ (.string tb)).setCell ⟨w.heap.size + 1 + 1, 1, none⟩ (.slice P (newE ea eb).length p)) := Lib.hid ((HS.out.out.setCell _ _ (by simp)).setCell _ _ (by simp))
          have hof2 : Off [w.heap.size + 1 + 1] x2 ((x2.setCell ⟨w.heap.size + 1 + 1, 0, none⟩ (.string tb)).setCell ⟨w.heap.size + 1 + 1, 1, none⟩ (.slice P (newE ea eb).length p)) := ((Off.refl _ _).setCell _ _ (by simp)).setCell _ _ (by simp)
          have u1 := cell_same (v := .slice P (newE ea eb).length p) (cell_other (v := .string tb) (a := ⟨w.heap.size + 1 + 1, 0, none⟩) hz1 (by simp))
          have u0 := cell_other (v := .slice P (newE ea eb).length p) (a := ⟨w.heap.size + 1 + 1, 1, none⟩) (cell_same (v := .string tb) hz0) (by simp)
          have HO2 := Lib.hid hof2
          have HU := Lib.hid (And.intro u0 u1)
          clear hof2 u0 u1 hz0 hz1 f0 f1 zl hX1
          generalize ((x2.setCell ⟨w.heap.size + 1 + 1, 0, none⟩ (.string tb)).setCell ⟨w.heap.size + 1 + 1, 1, none⟩ (.slice P (newE ea eb).length p)) = x3 at *
          refine hK.out _ _ hNew (fun _ => ?_)
          clear hK K
          have hHeld := hNew
          replace HS := Lib.hid hNew
          clear hNew
          try simp only [Act.put, List.setIfInBounds_toArray, List.set_cons_zero, List.set_cons_succ, List.getElem_toArray, List.getElem_cons_zero, List.getElem_cons_succ]
          refine wpAnyH_take (i := 5) (v := ?vz3) rfl (by kernel_rfl) (by kernel_rfl) (by kernel_rfl) (fun _ _ _ h => h) (Or.inl ⟨rfl, ?hz3⟩) hHeld ?restz3
          case hz3 => (intro w hSw; clear hSw; go_simp; try with_reducible rfl)
          try simp only [Act.put, List.setIfInBounds_toArray, List.set_cons_zero, List.set_cons_succ, List.getElem_toArray, List.getElem_cons_zero, List.getElem_cons_succ]
          refine wpAnyH_take (i := 6) (v := ?vz4) rfl (by kernel_rfl) (by kernel_rfl) (by kernel_rfl) (fun _ _ _ h => h) (Or.inl ⟨rfl, ?hz4⟩) hHeld ?restz4
          case hz4 => (intro w hSw; clear hSw; go_simp; try with_reducible rfl)
          try simp only [Act.put, List.setIfInBounds_toArray, List.set_cons_zero, List.set_cons_succ, List.getElem_toArray, List.getElem_cons_zero, List.getElem_cons_succ]
          refine wpAnyH_done (by kernel_rfl) ?_ _
          try dsimp only
          obtain ⟨u0, u1⟩ := HU.out
          go_wp2_with fail
          refine bodyPost_ret (by simp [results, Tryz.results6, go_sem, u0, u1]; try rfl) rfl ?_
          refine ofOut_good HR0.out (P := P) (p := p) (G := G) (g := gc) rfl ⟨HK5.out.off HS.out.out (fun g o e => HPR.out g o e), k1, k2, k3⟩ (HGS.out.off HO2.out (fun g o e => by
            subst e
            have := (HGO.out g rfl).1
            have := HX1.out
            simp
            omega)) HGL.out (HB5.out.trans (HS.out.out.toBelow (fun k hk => by simp only [List.mem_singleton] at hk; omega) HB5.out.size))
  · have HR0 : Hid (bothErr ⟨ta, ea⟩ ⟨tb, eb⟩ ≠ 0) := Lib.hid (fun e => h0 (HR.out.trans e))
    rw [errOf_errT h0]
    have f0 := HT1.out.frozen 0
    have f1 := HT1.out.frozen 1
    clear h0
    go_wp2_with fail
    have hof : Off [w.heap.size + 1 + 1] w1 ((w1.setCell ⟨w.heap.size + 1 + 1, 0, none⟩ (.string ⟨#[]⟩)).setCell ⟨w.heap.size + 1 + 1, 1, none⟩ (.slice none 0 0)) := ((Off.refl _ _).setCell _ _ (by simp)).setCell _ _ (by simp)
    have q1 := cell_same (v := .slice none 0 0) (cell_other (v := .string ⟨#[]⟩) (a := ⟨w.heap.size + 1 + 1, 0, none⟩) r1 (by simp))
    have q0 := cell_other (v := .slice none 0 0) (a := ⟨w.heap.size + 1 + 1, 1, none⟩) (cell_same (v := .string ⟨#[]⟩) r0) (by simp)
    have HBE : Hid (Below w.heap.size w ((w1.setCell ⟨w.heap.size + 1 + 1, 0, none⟩ (.string ⟨#[]⟩)).setCell ⟨w.heap.size + 1 + 1, 1, none⟩ (.slice none 0 0))) := Lib.hid (HB1.out.trans (hof.toBelow (fun k hk => by simp only [List.mem_singleton] at hk; omega) HB1.out.size))
    generalize ((w1.setCell ⟨w.heap.size + 1 + 1, 0, none⟩ (.string ⟨#[]⟩)).setCell ⟨w.heap.size + 1 + 1, 1, none⟩ (.slice none 0 0)) = we at *
    refine bodyPost_ret (by simp [results, Tryz.results6, go_sem, q0, q1]; try rfl) rfl ?_
    rw [HR.out]
    exact ofOut_bad HR0.out rfl HBE.out
end Go.Proofs.YtnhlnhmjnnopaaaGreatDoor
