/- Chain, TagsIn: texts put together. -/
import Derived.Test.YtplaohmdllindaaGreatDoorQn30
import Derived.Deep.LoopGhost
import Derived.Lib.SmallJoins
import Derived.Test.YtplaohmdllindaaGreatDoorQn1
set_option linter.unusedVariables false
set_option linter.unusedSimpArgs false
/- chain.Chain. -/
namespace Go.Proofs.YtplaohmdllindaaGreatDoor
open Go.RowKit

theorem less_next {t : TagD} {e : Ending} {w' : World} (h : LessRes t e w') (ht : t.ok w') (h3 : sizeC t.c ≤ 1000) :
    ∃ (D : TagD) (b : Bool), e = .returned (.tuple #[D.val, .bool b]) ∧ D.ok w' ∧ chainC t.c = t.c :: (if b then chainC D.c else []) ∧ (if b then sizeC D.c + 1 else 0) ≤ sizeC t.c ∧ sizeC D.c ≤ 1000 := by
  cases hl : lessC t.c with
  | none => exact ⟨t, false, h.2 hl, ht, by rw [chainC_none hl]; rfl, by simp, h3⟩
  | some c' =>
    obtain ⟨D, h1, h2, h4⟩ := h.1 c' hl
    have h5 := lessC_size hl
    subst h1
    exact ⟨D, true, h2, h4, by rw [chainC_some hl]; rfl, by simp; omega, by omega⟩
/-- the tag that is to come, in a block of its own -/
structure NextAt (w : World) (b : Nat) (D : TagD) : Prop where
  cell : ∀ i u, D.cells[i]? = some u → w.cell? ⟨b, i, none⟩ = some u
  free : ∀ i, w.frozen? ⟨b, i, none⟩ = false
  blk : ∃ cs, w.heap[b]? = some (.cells cs 204 (0, 0))
theorem NextAt.new (w : World) (D : TagD) : NextAt (w.alloc (.cells #[.string D.c.l, .string D.c.s, .string D.c.r, .slice D.A D.c.vs.length D.n] 204)) w.heap.size D := by
  have hb := heap_alloc_new w (.cells #[.string D.c.l, .string D.c.s, .string D.c.r, .slice D.A D.c.vs.length D.n] 204)
  refine ⟨fun i u h => ?_, fun i => ?_, _, hb⟩
  · unfold World.cell?
    rw [hb]
    show (#[.string D.c.l, .string D.c.s, .string D.c.r, .slice D.A D.c.vs.length D.n] : Array Value)[i]? = some u
    rw [← Array.getElem?_toList]
    exact h
  · unfold World.frozen?
    rw [hb]
    simp
theorem NextAt.below {w w' : World} {b : Nat} {D : TagD} (h : NextAt w b D) (hb : Below w.heap.size w w') : NextAt w' b D := by
  obtain ⟨cs, h1⟩ := h.blk
  have e := hb.block b (heap_lt h1)
  exact ⟨fun i u hu => carry hb (h.cell i u hu), fun i => by rw [hb.frozen (p := ⟨b, i, none⟩) (heap_lt h1)]; exact h.free i, cs, e.trans h1⟩
theorem NextAt.other {w : World} {b : Nat} {D : TagD} (h : NextAt w b D) : ∀ k ∈ [b], ∀ cs fr, w.heap[k]? ≠ some (.cells cs 9 fr) := by
  intro k hk cs fr he
  simp at hk
  subst hk
  obtain ⟨cs', h1⟩ := h.blk
  rw [he] at h1
  injection h1 with h1
  injection h1 with _ ht
  exact absurd ht (by decide)
theorem NextAt.store {w : World} {b : Nat} {D D' : TagD} (h : NextAt w b D) :
    NextAt ((((w.setCell ⟨b, 0, none⟩ (.string D'.c.l)).setCell ⟨b, 1, none⟩ (.string D'.c.s)).setCell ⟨b, 2, none⟩ (.string D'.c.r)).setCell ⟨b, 3, none⟩ (.slice D'.A D'.c.vs.length D'.n)) b D' := by
  have c0 := h.cell 0 _ rfl
  have c1 := h.cell 1 _ rfl
  have c2 := h.cell 2 _ rfl
  have c3 := h.cell 3 _ rfl
  refine ⟨fun i u hu => ?_, fun i => by have := h.free i; simpa using this, ?_⟩
  · have hi : i < 4 := (List.getElem?_eq_some_iff.1 hu).1
    match i, hi with
    | 0, _ => cases hu; go_simp
    | 1, _ => cases hu; go_simp
    | 2, _ => cases hu; go_simp
    | 3, _ => cases hu; go_simp
  · obtain ⟨cs, h1⟩ := h.blk
    exact ⟨_, Go.Joins.block_setCell (Go.Joins.block_setCell (Go.Joins.block_setCell (Go.Joins.block_setCell h1 _) _) _) _⟩
theorem size_vs (t : TagC) : t.vs.length ≤ sizeC t := by unfold sizeC; omega
/-- what Chain tells of a right tag -/
def ChainRes (C : TagC) (w : World) (e : Ending) (w' : World) : Prop :=
  ∃ (g cp : Nat) (ts : List TagD), e = .returned (.tuple #[.slice (some ⟨g, 0, none⟩) ts.length cp, .nilIface]) ∧ ts.map (·.c) = chainC C ∧ OwnsT w' w.heap.size (.slice (some ⟨g, 0, none⟩) ts.length cp) ts ∧ ∀ t ∈ ts, t.ok w'

set_option maxHeartbeats 4000000 in
theorem chain_ok (l s r : ByteArray) (A : Option Addr) (c : Nat) (vs : List ByteArray) (w : World) (hX : StrsIn w A vs) (hA : A = none → c = 0) (he : (TagC.mk l s r vs).err = 0)
    (KC : ∀ W, Below w.heap.size w W → Calls Tryz.prog 169 #[tagV l s r A vs.length c] W fun e w' => e = .returned .nilIface ∧ Below W.heap.size W w') :
    Calls Tryz.prog 107 #[tagV l s r A vs.length c] w fun e w' => ChainRes ⟨l, s, r, vs⟩ w e w' ∧ Below w.heap.size w w' := by
  have h5 := sizeC_le he
  have hv3 : vs.length ≤ 3 := by have := (tagErr_ok he).2.2.2.2; simpa using this
  have K := Lib.hid KC
  have HX := Lib.hid hX
  have HA := Lib.hid hA
  clear KC hX hA he
  generalize hC0 : chainC ⟨l, s, r, vs⟩ = Cs
  have HC0 := Lib.hid hC0
  have hpost : ∀ e w', (∃ (g cp : Nat) (ts : List TagD), e = .returned (.tuple #[.slice (some ⟨g, 0, none⟩) ts.length cp, .nilIface]) ∧ ts.map (·.c) = Cs ∧ OwnsT w' w.heap.size (.slice (some ⟨g, 0, none⟩) ts.length cp) ts ∧ ∀ t ∈ ts, t.ok w') → ChainRes ⟨l, s, r, vs⟩ w e w' := by
    intro e w' h
    unfold ChainRes
    rw [hC0]
    exact h
  have HP := Lib.hid hpost
  clear hpost hC0
  go_enter Tryz.func107, Tryz.ntmps107
  go_wp2_with fail
  refine (K.out _ ((Below.refl _ _).alloc (Nat.le_refl _) _)).mono ?_
  rintro e w1 ⟨rfl, hb1⟩
  have x0 : w1.cell? ⟨w.heap.size, 0, none⟩ = some (.string l) := carry hb1 (by go_simp)
  have x1 : w1.cell? ⟨w.heap.size, 1, none⟩ = some (.string s) := carry hb1 (by go_simp)
  have x2 : w1.cell? ⟨w.heap.size, 2, none⟩ = some (.string r) := carry hb1 (by go_simp)
  have x3 : w1.cell? ⟨w.heap.size, 3, none⟩ = some (.slice A vs.length c) := carry hb1 (by go_simp)
  have xf0 : w1.frozen? ⟨w.heap.size, 0, none⟩ = false := carryF hb1 (by first | (go_simp; done) | omega | (simp; omega)) (by go_simp)
  have xf1 : w1.frozen? ⟨w.heap.size, 1, none⟩ = false := carryF hb1 (by first | (go_simp; done) | omega | (simp; omega)) (by go_simp)
  have xf2 : w1.frozen? ⟨w.heap.size, 2, none⟩ = false := carryF hb1 (by first | (go_simp; done) | omega | (simp; omega)) (by go_simp)
  have xf3 : w1.frozen? ⟨w.heap.size, 3, none⟩ = false := carryF hb1 (by first | (go_simp; done) | omega | (simp; omega)) (by go_simp)
  have z1 := lt_of_cell x0
  have HX1 := Lib.hid (HX.out.below (((Below.refl _ _).alloc (Nat.le_refl _) _).trans (hb1.mono (by simp))))
  go_wp2_with
    (at_builtin
     refine wpList_append_n rfl _ _ rfl (rfl : vs.length = vs.length) (xs := []) rfl rfl (OwnsS.nil w1 (w.heap.size + 1)) HX1.out HA.out z1 (by first | (simp; done) | (simp; omega)) ?_
     intro v1 w2 ho1 hf1
     have hf2 : Off [] w1 w2 := hf1
     have ho2 : OwnsS w2 (w.heap.size + 1) v1 vs := by simpa using ho1
     have hb2 : Below w1.heap.size w1 w2 := hf2.toBelow (by simp) (Nat.le_refl _)
     have y0 : w2.cell? ⟨w.heap.size, 0, none⟩ = some (.string l) := carry hb2 (by go_simp)
     have y1 : w2.cell? ⟨w.heap.size, 1, none⟩ = some (.string s) := carry hb2 (by go_simp)
     have y2 : w2.cell? ⟨w.heap.size, 2, none⟩ = some (.string r) := carry hb2 (by go_simp)
     have y3 : w2.cell? ⟨w.heap.size, 3, none⟩ = some (.slice A vs.length c) := carry hb2 (by go_simp)
     have yf0 : w2.frozen? ⟨w.heap.size, 0, none⟩ = false := carryF hb2 (by first | (go_simp; done) | omega | (simp; omega)) (by go_simp)
     have yf1 : w2.frozen? ⟨w.heap.size, 1, none⟩ = false := carryF hb2 (by first | (go_simp; done) | omega | (simp; omega)) (by go_simp)
     have yf2 : w2.frozen? ⟨w.heap.size, 2, none⟩ = false := carryF hb2 (by first | (go_simp; done) | omega | (simp; omega)) (by go_simp)
     have yf3 : w2.frozen? ⟨w.heap.size, 3, none⟩ = false := carryF hb2 (by first | (go_simp; done) | omega | (simp; omega)) (by go_simp)
     have z2 := lt_of_cell y0
     obtain ⟨A1, c1, rfl, k1, _, k2⟩ := ho2.form
     have HO := Lib.hid ho2
     have HB2 := Lib.hid hb2
     have HK := Lib.hid k1
     have HK2 := Lib.hid k2
     clear ho1 hf1 hf2 ho2 hb2 k1 k2 x0 x1 x2 x3 xf0 xf1 xf2 xf3)
  have hbW : Below w.heap.size w ((w2.setCell ⟨w.heap.size, 3, none⟩ (.slice A1 vs.length c1)).alloc (.cells #[.string l, .string s, .string r, .slice A1 vs.length c1] 204)) := by
    have y1 := hb1.size
    have y2 := HB2.out
    have y3 := y2.size
    exact belx
  have hD0 : TagD.ok ((w2.setCell ⟨w.heap.size, 3, none⟩ (.slice A1 vs.length c1)).alloc (.cells #[.string l, .string s, .string r, .slice A1 vs.length c1] 204)) ⟨⟨l, s, r, vs⟩, A1, c1⟩ :=
    ⟨(OwnsS.alloc (OwnsS.off (l := [w.heap.size]) HO.out (Off.setCell (Off.refl _ _) _ _ (by simp)) (fun k hk => by have := (HK2.out k hk).1; simp; omega)) _).typed, HK.out, HO.out.cap.2⟩
  have hT0 : OwnsT ((w2.setCell ⟨w.heap.size, 3, none⟩ (.slice A1 vs.length c1)).alloc (.cells #[.string l, .string s, .string r, .slice A1 vs.length c1] 204)) w.heap.size (.slice (some ⟨w2.heap.size, 0, none⟩) 1 1) [⟨⟨l, s, r, vs⟩, A1, c1⟩] := by
    have := OwnsT.lit1 (w2.setCell ⟨w.heap.size, 3, none⟩ (.slice A1 vs.length c1)) ⟨⟨l, s, r, vs⟩, A1, c1⟩
    have e : (w2.setCell ⟨w.heap.size, 3, none⟩ (.slice A1 vs.length c1)).heap.size = w2.heap.size := by simp
    rw [e] at this
    exact this.base (by omega)
  refine (chain_less ⟨⟨l, s, r, vs⟩, A1, c1⟩ _ hD0 (by show vs.length ≤ 1000; omega)).mono ?_
  rintro e w4 ⟨hL, hb4⟩
  obtain ⟨⟨⟨l1, s1, r1, vs1⟩, A2, n2⟩, b, rfl, hDk, hch, hms, hsz⟩ := less_next hL (hD0.below hb4) (by show sizeC ⟨l, s, r, vs⟩ ≤ 1000; omega)
  simp only [TagD.val] at hch hms hsz ⊢
  rw [HC0.out] at hch
  have s4 := hb4.size
  have s4' : w2.heap.size < w4.heap.size := by simp at s4; omega
  have HT := Lib.hid (hT0.below hb4)
  have HD0 := Lib.hid (hD0.below hb4)
  have HDk := Lib.hid hDk
  have HCH := Lib.hid hch
  have HBW := Lib.hid (hbW.trans (hb4.mono (by have := hbW.size; omega)))
  clear hL hD0 hT0 hDk hch hbW hb4 s4 y0 y1 y2 y3 yf0 yf1 yf2 yf3 HO HB2 HK HK2 hb1
  go_wp2_with fail
  go_loopg [5, 6, 7] 8 (fun gg v5 v6 v7 wr => ∃ (ts : List TagD) (g cp bn : Nat) (l1 s1 r1 : ByteArray) (vs1 : List ByteArray) (A2 : Option Addr) (n2 : Nat) (b : Bool),
    v5 = .slice (some ⟨g, 0, none⟩) ts.length cp ∧ v6 = .pointer (some ⟨bn, 0, none⟩) ∧ v7 = .bool b ∧ w.heap.size ≤ bn ∧ g ≠ bn ∧ ts.length + gg ≤ 20 ∧ (if b then sizeC ⟨l1, s1, r1, vs1⟩ + 1 else 0) ≤ gg ∧ sizeC ⟨l1, s1, r1, vs1⟩ ≤ 1000 ∧
    Hid (NextAt wr bn ⟨⟨l1, s1, r1, vs1⟩, A2, n2⟩) ∧ Hid (OwnsT wr w.heap.size (.slice (some ⟨g, 0, none⟩) ts.length cp) ts) ∧ Hid (∀ t ∈ ts, t.ok wr) ∧ Hid (TagD.ok wr ⟨⟨l1, s1, r1, vs1⟩, A2, n2⟩) ∧ Hid (Below w.heap.size w wr) ∧ Hid (Cs = ts.map (·.c) ++ (if b then chainC ⟨l1, s1, r1, vs1⟩ else [])))
  case atStart =>
    refine ⟨[⟨⟨l, s, r, vs⟩, A1, c1⟩], w2.heap.size, 1, w4.heap.size, l1, s1, r1, vs1, A2, n2, b, rfl, rfl, rfl, by have := HBW.out.size; omega, by omega, by simp, by omega, hsz, ?_, ?_, ?_, ?_, ?_, ?_⟩
    · exact Lib.hid (NextAt.new w4 ⟨⟨l1, s1, r1, vs1⟩, A2, n2⟩)
    · exact Lib.hid (HT.out.alloc _)
    · refine Lib.hid (fun t ht => ?_)
      simp at ht
      subst ht
      exact HD0.out.below ((Below.refl _ _).alloc (Nat.le_refl _) _)
    · exact Lib.hid (HDk.out.below ((Below.refl _ _).alloc (Nat.le_refl _) _))
    · exact Lib.hid (HBW.out.alloc (by have := HBW.out.size; omega) _)
    · exact Lib.hid HCH.out
  case round =>
    clear HT HD0 HDk HCH HBW
    obtain ⟨ts, g, cp, bn, l1, s1, r1, vs1, A2, n2, b, rfl, rfl, rfl, hbn, hgb, hcnt, hms, hsz, HN, HT, HTK, HDK, HBW, HCH⟩ := hrel
    have hgl : g < wr.heap.size := by
      rcases HT.out.2 with ⟨hq, _⟩ | ⟨g', _, _, hq, _, h4, _⟩
      · cases hq
      · cases hq; exact heap_lt h4
    cases b
    · have HF : Hid (ts.map (·.c) = Cs) := Lib.hid (by have := HCH.out; simp at this; exact this.symm)
      clear hms HCH
      go_wp2_with fail
      go_ret2
      exact ⟨HP.out _ _ ⟨g, cp, ts, rfl, HF.out, HT.out, HTK.out⟩, HBW.out⟩
    · have x0 := HN.out.cell 0 _ rfl
      have x1 := HN.out.cell 1 _ rfl
      have x2 := HN.out.cell 2 _ rfl
      have x3 := HN.out.cell 3 _ rfl
      simp only at x0 x1 x2 x3
      have hbl := lt_of_cell x0
      have hgk : sizeC ⟨l1, s1, r1, vs1⟩ + 1 ≤ gk := by simpa using hms
      have hvl := size_vs ⟨l1, s1, r1, vs1⟩
      simp only at hvl
      have hbw := HBW.out.size
      clear hms
      go_wp2_with
        (at_builtin
         refine wpList_append_tag rfl _ _ rfl ⟨⟨l1, s1, r1, vs1⟩, A2, n2⟩ rfl rfl rfl (HT.out.alloc _) (NextAt.new wr ⟨⟨l1, s1, r1, vs1⟩, A2, n2⟩).cell (by first | (simp; done) | (simp; omega)) (by omega) ?_
         intro v' w' ho hf hat
         have hfg : Off [g] (wr.alloc (.cells #[.string l1, .string s1, .string r1, .slice A2 vs1.length n2] 204)) w' := hf
         have hoth := OwnsT.other (HT.out.alloc (.cells #[.string l1, .string s1, .string r1, .slice A2 vs1.length n2] 204))
         have hbal : Below wr.heap.size wr (wr.alloc (.cells #[.string l1, .string s1, .string r1, .slice A2 vs1.length n2] 204)) := (Below.refl _ _).alloc (Nat.le_refl _) _
         have htk : ∀ t ∈ ts ++ [⟨⟨l1, s1, r1, vs1⟩, A2, n2⟩], t.ok w' := fun t ht => by
           rcases List.mem_append.1 ht with ht | ht
           · exact ((HTK.out t ht).below hbal).off hfg hoth
           · simp at ht
             subst ht
             exact (HDK.out.below hbal).off hfg hoth
         have hBel : Below w.heap.size w w' := (HBW.out.alloc hbw _).trans (OwnsT.grown (HT.out.alloc _) hf (by first | (simp; done) | (simp; omega)))
         have y0 : w'.cell? ⟨bn, 0, none⟩ = some (.string l1) := hfg.cell (by go_simp) (by simp; omega)
         have y1 : w'.cell? ⟨bn, 1, none⟩ = some (.string s1) := hfg.cell (by go_simp) (by simp; omega)
         have y2 : w'.cell? ⟨bn, 2, none⟩ = some (.string r1) := hfg.cell (by go_simp) (by simp; omega)
         have y3 : w'.cell? ⟨bn, 3, none⟩ = some (.slice A2 vs1.length n2) := hfg.cell (by go_simp) (by simp; omega)
         have hyl := lt_of_cell y0
         obtain ⟨g', cp', rfl, _, _, hg', _⟩ := ho.form (by simp)
         have HO := Lib.hid ho
         have HK := Lib.hid htk
         have HB := Lib.hid hBel
         clear ho hf hfg hat hoth hbal htk hBel x0 x1 x2 x3 HN HT HTK HDK HBW)
      have hD : TagD.ok (w'.alloc (.cells #[.string l1, .string s1, .string r1, .slice A2 vs1.length n2] 204)) ⟨⟨l1, s1, r1, vs1⟩, A2, n2⟩ := (HK.out _ (by simp)).below ((Below.refl _ _).alloc (Nat.le_refl _) _)
      refine (chain_less ⟨⟨l1, s1, r1, vs1⟩, A2, n2⟩ _ hD (by show vs1.length ≤ 1000; omega)).mono ?_
      rintro e w5 ⟨hL, hb5⟩
      obtain ⟨⟨⟨l2, s2, r2, vs2⟩, A3, n3⟩, b2, rfl, hDk2, hch2, hms2, hsz2⟩ := less_next hL (hD.below hb5) hsz
      simp only [TagD.val] at hch2 hms2 hsz2 ⊢
      have hN5 := (NextAt.new w' ⟨⟨l1, s1, r1, vs1⟩, A2, n2⟩).below hb5
      have z0 := hN5.cell 0 _ rfl
      have z1' := hN5.cell 1 _ rfl
      have z2' := hN5.cell 2 _ rfl
      have z3 := hN5.cell 3 _ rfl
      simp only at z0 z1' z2' z3
      have f0 := hN5.free 0
      have f1 := hN5.free 1
      have f2 := hN5.free 2
      have f3 := hN5.free 3
      have hoff : Off [w'.heap.size] w5 ((((w5.setCell ⟨w'.heap.size, 0, none⟩ (.string l2)).setCell ⟨w'.heap.size, 1, none⟩ (.string s2)).setCell ⟨w'.heap.size, 2, none⟩ (.string r2)).setCell ⟨w'.heap.size, 3, none⟩ (.slice A3 vs2.length n3)) := ((((Off.refl _ _).setCell _ _ (by simp)).setCell _ _ (by simp)).setCell _ _ (by simp)).setCell _ _ (by simp)
      have hst : NextAt ((((w5.setCell ⟨w'.heap.size, 0, none⟩ (.string l2)).setCell ⟨w'.heap.size, 1, none⟩ (.string s2)).setCell ⟨w'.heap.size, 2, none⟩ (.string r2)).setCell ⟨w'.heap.size, 3, none⟩ (.slice A3 vs2.length n3)) w'.heap.size ⟨⟨l2, s2, r2, vs2⟩, A3, n3⟩ := hN5.store (D' := ⟨⟨l2, s2, r2, vs2⟩, A3, n3⟩)
      have hot := ((HO.out.alloc (.cells #[.string l1, .string s1, .string r1, .slice A2 vs1.length n2] 204)).below hb5).off hoff (fun k hk => by simp [Value.ownBlock] at hk; simp; omega)
      have htk : ∀ t ∈ ts ++ [⟨⟨l1, s1, r1, vs1⟩, A2, n2⟩], t.ok ((((w5.setCell ⟨w'.heap.size, 0, none⟩ (.string l2)).setCell ⟨w'.heap.size, 1, none⟩ (.string s2)).setCell ⟨w'.heap.size, 2, none⟩ (.string r2)).setCell ⟨w'.heap.size, 3, none⟩ (.slice A3 vs2.length n3)) := fun t ht => (((HK.out t ht).below ((Below.refl _ _).alloc (Nat.le_refl _) _)).below hb5).off hoff hN5.other
      have hdk : TagD.ok ((((w5.setCell ⟨w'.heap.size, 0, none⟩ (.string l2)).setCell ⟨w'.heap.size, 1, none⟩ (.string s2)).setCell ⟨w'.heap.size, 2, none⟩ (.string r2)).setCell ⟨w'.heap.size, 3, none⟩ (.slice A3 vs2.length n3)) ⟨⟨l2, s2, r2, vs2⟩, A3, n3⟩ := hDk2.off hoff hN5.other
      have hbf : Below w.heap.size w ((((w5.setCell ⟨w'.heap.size, 0, none⟩ (.string l2)).setCell ⟨w'.heap.size, 1, none⟩ (.string s2)).setCell ⟨w'.heap.size, 2, none⟩ (.string r2)).setCell ⟨w'.heap.size, 3, none⟩ (.slice A3 vs2.length n3)) := by
        have q1 := HB.out
        have q2 := q1.size
        exact belx
      have hcs : Cs = (ts ++ [(⟨⟨l1, s1, r1, vs1⟩, A2, n2⟩ : TagD)]).map (·.c) ++ (if b2 then chainC ⟨l2, s2, r2, vs2⟩ else []) := by
        have := HCH.out
        simp only [if_true, hch2] at this
        rw [this, List.map_append, List.append_assoc]
        rfl
      have G1 := Lib.hid hst
      have G2 := Lib.hid hot
      have G3 := Lib.hid htk
      have G4 := Lib.hid hdk
      have G5 := Lib.hid hbf
      have G6 := Lib.hid hcs
      have hw5 : w'.heap.size < w5.heap.size := lt_of_cell z0
      clear hL hDk2 hch2 hN5 hoff hst hot htk hdk hbf hcs HO HK HB hD HCH y0 y1 y2 y3 hb5
      go_wp2_with fail
      go_roundg (gk - 1)
      case measure => omega
      case rel =>
        refine ⟨ts ++ [⟨⟨l1, s1, r1, vs1⟩, A2, n2⟩], g', cp', w'.heap.size, l2, s2, r2, vs2, A3, n3, b2, by rw [List.length_append]; rfl, rfl, rfl, by omega, by omega, by rw [List.length_append]; show ts.length + 1 + (gk - 1) ≤ 20; omega, by omega, hsz2, G1, G2, G3, G4, G5, G6⟩
end Go.Proofs.YtplaohmdllindaaGreatDoor

/- Tags that lie in a block. -/
namespace Go.Proofs.YtplaohmdllindaaGreatDoor
open Go.RowKit

/-- these tags lie in block g from o on -/
def TagsIn (w : World) (g o : Nat) (ts : List TagD) : Prop := ∀ (j : Nat) t i u, ts[j]? = some t → t.cells[i]? = some u → w.cell? ⟨g, o + j * 4 + i, none⟩ = some u
theorem OwnsT.tags {w : World} {base g n c : Nat} {ts : List TagD} (h : OwnsT w base (.slice (some ⟨g, 0, none⟩) n c) ts) : n = ts.length ∧ n ≤ c ∧ TagsIn w g 0 ts := by
  rcases h.2 with ⟨hq, _⟩ | ⟨g', cap, cur, hq, h3, h4, h5, _⟩
  · cases hq
  · cases hq
    refine ⟨rfl, h5, fun j t i u ht hu => ?_⟩
    have := World.ownsRow.cells h (g := g) rfl (j * 4 + i) u (tagCells_at ts j t i u ht hu)
    rw [Go.WideShapes.add_plain, Nat.zero_add] at this
    rw [Nat.zero_add]
    exact this
end Go.Proofs.YtplaohmdllindaaGreatDoor
