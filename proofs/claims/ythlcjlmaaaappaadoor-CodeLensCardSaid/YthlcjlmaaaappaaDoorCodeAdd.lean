/- code's add: so many steps more. -/
import Derived.Test.YthlcjlmaaaappaaDoorCodeRows
import Derived.Deep.RegionHeld3
import Derived.Deep.RegionLaw
namespace Go.Proofs.YthlcjlmaaaappaaDoor
open Go.RowKit

/-- within a node's cases: the code so far, the node's copy, what begins where -/
structure AddAt (w wi : World) (p base by' : Nat) (sv : Value) (m : Nat) (x : Nd) (bv : Value) (j j' : Nat) : Prop where
  code : ∃ svi, CodeAt wi p base m svi ∧ Fresh w sv svi
  off : Off (p :: sv.ownBlock.toList) w wi
  ty : TyAt wi by' 32
  new : w.heap.size ≤ by'
  c0 : wi.cell? ⟨by', 0, none⟩ = some (.int .i64 x.kd)
  c1 : wi.cell? ⟨by', 1, none⟩ = some (.string x.t)
  c2 : wi.cell? ⟨by', 2, none⟩ = some (.int .i64 x.off)
  c3 : ∃ cv keys, wi.cell? ⟨by', 3, none⟩ = some cv ∧ OwnsG kKey wi w.heap.size cv keys ∧ keys.length ≤ j
  row : ∃ ns, OwnsG kInt wi w.heap.size bv ns ∧ ns.length ≤ j'
theorem AddAt.below {w wi wx : World} {p base by' : Nat} {sv : Value} {m : Nat} {x : Nd} {bv : Value} {j j' : Nat} (h : AddAt w wi p base by' sv m x bv j j') (hb : Below wi.heap.size wi wx) : AddAt w wx p base by' sv m x bv j j' := by
  obtain ⟨⟨svi, a1, a2⟩, a3, a4, a5, a6, a7, a8, ⟨cv, keys, b1, b2, b3⟩, ns, d1, d2⟩ := h
  exact ⟨⟨svi, a1.below hb, a2⟩, a3.below hb a3.size, a4.below hb, a5, carry hb a6, carry hb a7, carry hb a8, ⟨cv, keys, carry hb b1, b2.below hb, b3⟩, ns, d1.below hb, d2⟩
/-- a key more in the node's copy -/
theorem AddAt.keyed {w wi w3 : World} {p base by' : Nat} {sv : Value} {m : Nat} {x : Nd} {bv cv cv' : Value} {keys : List ByteArray} {j j' : Nat} {k : ByteArray} (h : AddAt w wi p base by' sv m x bv j j') (hc : wi.cell? ⟨by', 3, none⟩ = some cv) (ho : OwnsG kKey wi w.heap.size cv keys) (hk : keys.length ≤ j)
    (hoff : Off cv.ownBlock.toList wi w3) (ho' : OwnsG kKey w3 w.heap.size cv' (keys ++ [k])) : AddAt w (w3.setCell ⟨by', 3, none⟩ cv') p base by' sv m x bv (j + 1) j' := by
  obtain ⟨⟨svi, a1, a2⟩, a3, a4, a5, a6, a7, a8, _, ns, d1, d2⟩ := h
  have n1 : by' ∉ cv.ownBlock.toList := a4.not ho (by decide)
  have n2 : p ∉ cv.ownBlock.toList := a1.2.1.not ho (by decide)
  have n3 : ∀ g ∈ svi.ownBlock.toList, g ∉ cv.ownBlock.toList := fun g hg => by
    obtain ⟨_, _, ts, _, h4⟩ := a1
    exact (h4.ty g hg).not ho (by decide)
  have n4 : ∀ g, bv.ownBlock = some g → g ∉ cv.ownBlock.toList := d1.apart ho (by decide)
  have hs : Off [by'] w3 (w3.setCell ⟨by', 3, none⟩ cv') := (Off.refl _ _).setCell _ _ (by simp)
  have a4' := a4.off hoff n1
  have e1 := a1.off hoff n2 n3
  have hpb : p ≠ by' := e1.2.1.ne a4' (by decide)
  have hsb : ∀ g ∈ svi.ownBlock.toList, g ∉ [by'] := fun g hg hm => by
    simp only [List.mem_singleton] at hm
    subst hm
    obtain ⟨_, _, ts, _, h4⟩ := e1
    exact (h4.ty _ hg).ne a4' (by decide) rfl
  have d1' := d1.off hoff n4
  have hbb : ∀ g, bv.ownBlock = some g → g ∉ [by'] := fun g hg hm => by
    simp only [List.mem_singleton] at hm
    subst hm
    exact (d1'.ty _ (by simp [hg])).ne a4' (by decide) rfl
  have hcb : ∀ g, cv'.ownBlock = some g → g ∉ [by'] := fun g hg hm => by
    simp only [List.mem_singleton] at hm
    subst hm
    exact (ho'.ty _ (by simp [hg])).ne a4' (by decide) rfl
  refine ⟨⟨svi, e1.off hs (by simpa using hpb) hsb, a2⟩, ?_, a4'.set _ _ _, a5, cell_other (hoff.cell a6 n1) (by simp), cell_other (hoff.cell a7 n1) (by simp), cell_other (hoff.cell a8 n1) (by simp), ⟨cv', keys ++ [k], cell_same (hoff.cell hc n1), ho'.off hs hcb, by simp; omega⟩, ns, d1'.off hs hbb, d2⟩
  have h1 : Off (p :: sv.ownBlock.toList) w w3 := a3.trans2 hoff (fun i hi => .inr (ho.block i hi).1)
  exact h1.trans2 hs (fun i hi => .inr (by simp only [List.mem_singleton] at hi; omega))
/-- a number more of what begins where -/
theorem AddAt.begun {w wi w3 : World} {p base by' : Nat} {sv : Value} {m : Nat} {x : Nd} {bv bv' : Value} {ns : List Int} {j j' : Nat} {i : Int} (h : AddAt w wi p base by' sv m x bv j j') (ho : OwnsG kInt wi w.heap.size bv ns) (hk : ns.length ≤ j')
    (hoff : Off bv.ownBlock.toList wi w3) (ho' : OwnsG kInt w3 w.heap.size bv' (ns ++ [i])) : AddAt w w3 p base by' sv m x bv' j (j' + 1) := by
  obtain ⟨⟨svi, a1, a2⟩, a3, a4, a5, a6, a7, a8, ⟨cv, keys, b1, b2, b3⟩, _⟩ := h
  have n1 : by' ∉ bv.ownBlock.toList := a4.not ho (by decide)
  have n2 : p ∉ bv.ownBlock.toList := a1.2.1.not ho (by decide)
  have n3 : ∀ g ∈ svi.ownBlock.toList, g ∉ bv.ownBlock.toList := fun g hg => by
    obtain ⟨_, _, ts, _, h4⟩ := a1
    exact (h4.ty g hg).not ho (by decide)
  exact ⟨⟨svi, a1.off hoff n2 n3, a2⟩, a3.trans2 hoff (fun i hi => .inr (ho.block i hi).1), a4.off hoff n1, a5, hoff.cell a6 n1, hoff.cell a7 n1, hoff.cell a8 n1, ⟨cv, keys, hoff.cell b1 n1, b2.off hoff (b2.apart ho (by decide)), b3⟩, ns ++ [i], ho', by simp; omega⟩
/-- what lies in a case is added -/
theorem AddAt.added {w wi w3 : World} {p base by' : Nat} {sv svi : Value} {m m' : Nat} {x : Nd} {bv : Value} {j j' : Nat} (h : AddAt w wi p base by' sv m x bv j j') (hc : CodeAt wi p base m svi) (hf : Fresh w sv svi) (k : CodeTo wi w3 p base svi m') : AddAt w w3 p base by' sv m' x bv j j' := by
  obtain ⟨_, a3, a4, a5, a6, a7, a8, ⟨cv, keys, b1, b2, b3⟩, ns, d1, d2⟩ := h
  obtain ⟨sv3, k1, k2, k3⟩ := k
  obtain ⟨_, hpt, ts, _, h4⟩ := hc
  have n1 : by' ∉ p :: svi.ownBlock.toList := fun hm => by
    rcases List.mem_cons.1 hm with e | hm
    · exact a4.ne hpt (by decide) e
    · exact a4.not h4 (by decide) hm
  have n2 : ∀ g, cv.ownBlock = some g → g ∉ p :: svi.ownBlock.toList := fun g hg hm => by
    rcases List.mem_cons.1 hm with e | hm
    · subst e; exact (b2.ty _ (by simp [hg])).ne hpt (by decide) rfl
    · exact b2.apart h4 (by decide) g hg hm
  have n3 : ∀ g, bv.ownBlock = some g → g ∉ p :: svi.ownBlock.toList := fun g hg hm => by
    rcases List.mem_cons.1 hm with e | hm
    · subst e; exact (d1.ty _ (by simp [hg])).ne hpt (by decide) rfl
    · exact d1.apart h4 (by decide) g hg hm
  refine ⟨⟨sv3, k1, hf.trans k2 a3.size⟩, a3.trans2 k3 (fun i hi => ?_), a4.off k3 n1, a5, k3.cell a6 n1, k3.cell a7 n1, k3.cell a8 n1, ⟨cv, keys, k3.cell b1 n1, b2.off k3 n2, b3⟩, ns, d1.off k3 n3, d2⟩
  rcases List.mem_cons.1 hi with rfl | hi
  · exact .inl (List.mem_cons_self ..)
  · rcases hf i hi with h | h
    · exact .inl (List.mem_cons_of_mem _ h)
    · exact .inr h

set_option maxRecDepth 100000 in
set_option maxHeartbeats 4000000 in
theorem code_add (W0 : World) (p base : Nat) (hp : W0.heap.size ≤ p) (hbase : W0.heap.size ≤ base) (f : Nat) : ∀ (v : Value) (ms : List Nd) (n : Nat) (sv : Value) (w : World), NodesIn f W0 v ms → Below W0.heap.size W0 w → CodeAt w p base n sv → base ≤ w.heap.size → n + cntP f ms ≤ 1000000 →
      Calls Tryd.prog 11 #[.pointer (some ⟨p, 0, none⟩), v] w fun e w' => e = .returned (.tuple #[]) ∧ CodeTo w w' p base sv (n + cntP f ms) := by
  induction f with
  | zero =>
    intro v ms n sv w h hb hA hbw _
    obtain ⟨rfl, A, c, rfl, hc⟩ := h
    have HE : Hid (CodeTo w w p base sv (n + cntP 0 [])) := Lib.hid ⟨sv, hA, Fresh.refl _ _, Off.refl _ _⟩
    clear hA
    go_enter Tryd.func11, Tryd.ntmps11
    go_wp2_with fail
    go_loopw [13] (fun i wr => i = .int .i64 0 ∧ w = wr) (fun _ _ => 0)
    case atStart => exact ⟨rfl, rfl⟩
    case round =>
      obtain ⟨rfl, rfl⟩ := hrel
      go_wp2_with fail
      exact bodyPost_end (results_none rfl _ _ _) rfl ⟨rfl, HE.out⟩
  | succ f ih =>
    intro v ms n sv w hN hb hA hbw hcnt
    obtain ⟨A, c, rfl, hc, hc2, hl⟩ := hN.form
    have HN := Lib.hid hN
    have HB := Lib.hid hb
    have HA := Lib.hid hA
    have IH := Lib.hid ih
    have HCN : Hid (n + (ms.drop 0).length + cntC f (flatC (ms.drop 0)) = n + cntP (f + 1) ms) := Lib.hid (by rw [List.drop_zero, cntP_succ]; omega)
    generalize n + cntP (f + 1) ms = R at *
    have HS : Hid (CodeTo w w p base sv n) := Lib.hid ⟨sv, hA, Fresh.refl _ _, Off.refl _ _⟩
    clear hN hb hA ih
    go_enter Tryd.func11, Tryd.ntmps11
    go_wp2_with fail
    go_loopw [13] (fun i wr => ∃ (k n' : Nat), k ≤ ms.length ∧ i = .int .i64 k ∧ Hid (CodeTo w wr p base sv n') ∧ Hid (n' + (ms.drop k).length + cntC f (flatC (ms.drop k)) = R)) (fun i _ => ms.length - (intOf i).toNat)
    case atStart => exact ⟨0, n, Nat.zero_le _, rfl, HS, HCN⟩
    case round =>
      obtain ⟨k, n1, hk, rfl, HT, HL⟩ := hrel
      by_cases hlt : k < ms.length
      · have hbr : Below W0.heap.size w _ := HT.out.toBelow HA.out hp hbase HB.out.size
        have hb0 := HB.out.trans hbr
        obtain ⟨b, o, rfl, hat⟩ := HN.out.at (by omega)
        obtain ⟨x, hx⟩ : ∃ x, ms[k]? = some x := ⟨ms[k], List.getElem?_eq_getElem hlt⟩
        obtain ⟨A2, cc, x1, x2, x3, hC, m0, m1, m2, m3⟩ := (hat k x hx).cells
        replace m0 := carry hb0 m0
        replace m1 := carry hb0 m1
        replace m2 := carry hb0 m2
        replace m3 := carry hb0 m3
        obtain ⟨sv1, hA1, hF1, hO1⟩ := HT.out
        have sW := hO1.size
        have HF1 := Lib.hid hF1
        have HO1 := Lib.hid hO1
        have hcn := HL.out
        rw [flat_drop hx, cntC_append, List.length_drop] at hcn
        have HCN : Hid ((n1 + 1) + cntC f (casesOf x) + (ms.length - (k + 1)) + cntC f (flatC (ms.drop (k + 1))) = R) := Lib.hid (by omega)
        have i0 : (0 : Int) ≤ (k : Int) := by omega
        have i1 : (k : Int) < (ms.length : Int) := by omega
        have i2 : (k : Int) ≤ (c : Int) := by omega
        have e1 : IntKind.i64.wrap ((k : Int) + 1) = (k : Int) + 1 := IntWalk.i64_in _ (by omega)
        have hn1 : n1 ≤ 1000000 := by omega
        -- the three blocks that are laid
        obtain ⟨Wx, hWx⟩ : ∃ Wx, Wx = wr.alloc (.cells #[.int .i64 x.kd, .string x.t, .int .i64 x.off, .slice A2 x.cs.length cc] 32) := ⟨_, rfl⟩
        obtain ⟨Wy, hWy⟩ : ∃ Wy, Wy = Wx.alloc (.cells #[.int .i64 x.kd, .string x.t, .int .i64 x.off, .slice none 0 0] 32) := ⟨_, rfl⟩
        obtain ⟨Wz, hWz⟩ : ∃ Wz, Wz = Wy.alloc (.cells #[.int .i64 0, .string ⟨#[]⟩, .int .i64 0, .slice none 0 0, .slice none 0 0, .int .i64 0] 63) := ⟨_, rfl⟩
        have sx : Wx.heap.size = wr.heap.size + 1 := by rw [hWx]; simp
        have sy : Wy.heap.size = wr.heap.size + 2 := by rw [hWy]; simp [sx]
        have sz : Wz.heap.size = wr.heap.size + 3 := by rw [hWz]; simp [sy]
        have bx : Below wr.heap.size wr Wx := by rw [hWx]; exact (Below.refl _ _).alloc (Nat.le_refl _) _
        have bz : Below Wx.heap.size Wx Wz := by rw [hWz, hWy]; exact ((Below.refl _ _).alloc (Nat.le_refl _) _).alloc (by simp) _
        have byz : Below Wy.heap.size Wy Wz := by rw [hWz]; exact (Below.refl _ _).alloc (Nat.le_refl _) _
        have br : Below wr.heap.size wr Wz := bx.trans (bz.mono (by omega))
        obtain ⟨A1, c1, rfl, q1, q2, _⟩ := hA1.2.2.form
        obtain ⟨⟨svA, sv2⟩, hpT, ts, hts, hO⟩ := hA1
        have S2 := Lib.hid (sv2.below br)
        clear sv2
        have hpl := hpT.lt
        have hpn : p ∉ (Value.slice A1 n1 c1).ownBlock.toList := hpT.not hO (by decide)
        have hxn : wr.heap.size ∉ (Value.slice A1 n1 c1).ownBlock.toList := fun hm => by have := (hO.ty _ hm).lt; omega
        have hyn : Wx.heap.size ∉ (Value.slice A1 n1 c1).ownBlock.toList := fun hm => by have := (hO.ty _ hm).lt; omega
        have HO5 := Lib.hid (hO.below br)
        have HOz := Lib.hid (hO.below br)
        have X5 : Hid (∀ i u, (kStep.cells sixZero)[i]? = some u → Wz.cell? ⟨wr.heap.size + 1 + 1, i, none⟩ = some u) := Lib.hid (fun i u hu => by
          rw [hWz, hWy, hWx]
          match i, hu with
          | 0, hu => cases hu; (first | (go_simp; done) | (go_simp; rfl))
          | 1, hu => cases hu; (first | (go_simp; done) | (go_simp; rfl))
          | 2, hu => cases hu; (first | (go_simp; done) | (go_simp; rfl))
          | 3, hu => cases hu; (first | (go_simp; done) | (go_simp; rfl))
          | 4, hu => cases hu; (first | (go_simp; done) | (go_simp; rfl))
          | 5, hu => cases hu; (first | (go_simp; done) | (go_simp; rfl)))
        have HS5 : Hid (base ≤ Wz.heap.size) := Lib.hid (by have := br.size; have := hO1.size; omega)
        have HL1 : Hid ((ts.length + 1) * kStep.bytes ≤ 140737488355328) := Lib.hid (by show (ts.length + 1) * 88 ≤ _; omega)
        have HL2 : Hid (ts.length + 1 ≤ 9223372036854775807) := Lib.hid (by omega)
        have HTS : Hid ((ts ++ [sixZero]).length = n1 + 1) := Lib.hid (by simp [hts])
        have P5 := Lib.hid (carry br svA)
        have svX := carry bx svA
        have bxy : Below wr.heap.size wr Wy := bx.trans (by rw [hWy]; exact ((Below.refl _ _).alloc (Nat.le_refl _) _).mono (by omega))
        have svY := carry bxy svA
        rw [hWx] at svX
        rw [hWy, hWx] at svY
        have PT := Lib.hid (hpT.below br)
        have Y0 : Hid (Wz.cell? ⟨wr.heap.size + 1, 0, none⟩ = some (.int .i64 x.kd)) := Lib.hid (by rw [hWz, hWy, hWx]; go_simp)
        have Y1 : Hid (Wz.cell? ⟨wr.heap.size + 1, 1, none⟩ = some (.string x.t)) := Lib.hid (by rw [hWz, hWy, hWx]; go_simp)
        have Y2 : Hid (Wz.cell? ⟨wr.heap.size + 1, 2, none⟩ = some (.int .i64 x.off)) := Lib.hid (by rw [hWz, hWy, hWx]; go_simp)
        have Y3 : Hid (Wz.cell? ⟨wr.heap.size + 1, 3, none⟩ = some (.slice none 0 0)) := Lib.hid (by rw [hWz, hWy, hWx]; go_simp)
        have Z0 : Hid (Wz.cell? ⟨wr.heap.size, 0, none⟩ = some (.int .i64 x.kd)) := Lib.hid (by rw [hWz, hWy, hWx]; go_simp)
        have Z1 : Hid (Wz.cell? ⟨wr.heap.size, 1, none⟩ = some (.string x.t)) := Lib.hid (by rw [hWz, hWy, hWx]; go_simp)
        have Z2 : Hid (Wz.cell? ⟨wr.heap.size, 2, none⟩ = some (.int .i64 x.off)) := Lib.hid (by rw [hWz, hWy, hWx]; go_simp)
        have Z3 : Hid (Wz.cell? ⟨wr.heap.size, 3, none⟩ = some (.slice A2 x.cs.length cc)) := Lib.hid (by rw [hWz, hWy, hWx]; go_simp)
        have YT : Hid (TyAt Wz (wr.heap.size + 1) 32) := Lib.hid (by rw [← sx, hWz, hWy]; exact (TyAt.new _ _ _).below ((Below.refl _ _).alloc (Nat.le_refl _) _))
        have HBR := Lib.hid br
        have HPN := Lib.hid hpn
        have HXN := Lib.hid hxn
        have HYN : Hid (wr.heap.size + 1 ∉ (Value.slice A1 n1 c1).ownBlock.toList) := Lib.hid (by rw [← sx]; exact hyn)
        have HC := Lib.hid hC
        have HPL := Lib.hid hpl
        rw [hWz, hWy, hWx] at HO5 X5 HS5
        have HWZ : Hid (Wz = ((wr.alloc (.cells #[.int .i64 x.kd, .string x.t, .int .i64 x.off, .slice A2 x.cs.length cc] 32)).alloc (.cells #[.int .i64 x.kd, .string x.t, .int .i64 x.off, .slice none 0 0] 32)).alloc (.cells #[.int .i64 0, .string ⟨#[]⟩, .int .i64 0, .slice none 0 0, .slice none 0 0, .int .i64 0] 63)) := Lib.hid (by rw [hWz, hWy, hWx])
        have hne : p ≠ wr.heap.size := by omega
        have hne2 : p ≠ wr.heap.size + 1 := by omega
        have HNE := Lib.hid hne
        have HNE2 := Lib.hid hne2
        clear hWx hWy hWz sx sy sz bx bz byz br bxy hO hpT hpn hxn hyn hC hat hx hcn hb0 hbr hF1 hO1 hne hne2 hpl
        go_upto_region 6 with (at_builtin; refine wpList_append_gB (k := kStep) rfl _ _ rfl sixZero rfl rfl HO5.out X5.out HS5.out HL1.out HL2.out ?_; intro v' w3 ho hoff hfr; obtain ⟨A3, c3, rfl, h31, h32, _, h33⟩ := ho.form; rw [HTS.out] at ho hfr h31 ⊢; rw [← HWZ.out] at hoff hfr; have HO3 := Lib.hid ho; have HF3 := Lib.hid (Fresh.of hfr); have r5 := hoff.cell P5.out HPN.out; have r6 := (PT.out.off hoff HPN.out).frozen 0; have HOFF := Lib.hid hoff; clear ho hfr hoff)
        have hpt3 := PT.out.off HOFF.out HPN.out
        have hpo : p ∉ (Value.slice A3 (n1 + 1) c3).ownBlock.toList := hpt3.not HO3.out (by decide)
        have hs4 : Off [p] w3 (w3.setCell ⟨p, 0, none⟩ (.slice A3 (n1 + 1) c3)) := (Off.refl _ _).setCell _ _ (by simp)
        have HAD : Hid (AddAt w (w3.setCell ⟨p, 0, none⟩ (.slice A3 (n1 + 1) c3)) p base (wr.heap.size + 1) sv (n1 + 1) x (.slice none 0 0) 0 0) := Lib.hid
          ⟨⟨_, ⟨⟨cell_same r5, (S2.out.off HOFF.out HPN.out).set _ _ _⟩, hpt3.set _ _ _, ts ++ [sixZero], HTS.out, OwnsG.off HO3.out hs4 (fun g hg hm => by
              simp only [List.mem_singleton] at hm
              subst hm
              exact hpo (by simpa using hg))⟩, HF1.out.trans HF3.out (Nat.le_trans sW HBR.out.size)⟩,
            ((HO1.out.below HBR.out sW).trans2 HOFF.out (fun i hi => (HF1.out i hi).imp (List.mem_cons_of_mem _) id)).setCell _ _ (by simp),
            (YT.out.off HOFF.out HYN.out).set _ _ _, by omega,
            cell_other (HOFF.out.cell Y0.out HYN.out) (fun h => HNE2.out (by injection h)), cell_other (HOFF.out.cell Y1.out HYN.out) (fun h => HNE2.out (by injection h)), cell_other (HOFF.out.cell Y2.out HYN.out) (fun h => HNE2.out (by injection h)),
            ⟨_, [], cell_other (HOFF.out.cell Y3.out HYN.out) (fun h => HNE2.out (by injection h)), OwnsG.nil _ _, Nat.le_refl _⟩, [], OwnsG.nil _ _, Nat.le_refl _⟩
        have z0 := cell_other (a := ⟨p, 0, none⟩) (v := .slice A3 (n1 + 1) c3) (HOFF.out.cell Z0.out HXN.out) (fun h => HNE.out (by injection h))
        have z1 := cell_other (a := ⟨p, 0, none⟩) (v := .slice A3 (n1 + 1) c3) (HOFF.out.cell Z1.out HXN.out) (fun h => HNE.out (by injection h))
        have z2 := cell_other (a := ⟨p, 0, none⟩) (v := .slice A3 (n1 + 1) c3) (HOFF.out.cell Z2.out HXN.out) (fun h => HNE.out (by injection h))
        have z3 := cell_other (a := ⟨p, 0, none⟩) (v := .slice A3 (n1 + 1) c3) (HOFF.out.cell Z3.out HXN.out) (fun h => HNE.out (by injection h))
        obtain ⟨W4, hW4⟩ : ∃ W4, W4 = w3.setCell ⟨p, 0, none⟩ (.slice A3 (n1 + 1) c3) := ⟨_, rfl⟩
        rw [← hW4] at HAD z0 z1 z2 z3 ⊢
        clear hW4 r5 r6 HOFF HF3 HO3 h31 h32 h33 hpt3 hpo hs4 svA svX svY m0 m1 m2 m3 HT HL HO5 HOz X5 HS5 HL1 HL2 HTS P5 PT Y0 Y1 Y2 Y3 Z0 Z1 Z2 Z3 YT HBR HPN HXN HYN HPL HWZ HNE HNE2 HF1 HO1 hts ts
        generalize wr.heap.size + 1 = by' at *
        go_wp2_with fail
        refine (cases_any (P := NodesIn f W0) W0 x A2 x.cs.length cc _ HC.out).mono ?_
        rintro e w5 ⟨A5, d5, rfl, y1, y2, y3, hC5, hb5⟩
        have HAD5 := Lib.hid (HAD.out.below hb5)
        have HC5 := Lib.hid hC5
        clear hb5 hC5 z0 z1 z2 z3 HC HAD
        generalize casesOf x = cs at *
        go_wp2_with fail
        go_loopw [8, 42] (fun bv i wi => ∃ (j m : Nat), j ≤ cs.length ∧ i = .int .i64 j ∧ Hid (AddAt w wi p base by' sv m x bv j j) ∧ Hid (n1 < m) ∧ Hid (m + cntC f (cs.drop j) + (ms.length - (k + 1)) + cntC f (flatC (ms.drop (k + 1))) = R)) (fun _ i _ => cs.length - (intOf i).toNat)
        case atStart => exact ⟨0, n1 + 1, Nat.zero_le _, rfl, HAD5, Lib.hid (Nat.lt_succ_self _), HCN⟩
        case round =>
          obtain ⟨j, m, hj, rfl, HAD, HNM, HL⟩ := hrel
          obtain ⟨bv, hbv⟩ : ∃ bv, bv = u8 := ⟨_, rfl⟩
          subst hbv
          by_cases hjt : j < cs.length
          · obtain ⟨⟨svi, hcd, hfr⟩, ho, hty, hnew, b0, b1, b2, ⟨cv, keys, b3, hkey, hkl⟩, ns, hrow, hnl⟩ := HAD.out
            obtain ⟨A6, c6, rfl, _, _, _, _⟩ := hkey.form
            obtain ⟨A7, c7, rfl, k71, k72, _⟩ := hcd.2.2.form
            have sW4 := ho.size
            have hb0 : Below W0.heap.size W0 wr := HB.out.trans (ho.toBelow (fun k hk => by
              rcases List.mem_cons.1 hk with rfl | hk
              · exact hp
              · obtain ⟨_, _, ts, _, h4⟩ := HA.out
                have := (h4.block k hk).1; omega) HB.out.size)
            obtain ⟨b2', o2, rfl, hcell⟩ := HC5.out.at (by omega)
            obtain ⟨xb, hx⟩ : ∃ x, cs[j]? = some x := ⟨cs[j], List.getElem?_eq_getElem hjt⟩
            obtain ⟨hxz, g0, vb, g1, hvb⟩ := hcell j xb hx
            obtain ⟨xk, body⟩ := xb
            simp only at g0 g1 hxz hvb
            obtain ⟨A8, d8, rfl, v1, v2, v3⟩ := hvb.form
            replace g0 := carry hb0 g0
            replace g1 := carry hb0 g1
            have i3 : (0 : Int) ≤ (j : Int) := by omega
            have i4 : (j : Int) < (cs.length : Int) := by omega
            have i5 : (j : Int) ≤ (d5 : Int) := by omega
            have e2 : IntKind.i64.wrap ((j : Int) + 1) = (j : Int) + 1 := IntWalk.i64_in _ (by omega)
            have hcn2 := HL.out
            rw [drop_at hx, cntC_cons] at hcn2
            simp only at hcn2
            obtain ⟨W6, hW6⟩ : ∃ W6, W6 = wr.alloc (.cells #[.string xk, .slice A8 body.length d8] 35) := ⟨_, rfl⟩
            obtain ⟨W7, hW7⟩ : ∃ W7, W7 = W6.alloc (.cells #[.string xk, .slice none 0 0] 35) := ⟨_, rfl⟩
            have s6 : W6.heap.size = wr.heap.size + 1 := by rw [hW6]; simp
            have b6 : Below wr.heap.size wr W6 := by rw [hW6]; exact (Below.refl _ _).alloc (Nat.le_refl _) _
            have b7 : Below wr.heap.size wr W7 := by rw [hW7]; exact b6.alloc b6.size _
            have b67 : Below W6.heap.size W6 W7 := by rw [hW7]; exact (Below.refl _ _).alloc (Nat.le_refl _) _
            have HAD7 := Lib.hid (HAD.out.below b7)
            have HK7 := Lib.hid (hkey.below b7)
            have HK7' := Lib.hid (hkey.below b7)
            have B37 := Lib.hid (carry b7 b3)
            have c36 := carry b6 b3
            have c37 := carry b7 b3
            have hT7 := Lib.hid (hty.below b7)
            have Q1 : Hid (W7.cell? ⟨wr.heap.size, 1, none⟩ = some (.slice A8 body.length d8)) := Lib.hid (by rw [hW7, hW6]; go_simp)
            have HQN : Hid (wr.heap.size ∉ (Value.slice A6 keys.length c6).ownBlock.toList) := Lib.hid (fun hm => by have := (hkey.ty _ hm).lt; omega)
            have HYN : Hid (by' ∉ (Value.slice A6 keys.length c6).ownBlock.toList) := Lib.hid (hty.not hkey (by decide))
            have X7 : Hid (∀ i u, (kKey.cells xk)[i]? = some u → W7.cell? ⟨wr.heap.size + 1, i, none⟩ = some u) := Lib.hid (fun i u hu => by
              rw [hW7, hW6]
              match i, hu with
              | 0, hu => cases hu; (first | (go_simp; done) | (go_simp; rfl))
              | 1, hu => cases hu; (first | (go_simp; done) | (go_simp; rfl)))
            have HS7 : Hid (w.heap.size ≤ W7.heap.size) := Lib.hid (by have := b7.size; omega)
            have HL1 : Hid ((keys.length + 1) * kKey.bytes ≤ 140737488355328) := Lib.hid (by show (keys.length + 1) * 40 ≤ _; omega)
            have HL2 : Hid (keys.length + 1 ≤ 9223372036854775807) := Lib.hid (by omega)
            have HBN : Hid (wr.heap.size ∉ bv.ownBlock.toList) := Lib.hid (fun hm => by have := (hrow.ty _ hm).lt; omega)
            have hyw := hty.lt
            have HYW : Hid (by' ≠ wr.heap.size) := Lib.hid (by omega)
            clear hyw
            have HKE : Hid ((keys ++ [xk]).length = keys.length + 1) := Lib.hid (by simp)
            have HKL := Lib.hid hkl
            have HNL := Lib.hid hnl
            have HVB := Lib.hid hvb
            have HCN2 := Lib.hid hcn2
            rw [hW6] at c36
            rw [hW7, hW6] at HK7 X7 HS7 c37
            have HW7 : Hid (W7 = (wr.alloc (.cells #[.string xk, .slice A8 body.length d8] 35)).alloc (.cells #[.string xk, .slice none 0 0] 35)) := Lib.hid (by rw [hW7, hW6])
            clear hcd hfr ho hty hkey hkl hrow hnl hb0 hcell hx hvb hcn2 hW6 hW7 s6 b6 b7 b67 b0 b1 b2 HAD HL
            go_upto_region 11 with (at_builtin; refine wpList_append_gB (k := kKey) rfl _ _ rfl xk rfl rfl HK7.out X7.out HS7.out HL1.out HL2.out ?_; intro v' w8 ho hoff hfr; obtain ⟨A9, c9, rfl, h91, h92, _, h93⟩ := ho.form; rw [HKE.out] at ho h91 ⊢; rw [← HW7.out] at hoff; have r3 := hoff.cell B37.out HYN.out; have r4 := (hT7.out.off hoff HYN.out).frozen 3; have HAD8 := Lib.hid (AddAt.keyed HAD7.out B37.out HK7'.out HKL.out hoff ho); have Q18 := hoff.cell Q1.out HQN.out; clear ho hfr hoff h93)
            have q18 := cell_other (a := ⟨by', 3, none⟩) (v := .slice A9 (keys.length + 1) c9) Q18 (fun h => HYW.out (by injection h))
            obtain ⟨W8, hW8⟩ : ∃ W8, W8 = w8.setCell ⟨by', 3, none⟩ (.slice A9 (keys.length + 1) c9) := ⟨_, rfl⟩
            rw [← hW8] at HAD8 q18 ⊢
            clear hW8 r3 r4 Q18 HAD7 HK7 HK7' B37 c36 c37 hT7 Q1 HQN HYN X7 HS7 HL1 HL2 HKE HKL HW7 g0 g1 b3 h91 h92
            obtain ⟨⟨sv8, hcd, hfr⟩, ho, _, _, _, _, _, _, ns8, hrow, hnl⟩ := HAD8.out
            obtain ⟨A10, c10, rfl, _, _, _⟩ := hcd.2.2.form
            obtain ⟨A11, c11, rfl, _, _, _, _⟩ := hrow.form
            have p8 := hcd.1.1
            obtain ⟨W9, hW9⟩ : ∃ W9, W9 = W8.alloc (.cells #[.int .i64 m] 3) := ⟨_, rfl⟩
            have b9 : Below W8.heap.size W8 W9 := by rw [hW9]; exact (Below.refl _ _).alloc (Nat.le_refl _) _
            have HAD9 := Lib.hid (HAD8.out.below b9)
            have HR9 := Lib.hid (hrow.below b9)
            have HR9' := Lib.hid (hrow.below b9)
            have Q19 := Lib.hid (carry b9 q18)
            have X9 : Hid (∀ i u, (kInt.cells (m : Int))[i]? = some u → W9.cell? ⟨W8.heap.size, i, none⟩ = some u) := Lib.hid (fun i u hu => by
              rw [hW9]
              match i, hu with
              | 0, hu => cases hu; (first | (go_simp; done) | (go_simp; rfl)))
            have HS9 : Hid (w.heap.size ≤ W9.heap.size) := Lib.hid (Nat.le_trans ho.size b9.size)
            have hnl2 : ns8.length ≤ 3518437208800 := by omega
            have HL1 : Hid ((ns8.length + 1) * kInt.bytes ≤ 140737488355328) := Lib.hid (by show (ns8.length + 1) * 8 ≤ _; omega)
            have HL2 : Hid (ns8.length + 1 ≤ 9223372036854775807) := Lib.hid (by omega)
            have HNL8 := Lib.hid hnl
            rw [hW9] at HR9 X9 HS9
            have HW9 := Lib.hid hW9
            clear hcd hfr ho hrow hnl hW9 b9
            go_upto_region 12 with (at_builtin; refine wpList_append_gB (k := kInt) rfl _ _ rfl (m : Int) rfl rfl HR9.out X9.out HS9.out HL1.out HL2.out ?_; intro v' w10 ho hoff hfr; rw [← HW9.out] at hoff; have HAD10 := Lib.hid (AddAt.begun HAD9.out HR9'.out HNL8.out hoff ho); have q10 := hoff.cell Q19.out HBN.out; clear ho hfr hoff)
            clear HAD8 HAD9 HR9 HR9' Q19 X9 HS9 HL1 HL2 HNL8 HW9 HNL HBN HYW q18 p8
            obtain ⟨⟨sv10, hcd, hfr⟩, ho, _, _, _, _, _, _, _⟩ := HAD10.out
            have hb10 : Below W0.heap.size W0 w10 := HB.out.trans (ho.toBelow (fun k hk => by
              rcases List.mem_cons.1 hk with rfl | hk
              · exact hp
              · obtain ⟨_, _, ts, _, h4⟩ := HA.out
                have := (h4.block k hk).1; omega) HB.out.size)
            have hcn3 := HCN2.out
            have K := Lib.hid (IH.out _ body m sv10 w10 HVB.out hb10 hcd (by have := ho.size; omega) (by omega))
            have HCD := Lib.hid hcd
            have HFR := Lib.hid hfr
            have HCN3 : Hid ((m + cntP f body) + cntC f (cs.drop (j + 1)) + (ms.length - (k + 1)) + cntC f (flatC (ms.drop (k + 1))) = R) := Lib.hid (by omega)
            have HNM2 : Hid (n1 < m + cntP f body) := Lib.hid (by have := HNM.out; omega)
            clear hcd hfr ho hb10 hcn3 HCN2
            go_wp2_with fail
            refine K.out.mono ?_
            rintro e w11 ⟨rfl, hT⟩
            have HAD11 := Lib.hid (AddAt.added HAD10.out HCD.out HFR.out hT)
            clear hT
            go_wp2_with fail
            go_roundw
            case rel => exact ⟨j + 1, m + cntP f body, by omega, by go_num, HAD11, HNM2, HCN3⟩
            case measure => simp [intOf]; omega
          · obtain rfl : j = cs.length := by omega
            obtain ⟨⟨svi, hcd, hfr⟩, ho, hty, hnew, b0, b1, b2, ⟨cv, keys, b3, hkey, hkl⟩, ns, hrow, hnl⟩ := HAD.out
            obtain ⟨A6, c6, rfl, _, _, _, _⟩ := hkey.form
            obtain ⟨A7, c7, rfl, k71, k72, k73⟩ := hcd.2.2.form
            obtain ⟨g, rfl⟩ := k73 (by have := HNM.out; omega)
            obtain ⟨A11, c11, rfl, _, _, _, _⟩ := hrow.form
            obtain ⟨⟨p8, p9⟩, hpT, ts, hts, hst⟩ := hcd
            have hnm := HNM.out
            have hgT : TyAt wr g 63 := hst.ty g (by simp [Value.ownBlock])
            have hgp : ¬ g = p := hgT.ne hpT (by decide)
            have hgy : ¬ g = by' := hgT.ne hty (by decide)
            obtain ⟨W9, hW9⟩ : ∃ W9, W9 = (wr.alloc (.cells #[.int .i64 m] 3)).drew := ⟨_, rfl⟩
            have b9 : Below wr.heap.size wr W9 := by rw [hW9]; exact (by (repeat (first | with_reducible exact Below.refl _ _ | with_reducible refine bel_set ?_ ?_ | with_reducible refine bel_alloc ?_ ?_ | with_reducible refine Below.drew ?_ | with_reducible refine bel_drewN _ ?_ | with_reducible refine bel_call ?_ (by assumption) ?_)); all_goals (first | (simp; done) | omega | (simp; omega)))
            have HAD9 := Lib.hid (HAD.out.below b9)
            have HR9 := Lib.hid (hrow.below b9)
            have HST9 := Lib.hid (hst.below b9)
            have HR9' := Lib.hid (hrow.below b9)
            have X9 : Hid (∀ i u, (kInt.cells (m : Int))[i]? = some u → W9.cell? ⟨wr.heap.size, i, none⟩ = some u) := Lib.hid (fun i u hu => by
              rw [hW9]
              match i, hu with
              | 0, hu => cases hu; (first | (go_simp; done) | (go_simp; rfl)))
            have HS9 : Hid (w.heap.size ≤ W9.heap.size) := Lib.hid (Nat.le_trans ho.size b9.size)
            have HL1 : Hid ((ns.length + 1) * kInt.bytes ≤ 140737488355328) := Lib.hid (by show (ns.length + 1) * 8 ≤ _; omega)
            have HL2 : Hid (ns.length + 1 ≤ 9223372036854775807) := Lib.hid (by omega)
            have HPT := Lib.hid (hpT.below b9)
            have HTY := Lib.hid (hty.below b9)
            have C0 := Lib.hid (carry b9 b0)
            have C1 := Lib.hid (carry b9 b1)
            have C2 := Lib.hid (carry b9 b2)
            have C3 := Lib.hid (carry b9 b3)
            have C8 := Lib.hid (carry b9 p8)
            have P9 := Lib.hid (p9.below b9)
            clear p9
            have HNL := Lib.hid hnl
            obtain ⟨t, ht⟩ : ∃ t, ts[n1]? = some t := ⟨ts[n1]'(by omega), List.getElem?_eq_getElem _⟩
            have HTT := Lib.hid ht
            obtain ⟨⟨tl, htl, hto⟩, htt⟩ : ∃ t' : Six, t' = t := ⟨t, rfl⟩
            match tl, htl, hto, htt with
            | [u0, u1, u2, u3, u4, u5], htl, hto, htt =>
              have HU : Hid (t.1 = [u0, u1, u2, u3, u4, u5]) := Lib.hid (by rw [← htt])
              have HTS := Lib.hid hts
              have U0 : Hid ((kStep.cells t)[0]? = some u0) := Lib.hid (by show t.1[0]? = _; rw [HU.out]; rfl)
              have U1 : Hid ((kStep.cells t)[1]? = some u1) := Lib.hid (by show t.1[1]? = _; rw [HU.out]; rfl)
              have U2 : Hid ((kStep.cells t)[2]? = some u2) := Lib.hid (by show t.1[2]? = _; rw [HU.out]; rfl)
              have U3 : Hid ((kStep.cells t)[3]? = some u3) := Lib.hid (by show t.1[3]? = _; rw [HU.out]; rfl)
              have U4 : Hid ((kStep.cells t)[4]? = some u4) := Lib.hid (by show t.1[4]? = _; rw [HU.out]; rfl)
              have U5 : Hid ((kStep.cells t)[5]? = some u5) := Lib.hid (by show t.1[5]? = _; rw [HU.out]; rfl)
              have NP := Lib.hid (HPT.out.not HR9'.out (by decide))
              have NY := Lib.hid (HTY.out.not HR9'.out (by decide))
              have NS := Lib.hid (HST9.out.apart HR9'.out (by decide))
              rw [hW9] at HR9 X9 HS9
              have HW9 := Lib.hid hW9
              have i6 : (n1 : Int) < (m : Int) := by omega
              have i7 : (0 : Int) ≤ (n1 : Int) := by omega
              have i8 : (m : Int) ≤ (c7 : Int) := by omega
              have e3 : IntKind.i64.wrap ((k : Int) + 1) = (k : Int) + 1 := IntWalk.i64_in _ (by omega)
              clear ho hkey hkl hrow hnl hpT hst hts hty htt hto htl hW9 b9 hgT ht hnew
              go_wp2_with fail
              go_region_held3 (fun w' => w'.cell? ⟨p, 0, none⟩ = some (.slice (some ⟨g, 0, none⟩) m c7) ∧ w'.cell? ⟨by', 0, none⟩ = some (.int .i64 x.kd) ∧ w'.cell? ⟨by', 1, none⟩ = some (.string x.t) ∧ w'.cell? ⟨by', 2, none⟩ = some (.int .i64 x.off) ∧ w'.cell? ⟨by', 3, none⟩ = some (.slice A6 keys.length c6))
                (first | go_keep | (go_split_ands; refine ⟨?_, ?_, ?_, ?_, ?_⟩ <;> assumption))
                ((apply step_append_gB (k := kInt) (s := .tmp 73) (x := .tmp 79) (t := (m : Int)) (hown := HR9.out) (hc := X9.out) (hb := HS9.out) (hn := HL1.out) (hn2 := HL2.out); (any_goals rfl); intro v' w10 ho hoff hfr; obtain ⟨A12, c12, rfl, _⟩ := ho.form; rw [← HW9.out] at hoff; have HO10 := Lib.hid ho; have HOFF := Lib.hid hoff; have r8 := hoff.cell C8.out NP.out; have r0 := hoff.cell C0.out NY.out; have r1 := hoff.cell C1.out NY.out; have r2 := hoff.cell C2.out NY.out; have r3 := hoff.cell C3.out NY.out; have HST10 := Lib.hid (HST9.out.off hoff NS.out); have t0 : World.cell? w10 ⟨g, n1 * 6, none⟩ = some u0 := HST10.out.cells HTT.out (i := 0) (U0.out); have t1 : World.cell? w10 ⟨g, n1 * 6 + 1, none⟩ = some u1 := HST10.out.cells HTT.out (i := 1) (U1.out); have t2 : World.cell? w10 ⟨g, n1 * 6 + 2, none⟩ = some u2 := HST10.out.cells HTT.out (i := 2) (U2.out); have t3 : World.cell? w10 ⟨g, n1 * 6 + 3, none⟩ = some u3 := HST10.out.cells HTT.out (i := 3) (U3.out); have t4 : World.cell? w10 ⟨g, n1 * 6 + 4, none⟩ = some u4 := HST10.out.cells HTT.out (i := 4) (U4.out); have t5 : World.cell? w10 ⟨g, n1 * 6 + 5, none⟩ = some u5 := HST10.out.cells HTT.out (i := 5) (U5.out); have f0 : World.frozen? w10 ⟨g, n1 * 6, none⟩ = false := HST10.out.frozen (n1 * 6); have f1 : World.frozen? w10 ⟨g, n1 * 6 + 1, none⟩ = false := HST10.out.frozen (n1 * 6 + 1); have f2 : World.frozen? w10 ⟨g, n1 * 6 + 2, none⟩ = false := HST10.out.frozen (n1 * 6 + 2); have f3 : World.frozen? w10 ⟨g, n1 * 6 + 3, none⟩ = false := HST10.out.frozen (n1 * 6 + 3); have f4 : World.frozen? w10 ⟨g, n1 * 6 + 4, none⟩ = false := HST10.out.frozen (n1 * 6 + 4); have f5 : World.frozen? w10 ⟨g, n1 * 6 + 5, none⟩ = false := HST10.out.frozen (n1 * 6 + 5); clear ho hfr hoff))
              have hT10 := HPT.out.off HOFF.out NP.out
              have P8 : Hid (World.cell? w10 ⟨p, 0, none⟩ = some (.slice (some ⟨g, 0, none⟩) m c7)) := Lib.hid (HOFF.out.cell C8.out NP.out)
              have hN : StepsN w10 base (.slice (some ⟨g, 0, none⟩) m c7) m := ⟨ts, HTS.out, HST10.out⟩
              have hN6 := (((((hN.set n1 0 (.int .i64 x.kd) rfl hnm (by decide)).set n1 1 (.string x.t) rfl hnm (by decide)).set n1 2 (.int .i64 x.off) rfl hnm (by decide)).set n1 3 (.slice A6 keys.length c6) rfl hnm (by decide)).set n1 4 (.slice A12 (ns.length + 1) c12) rfl hnm (by decide)).set n1 5 (.int .i64 m) rfl hnm (by decide)
              have hne : ∀ i, (⟨g, i, none⟩ : Addr) ≠ ⟨p, 0, none⟩ := fun i h => hgp (by injection h)
              have HEND : Hid (CodeTo w ((((((w10.setCell ⟨g, n1 * 6, none⟩ (.int .i64 x.kd)).setCell ⟨g, n1 * 6 + 1, none⟩ (.string x.t)).setCell ⟨g, n1 * 6 + 2, none⟩ (.int .i64 x.off)).setCell ⟨g, n1 * 6 + 3, none⟩ (.slice A6 keys.length c6)).setCell ⟨g, n1 * 6 + 4, none⟩ (.slice A12 (ns.length + 1) c12)).setCell ⟨g, n1 * 6 + 5, none⟩ (.int .i64 m)) p base sv m) := Lib.hid (by
                refine ⟨_, ⟨⟨cell_other (cell_other (cell_other (cell_other (cell_other (cell_other P8.out (hne _)) (hne _)) (hne _)) (hne _)) (hne _)) (hne _), ((((((P9.out.off HOFF.out NP.out).set _ _ _).set _ _ _).set _ _ _).set _ _ _).set _ _ _).set _ _ _⟩, (((((hT10.set _ _ _).set _ _ _).set _ _ _).set _ _ _).set _ _ _).set _ _ _, hN6⟩, hfr, ?_⟩
                have h1 : Off (p :: sv.ownBlock.toList) w w10 := HAD9.out.off.trans2 HOFF.out (fun i hi => .inr (HR9'.out.block i hi).1)
                refine h1.trans2 (m := [g]) ((((((Off.refl [g] w10).setCell _ _ (by simp)).setCell _ _ (by simp)).setCell _ _ (by simp)).setCell _ _ (by simp)).setCell _ _ (by simp) |>.setCell _ _ (by simp)) (fun i hi => ?_)
                simp only [List.mem_singleton] at hi
                subst hi
                exact (hfr i (by simp [Value.ownBlock])).imp (List.mem_cons_of_mem _) id)
              have hl := HL.out
              rw [List.drop_of_length_le (Nat.le_refl _)] at hl
              have HL2' : Hid (m + (ms.drop (k + 1)).length + cntC f (flatC (ms.drop (k + 1))) = R) := Lib.hid (by rw [List.length_drop]; simp [cntC] at hl ⊢; omega)
              clear hl hN hN6 hT10 hne t0 t1 t2 t3 t4 t5 f0 f1 f2 f3 f4 f5
              go_wp2_with fail
              go_roundw
              case rel => exact ⟨k + 1, m, by omega, by go_num, HEND, HL2'⟩
              case measure => simp [intOf]; omega
      · obtain rfl : k = ms.length := by omega
        have hr := HL.out
        rw [List.drop_of_length_le (Nat.le_refl _)] at hr
        have HE : Hid (CodeTo w _ p base sv R) := Lib.hid ((show n1 = R by simpa [cntC, flatC] using hr) ▸ HT.out)
        clear hr
        go_wp2_with fail
        exact bodyPost_end (results_none rfl _ _ _) rfl ⟨rfl, HE.out⟩
end Go.Proofs.YthlcjlmaaaappaaDoor
