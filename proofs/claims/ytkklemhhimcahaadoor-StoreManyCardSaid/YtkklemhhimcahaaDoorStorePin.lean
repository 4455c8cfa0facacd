/- store: Pin, Free. -/
import Derived.Test.YtkklemhhimcahaaDoorStoreOps
namespace Go.Proofs.YtkklemhhimcahaaDoor
open Go.RowKit Go.Maps
attribute [local go_sem ↓] Go.wp_at_zero Go.wp_at_succ
variable {w w' : World} {B sb mb N : Nat} {S : List Nat} {vb hd : Nat → Nat}

theorem StoreAt.hold (h : StoreAt w B sb mb N S vb hd) {i : Nat} (h1 : 1 ≤ i) (h2 : i ≤ N) (x : Nat) : StoreAt (w.setCell ⟨vb i, 1, none⟩ (.int .i64 (x : Int))) B sb mb N S vb (vbSet hd i x) := by
  obtain ⟨a1, a2, a3, a4, a5⟩ := h.ver i h1 h2
  obtain ⟨es, ho, hE⟩ := h.own
  have f0 := h.f0
  refine ⟨cell_other h.c0 (by first | (simp; done) | (simp; intro e; exact absurd e a3)), cell_other h.c1 (by first | (simp; done) | (simp; intro e; exact absurd e a3)), by go_simp, ⟨es, owns_block ho (Below.heap_setCell _ _ _ _ (fun e => a4 e.symm)), hE⟩, h.nd, h.le, fun j j1 j2 => ?_, h.inj, h.base, h.few⟩
  obtain ⟨b1, b2, b3, b4, b5⟩ := h.ver j j1 j2
  by_cases hj : j = i
  · subst hj
    refine ⟨?_, by go_simp, b3, b4, b5⟩
    rw [show vbSet hd j x j = x from if_pos rfl]
    exact cell_same a1
  · refine ⟨?_, by go_simp, b3, b4, b5⟩
    rw [show vbSet hd i x j = hd j from if_neg hj]
    exact cell_other b1 (by simp; intro e; exact hj (h.inj j i j1 j2 h1 h2 e.symm))
theorem zero_ptr (w : World) : (zeroValue 84).run Tryd.prog w = .ok (.pointer none) w := by kernel_rfl
theorem bel_held {x : Value} (h : StoreAt w B sb mb N S vb hd) {i : Nat} (h1 : 1 ≤ i) (h2 : i ≤ N) : Below B w (w.setCell ⟨vb i, 1, none⟩ x) :=
  (Below.refl _ _).setCell (h.ver i h1 h2).2.2.2.2 _
set_option maxRecDepth 100000 in
/-- what stands under a number that is there -/
theorem StoreAt.look (h : StoreAt w B sb mb N S vb hd) {i : Nat} (hi : i ∈ S) : (Instr.lookup 80 (.map (some mb)) (.int .i64 (i : Int)) false).run Tryd.prog w = .ok (.pointer (some ⟨vb i, 0, none⟩)) w := by
  obtain ⟨es, ho, hE⟩ := h.own
  have hle := h.le i hi
  have hfew := h.few
  obtain ⟨es', clock, hb, F, hs, hD⟩ := ho
  have htidy := (World.ownsMap.tidy (h := ⟨es', clock, hb, F, hs, hD⟩) (int_keyed Tryd.underlying3))
  obtain ⟨es2, e2, hap⟩ := htidy
  injection e2 with e2
  subst e2
  have hat := hE.at hap hi (.nil)
  rcases Maps.fit_look false (int_keyed Tryd.underlying3) Tryd.underlying80 (zero_ptr w) hb F (natKey i (by omega)) with ⟨hrun, _, hat2⟩ | ⟨e0, y, _, _, hrun, hRv, hat2, _⟩
  · have := (hat2 .nil)
    rw [← hD, hat] at this
    cases this
  · have h3 := hat2 .nil
    rw [← hD, hat] at h3
    obtain ⟨hz, j, _, _, hv, _⟩ := verE_some hRv
    rw [hz] at h3
    simp only [DataW.held.injEq] at h3
    rw [hrun, ← h3]
    rfl
set_option maxRecDepth 100000 in
theorem StoreAt.look_no (h : StoreAt w B sb mb N S vb hd) {i : Nat} (hi : i ∉ S) (hi2 : i ≤ 1000) : (Instr.lookup 80 (.map (some mb)) (.int .i64 (i : Int)) false).run Tryd.prog w = .ok (.pointer none) w := by
  obtain ⟨es, ho, hE⟩ := h.own
  obtain ⟨es', clock, hb, F, hs, hD⟩ := ho
  have hat := hE.no hi (.nil)
  rcases Maps.fit_look false (int_keyed Tryd.underlying3) Tryd.underlying80 (zero_ptr w) hb F (natKey i hi2) with ⟨hrun, _, hat2⟩ | ⟨e0, y, _, _, hrun, hRv, hat2, _⟩
  · exact hrun
  · have h3 := hat2 .nil
    rw [← hD, hat] at h3
    obtain ⟨hz, j, _, _, hv, _⟩ := verE_some hRv
    rw [hz] at h3
    cases h3

set_option maxHeartbeats 2000000 in
theorem store_pin (w : World) (h : StoreAt w B sb mb N S vb hd) (hN : N ∈ S) (hq : hd N ≤ 1000) :
    Calls Tryd.prog 15 #[.pointer (some ⟨sb, 0, none⟩)] w fun e w' => e = .returned (.tuple #[.int .i64 (N : Int), .nilIface]) ∧ StoreAt w' B sb mb N S vb (vbSet hd N (hd N + 1)) ∧ Below B w w' := by
  have hle := h.le N hN
  have hlook : ∀ m, (Instr.lookup 80 (.map (some mb)) (.int .i64 (N : Int)) false).run Tryd.prog (w.drewN m) = .ok (.pointer (some ⟨vb N, 0, none⟩)) (w.drewN m) := fun m => StoreAt.look (h.below (bel_drewN _ (Below.refl _ _))) hN
  have HH := Lib.hid h
  have c0 := h.c0
  have c1 := h.c1
  obtain ⟨a1, a2, a3, _, _⟩ := h.ver N hle.1 hle.2
  clear h hN
  go_enter Tryd.func15, Tryd.ntmps15
  go_wp2_with fail
  go_quiet (fail)
  have hd2 := HH.out.below (bel_drewN nq (Below.refl w.heap.size w))
  have HD2 := Lib.hid hd2
  have d1 := hd2.c0
  have d2 := (hd2.ver N hle.1 hle.2).1
  have d3 := (hd2.ver N hle.1 hle.2).2.1
  have HB : Hid (Below B w (w.drewN nq)) := Lib.hid (bel_drewN _ (Below.refl _ _))
  clear hd2 c0 c1 a1 a2 hlook
  generalize w.drewN nq = wd at *
  have hS := HD2.out.hold hle.1 hle.2 (hd N + 1)
  push_cast at hS
  have HS := Lib.hid hS
  have HB2 := Lib.hid (HB.out.trans (bel_held (x := .int .i64 ((hd N : Int) + 1)) HD2.out hle.1 hle.2))
  clear hS
  go_wp2_with fail
  go_ret2
  exact ⟨rfl, HS.out, HB2.out⟩

set_option maxHeartbeats 2000000 in
theorem store_pin_no (w : World) (h : StoreAt w B sb mb N S vb hd) (hN : N ∉ S) :
    Calls Tryd.prog 15 #[.pointer (some ⟨sb, 0, none⟩)] w fun e w' => e = .returned (.tuple #[.int .i64 0, .iface 61 (.int .i64 2)]) ∧ Below B w w' := by
  have hlook : ∀ m, (Instr.lookup 80 (.map (some mb)) (.int .i64 (N : Int)) false).run Tryd.prog (w.drewN m) = .ok (.pointer none) (w.drewN m) := fun m => StoreAt.look_no (h.below (bel_drewN _ (Below.refl _ _))) hN (by have := h.few; omega)
  have c0 := h.c0
  have c1 := h.c1
  clear h hN
  go_enter Tryd.func15, Tryd.ntmps15
  go_wp2_with fail
  go_quiet (fail)
  go_wp2_with fail
  go_ret2
  exact ⟨rfl, bel_drewN _ (Below.refl _ _)⟩

set_option maxHeartbeats 2000000 in
theorem store_free (w : World) (i q : Nat) (h : StoreAt w B sb mb N S vb hd) (hi : i ∈ S) (hq : hd i = q + 1) (hq2 : q ≤ 1000) :
    Calls Tryd.prog 17 #[.pointer (some ⟨sb, 0, none⟩), .int .i64 (i : Int)] w fun e w' => e = .returned .nilIface ∧ StoreAt w' B sb mb N (S.filter (stays (vbSet hd i q) N)) vb (vbSet hd i q) ∧ Below B w w' := by
  have hle := h.le i hi
  have hlook := h.look hi
  have HH := Lib.hid h
  have c0 := h.c0
  have c1 := h.c1
  obtain ⟨a1, a2, a3, _, _⟩ := h.ver i hle.1 hle.2
  rw [hq] at a1
  push_cast at a1
  have hS := h.hold hle.1 hle.2 q
  have HS := Lib.hid hS
  have HB := Lib.hid (bel_held (x := .int .i64 (q : Int)) h hle.1 hle.2)
  have hz : ((q : Int) + 1 == 0) = false := by rw [beq_eq_false_iff_ne]; omega
  have hm : (q : Int) + 1 - 1 = (q : Int) := by omega
  clear h hi hS hq
  go_enter Tryd.func17, Tryd.ntmps17
  go_wp2_with fail
  refine (store_clean _ HS.out).mono ?_
  rintro e w1 ⟨rfl, hS2, _, hb⟩
  have HS2 := Lib.hid hS2
  have HB2 := Lib.hid (HB.out.trans hb)
  clear hS2 hb
  go_wp2_with fail
  go_ret
  exact ⟨rfl, HS2.out, HB2.out⟩
end Go.Proofs.YtkklemhhimcahaaDoor
