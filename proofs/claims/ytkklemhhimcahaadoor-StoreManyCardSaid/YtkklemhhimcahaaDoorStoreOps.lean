/- store: New, Load of nothing, Pin, Free. -/
import Derived.Test.YtkklemhhimcahaaDoorStore
import Derived.Deep.DrawnRows
namespace Go.Proofs.YtkklemhhimcahaaDoor
open Go.RowKit Go.Maps
attribute [local go_sem ↓] Go.wp_at_zero Go.wp_at_succ
variable {w w' : World} {B sb mb N : Nat} {S : List Nat} {vb hd : Nat → Nat}

set_option maxHeartbeats 1000000 in
theorem store_new (w : World) :
    Calls Tryd.prog 13 #[] w fun e w' => e = .returned (.pointer (some ⟨w.heap.size + 1, 0, none⟩)) ∧ StoreAt w' w.heap.size (w.heap.size + 1) w.heap.size 0 [] (fun _ => 0) (fun _ => 0) ∧ Below w.heap.size w w' := by
  have hmm := @run_makeMap Tryd.prog
  go_enter Tryd.func13, Tryd.ntmps13
  go_wp2
  go_ret
  refine ⟨rfl, ⟨by go_simp, by go_simp, by go_simp, ⟨[], ?_, fun p => by simp⟩, List.nodup_nil, by simp, fun i h1 h2 => by omega, fun i j h1 h2 => by omega, ⟨by omega, by omega, by omega⟩, by omega⟩, ((Below.refl _ _).alloc (Nat.le_refl _) _).alloc (by simp) _⟩
  exact (World.ownsMap_made w Tryd.prog 3 (verE (fun _ => 0) 0)).alloc _

theorem owns_stay {P : Program} {k : TypeId} {R R' : Value → Option (SD × List MemPlace)} {b n : Nat} {D : SD} (h : w.ownsMap P k R b n D) (hs : ∀ v z, R v = some z → R' v = some z) : w.ownsMap P k R' b n D := by
  obtain ⟨es, clock, h1, F, h3, h4⟩ := h
  obtain ⟨F1, hmap, _⟩ := F.stay (R' := R') (fun x _ z hz => hs x.val z hz)
  exact ⟨es, clock, h1, F1, h3, by rw [hmap]; exact h4⟩
theorem verE_more {vb vb' : Nat → Nat} {N N' : Nat} (hN : N ≤ N') (hv : ∀ i, 1 ≤ i → i ≤ N → vb' i = vb i) (hinj : ∀ i j, 1 ≤ i → i ≤ N' → 1 ≤ j → j ≤ N' → vb' i = vb' j → i = j) {v : Value} {z : SD × List MemPlace} (h : verE vb N v = some z) : verE vb' N' v = some z := by
  obtain ⟨rfl, i, h1, h2, rfl, _⟩ := verE_some h
  unfold verE
  rw [show vb i = vb' i from (hv i h1 h2).symm, verIdx_at h1 (by omega) (fun j j1 j2 e => hinj j i j1 j2 h1 (by omega) e)]
  rfl
/-- the version that is loaded now, at b -/
def vbSet (vb : Nat → Nat) (i b : Nat) : Nat → Nat := fun j => if j = i then b else vb j
/-- loaded, and not cleaned yet -/
theorem StoreAt.loaded {wm wl : World} {b : Nat} (h : StoreAt w B sb mb N S vb hd) (hN : N ≤ 19)
    (hl : ∀ k, k < w.heap.size → k ≠ sb → wm.heap[k]? = w.heap[k]?) (hsz : w.heap.size ≤ b) (hB : B ≤ w.heap.size)
    (c0 : wm.cell? ⟨sb, 0, none⟩ = some (.int .i64 ((N : Int) + 1))) (c1 : wm.cell? ⟨sb, 1, none⟩ = some (.map (some mb))) (f0 : wm.frozen? ⟨sb, 0, none⟩ = false)
    (v1 : wm.cell? ⟨b, 1, none⟩ = some (.int .i64 0)) (vf : wm.frozen? ⟨b, 1, none⟩ = false) {es : List (Lit × SD)} (hE : Ent es S vb)
    (ho : wl.ownsMap Tryd.prog 3 (verE (vbSet vb (N + 1) b) (N + 1)) mb (N + 1) ((DataW.map es).put (keyI (N + 1)) (.held (ptrV b)))) (hg : wm.grownBy wl (some mb)) :
    StoreAt wl B sb mb (N + 1) (S ++ [N + 1]) (vbSet vb (N + 1) b) (vbSet hd (N + 1) 0) := by
  obtain ⟨hsb, hmb⟩ := h.lt
  have hns : N + 1 ∉ S := fun e => by have := h.le _ e; omega
  have hmlt := lt_of_cell v1
  have hgc : ∀ b' o v, b' ≠ mb → wm.cell? ⟨b', o, none⟩ = some v → wl.cell? ⟨b', o, none⟩ = some v := fun b' o v hne hv => hg.cell hv (fun e => hne (Option.some.inj e))
  have hgf : ∀ b' o v, b' ≠ mb → wm.cell? ⟨b', o, none⟩ = some v → wl.frozen? ⟨b', o, none⟩ = wm.frozen? ⟨b', o, none⟩ := fun b' o v hne hv => by
    have hlt := lt_of_cell hv
    simp only [World.frozen?, hg.block b' hlt (fun e => hne (Option.some.inj e))]
  have hbm : b ≠ mb := by omega
  obtain ⟨es', he', hE'⟩ := hE.put (b := b) hns
  rw [he'] at ho
  have hold : ∀ i, 1 ≤ i → i ≤ N → vbSet vb (N + 1) b i = vb i ∧ vbSet hd (N + 1) 0 i = hd i := fun i _ h2 => ⟨if_neg (by omega), if_neg (by omega)⟩
  have hnew : vbSet vb (N + 1) b (N + 1) = b ∧ vbSet hd (N + 1) 0 (N + 1) = 0 := ⟨if_pos rfl, if_pos rfl⟩
  have hvlt : ∀ i, 1 ≤ i → i ≤ N → vb i < w.heap.size := fun i h1 h2 => lt_of_cell (h.ver i h1 h2).1
  refine ⟨?_, hgc _ _ _ h.base.2.2 c1, (hgf _ _ _ h.base.2.2 c0).trans f0, ⟨es', ho, hE'⟩, ?_, fun i hi => ?_, fun i h1 h2 => ?_, fun i j i1 i2 j1 j2 e => ?_, h.base, by omega⟩
  · rw [hgc _ _ _ h.base.2.2 c0]; simp
  · exact List.nodup_append.2 ⟨h.nd, by simp, fun x hx y hy e => hns (by rw [List.mem_singleton.1 hy] at e; exact e ▸ hx)⟩
  · rcases List.mem_append.1 hi with hi | hi
    · have := h.le i hi; omega
    · have := List.mem_singleton.1 hi; omega
  · by_cases hi : i = N + 1
    · subst hi
      rw [hnew.1, hnew.2]
      exact ⟨hgc _ _ _ hbm v1, (hgf _ _ _ hbm v1).trans vf, by omega, hbm, by omega⟩
    · have h2' : i ≤ N := by omega
      rw [(hold i h1 h2').1, (hold i h1 h2').2]
      obtain ⟨a1, a2, a3, a4, a5⟩ := h.ver i h1 h2'
      have hlt := hvlt i h1 h2'
      have a1' : wm.cell? ⟨vb i, 1, none⟩ = some (.int .i64 (hd i)) := by rw [← a1]; simp only [World.cell?, hl _ hlt a3]
      have a2' : wm.frozen? ⟨vb i, 1, none⟩ = false := by rw [← a2]; simp only [World.frozen?, hl _ hlt a3]
      exact ⟨hgc _ _ _ a4 a1', (hgf _ _ _ a4 a1').trans a2', a3, a4, a5⟩
  · by_cases hi : i = N + 1
    · by_cases hj : j = N + 1
      · omega
      · subst hi
        rw [hnew.1, (hold j j1 (by omega)).1] at e
        have := hvlt j j1 (by omega)
        omega
    · by_cases hj : j = N + 1
      · subst hj
        rw [hnew.1, (hold i i1 (by omega)).1] at e
        have := hvlt i i1 (by omega)
        omega
      · rw [(hold i i1 (by omega)).1, (hold j j1 (by omega)).1] at e
        exact h.inj i j i1 (by omega) j1 (by omega) e

theorem StoreAt.more {b : Nat} (h : StoreAt w B sb mb N S vb hd) (hb : w.heap.size ≤ b) {W : World} {n : Nat} {D : SD} (ho : W.ownsMap Tryd.prog 3 (verE vb N) mb n D) :
    W.ownsMap Tryd.prog 3 (verE (vbSet vb (N + 1) b) (N + 1)) mb n D ∧ verE (vbSet vb (N + 1) b) (N + 1) (ptrV b) = some (.held (ptrV b), []) := by
  have hvlt : ∀ i, 1 ≤ i → i ≤ N → vb i < w.heap.size := fun i h1 h2 => lt_of_cell (h.ver i h1 h2).1
  have hold : ∀ i, 1 ≤ i → i ≤ N → vbSet vb (N + 1) b i = vb i := fun i _ h2 => if_neg (by omega)
  have hnew : vbSet vb (N + 1) b (N + 1) = b := if_pos rfl
  have hinj : ∀ i j, 1 ≤ i → i ≤ N + 1 → 1 ≤ j → j ≤ N + 1 → vbSet vb (N + 1) b i = vbSet vb (N + 1) b j → i = j := fun i j i1 i2 j1 j2 e => by
    by_cases hi : i = N + 1
    · by_cases hj : j = N + 1
      · omega
      · subst hi
        rw [hnew, hold j j1 (by omega)] at e
        have := hvlt j j1 (by omega)
        omega
    · by_cases hj : j = N + 1
      · subst hj
        rw [hnew, hold i i1 (by omega)] at e
        have := hvlt i i1 (by omega)
        omega
      · rw [hold i i1 (by omega), hold j j1 (by omega)] at e
        exact h.inj i j i1 (by omega) j1 (by omega) e
  refine ⟨owns_stay ho fun v z hz => verE_more (by omega) hold hinj hz, ?_⟩
  unfold verE
  have := verIdx_at (vb := vbSet vb (N + 1) b) (N := N + 1) (i := N + 1) (by omega) (by omega) (fun j j1 j2 e => hinj j (N + 1) j1 j2 (by omega) (by omega) e)
  rw [hnew] at this
  rw [this]
  rfl
theorem filter_loaded (hh : ∀ i ∈ S, hd i ≠ 0) (hl : ∀ i ∈ S, 1 ≤ i ∧ i ≤ N) : (S ++ [N + 1]).filter (stays (vbSet hd (N + 1) 0) (N + 1)) = S ++ [N + 1] := by
  rw [List.filter_eq_self]
  intro i hi
  unfold stays
  rcases List.mem_append.1 hi with hi | hi
  · have h1 := hl i hi
    have h2 := hh i hi
    have : vbSet hd (N + 1) 0 i = hd i := if_neg (by omega)
    rw [this]
    simp [h2]
  · simp [List.mem_singleton.1 hi]

set_option maxHeartbeats 4000000 in
set_option maxRecDepth 100000 in
theorem store_load (w : World) (h : StoreAt w B sb mb N S vb hd) (hN : N ≤ 19) (hB : B ≤ w.heap.size) (hh : ∀ i ∈ S, hd i ≠ 0) :
    Calls Tryd.prog 14 #[.pointer (some ⟨sb, 0, none⟩), .slice none 0 0] w fun e w' => e = .returned (.tuple #[.int .i64 ((N : Int) + 1), .nilIface]) ∧
      (∃ b, StoreAt w' B sb mb (N + 1) (S ++ [N + 1]) (vbSet vb (N + 1) b) (vbSet hd (N + 1) 0)) ∧ Below B w w' := by
  have hmm := @run_makeMap Tryd.prog
  obtain ⟨hsb, hmb⟩ := h.lt
  have HH := Lib.hid h
  have HHH := Lib.hid hh
  obtain ⟨es, hown, hE⟩ := h.own
  have HE := Lib.hid hE
  have HOWN := Lib.hid hown
  have HVN := Lib.hid (h.more (b := w.heap.size + 1) (by omega) hown).2
  have c0 := h.c0
  have c1 := h.c1
  have f0 := h.f0
  have hne : sb ≠ mb := h.base.2.2
  clear h hh hown hE
  go_enter Tryd.func14, Tryd.ntmps14
  go_wp2_with fail
  obtain ⟨wa, hwa⟩ : ∃ wa, wa = (w.alloc (.map #[] 0)).alloc (.cells #[.map (some w.heap.size), .int .i64 0] 87) := ⟨_, rfl⟩
  have hba : Below w.heap.size w wa := by rw [hwa]; exact ((Below.refl _ _).alloc (Nat.le_refl _) _).alloc (by simp) _
  have a0 : wa.cell? ⟨sb, 0, none⟩ = some (.int .i64 N) := carry hba c0
  have a1 : wa.cell? ⟨sb, 1, none⟩ = some (.map (some mb)) := carry hba c1
  have af : wa.frozen? ⟨sb, 0, none⟩ = false := (Below.frozen hba (p := ⟨sb, 0, none⟩) hsb).trans f0
  have v1 : wa.cell? ⟨w.heap.size + 1, 1, none⟩ = some (.int .i64 0) := by rw [hwa]; go_simp
  have vf : wa.frozen? ⟨w.heap.size + 1, 1, none⟩ = false := by rw [hwa]; go_simp
  rw [← hwa]
  have HBA := Lib.hid hba
  clear hba hwa c0 c1 f0
  go_loop [21] (fun i => i = .int .i64 0) (fun _ => 0)
  case atStart => rfl
  case round =>
    subst hrel
    obtain ⟨wm, hwm⟩ : ∃ wm, wm = wa.setCell ⟨sb, 0, none⟩ (.int .i64 ((N : Int) + 1)) := ⟨_, rfl⟩
    have hofm : Off [sb] wa wm := by rw [hwm]; exact (Off.refl _ _).setCell _ _ (by simp)
    have m0 : wm.cell? ⟨sb, 0, none⟩ = some (.int .i64 ((N : Int) + 1)) := by rw [hwm]; exact cell_same a0
    have m1 : wm.cell? ⟨sb, 1, none⟩ = some (.map (some mb)) := by rw [hwm]; exact cell_other a1 (by simp)
    have mf : wm.frozen? ⟨sb, 0, none⟩ = false := by rw [hwm]; go_simp
    have mv1 := hofm.cell v1 (by simp; omega)
    have mvf := (hofm.frozen (o := 1) (lt_of_cell v1) (by simp; omega)).trans vf
    have HOM := Lib.hid hofm
    have HOW : Hid (wm.ownsMap Tryd.prog 3 (verE (vbSet vb (N + 1) (w.heap.size + 1)) (N + 1)) mb N (.map es)) := Lib.hid (HH.out.more (b := w.heap.size + 1) (by omega) (owns_block HOWN.out ((hofm.block mb (by have := HBA.out.size; omega) (by simp; omega)).trans (HBA.out.block mb hmb)))).1
    have HM := Lib.hid (And.intro m0 (And.intro m1 (And.intro mf (And.intro mv1 mvf))))
    have n1 : (N : Int) + 1 ≤ 1000 := by omega
    have n2 : (0 : Int) ≤ (N : Int) := by omega
    go_wp2_with fail
    rw [← hwm]
    clear hwm hofm a0 a1 af v1 vf
    have l0 : ({ heap := wm.heap, tape := wm.tape, drawn := wm.drawn + 1, os := wm.os, output := wm.output } : World).cell? ⟨sb, 0, none⟩ = some (.int .i64 ((N : Int) + 1)) := m0
    have l1 : ({ heap := wm.heap, tape := wm.tape, drawn := wm.drawn + 1, os := wm.os, output := wm.output } : World).cell? ⟨sb, 1, none⟩ = some (.map (some mb)) := m1
    go_still_tail 9, (by kernel_rfl)
    change wpList _ _ _ _ _ wm.drew
    have key1 : keyOf Tryd.prog 3 (.int .i64 ((N : Int) + 1)) = some (keyI (N + 1)) := by have := natKey (N + 1) (by omega); push_cast at this; exact this
    have HKEY := Lib.hid key1
    clear key1 l0 l1 m0 m1 mf mv1 mvf
    go_wp2_with (at_mapUpdate; refine wpList_mapUpdate_own _ rfl _ _ _ 80 rfl 3 84 (int_keyed Tryd.underlying3) Tryd.underlying80 (verE (vbSet vb (N + 1) (w.heap.size + 1)) (N + 1)) mb N (.map es) rfl (HOW.out.drew) (by unfold maxLen; omega) _ _ _ rfl rfl HKEY.out (.held (ptrV (w.heap.size + 1))) [] HVN.out ?_; intro wl ho hg)
    have hL := HH.out.loaded (wm := wm.drew) (wl := wl) (b := w.heap.size + 1) hN (fun k hk hne => (HOM.out.block k (by have := HBA.out.size; omega) (by simpa using hne)).trans (HBA.out.block k hk)) (by omega) hB HM.out.1 HM.out.2.1 HM.out.2.2.1 HM.out.2.2.2.1 HM.out.2.2.2.2 HE.out ho hg
    have HL := Lib.hid hL
    have hbl : Below B w wl := ⟨hg.os.trans (HOM.out.os.trans HBA.out.os), hg.tape.trans (HOM.out.tape.trans HBA.out.tape), hg.output.trans (HOM.out.output.trans HBA.out.output), by have h1 := hg.size; have h2 := HOM.out.size; have h3 := HBA.out.size; simp at h1; omega, fun k hk => by
      have hbs := HH.out.base
      have h3 := HBA.out.size
      have h2 := HOM.out.size
      refine (hg.block k (by simp; omega) (fun e => by have := Option.some.inj e; omega)).trans ?_
      exact (HOM.out.block k (by omega) (by simp; omega)).trans (HBA.out.block k (by omega))⟩
    have HBL := Lib.hid hbl
    clear hL hbl ho hg
    go_wp2_with fail
    refine (store_clean wl HL.out).mono ?_
    rintro e w2 ⟨rfl, hS2, _, hb2⟩
    rw [filter_loaded HHH.out HH.out.le] at hS2
    have c2 := hS2.c0
    push_cast at c2
    have HS2 := Lib.hid hS2
    have HB2 := Lib.hid (HBL.out.trans hb2)
    clear hS2 hb2
    go_wp2_with fail
    go_ret2
    exact ⟨rfl, ⟨_, HS2.out⟩, HB2.out⟩
end Go.Proofs.YtkklemhhimcahaaDoor
