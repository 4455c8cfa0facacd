/- StoreOps: texts put together. -/
import Derived.Test.YtplaohmdllindaaGreatDoorQn40
import Derived.Deep.DrawnRows
set_option linter.unusedVariables false
set_option linter.unusedSimpArgs false
/- store: New, Load of nothing, Pin, Free. -/
namespace Go.Proofs.YtplaohmdllindaaGreatDoor
open Go.RowKit Go.Maps
attribute [local go_sem ↓] Go.wp_at_zero Go.wp_at_succ
variable {w w' : World} {B sb mb N : Nat} {S : List Nat} {vb hd : Nat → Nat}

set_option maxHeartbeats 1000000 in
theorem store_new (w : World) :
    Calls Tryz.prog 51 #[] w fun e w' => e = .returned (.pointer (some ⟨w.heap.size + 1, 0, none⟩)) ∧ StoreAt w' w.heap.size (w.heap.size + 1) w.heap.size 0 [] (fun _ => 0) (fun _ => 0) ∧ Below w.heap.size w w' := by
  have hmm := @run_makeMap Tryz.prog
  go_enter Tryz.func51, Tryz.ntmps51
  go_wp2
  go_ret
  refine ⟨rfl, ⟨by go_simp, by go_simp, by go_simp, ⟨[], ?_, fun p => by simp⟩, List.nodup_nil, by simp, fun i h1 h2 => by omega, fun i j h1 h2 => by omega, ⟨by omega, by omega, by omega⟩, by omega⟩, ((Below.refl _ _).alloc (Nat.le_refl _) _).alloc (by simp) _⟩
  exact (World.ownsMap_made w Tryz.prog 3 (verE (fun _ => 0) 0)).alloc _

theorem owns_stay {P : Program} {k : TypeId} {R R' : Value → Option (SD × List MemPlace)} {b n : Nat} {D : SD} (h : w.ownsMap P k R b n D) (hs : ∀ v z, R v = some z → R' v = some z) : w.ownsMap P k R' b n D := by
  obtain ⟨es, clock, h1, F, h3, h4⟩ := h
  obtain ⟨F1, hmap, _⟩ := F.stay (R' := R') (fun x _ z hz => hs x.val z hz)
  exact ⟨es, clock, h1, F1, h3, by rw [hmap]; exact h4⟩
theorem verE_more {vb vb' : Nat → Nat} {N N' : Nat} (hN : N ≤ N') (hv : ∀ i, 1 ≤ i → i ≤ N → vb' i = vb i) (hinj : ∀ i j, 1 ≤ i → i ≤ N' → 1 ≤ j → j ≤ N' → vb' i = vb' j → i = j) {v : Value} {z : SD × List MemPlace} (h : verE vb N v = some z) : verE vb' N' v = some z := by
  obtain ⟨rfl, i, h1, h2, rfl, _⟩ := verE_some h
  unfold verE
  rw [show vb i = vb' i from (hv i h1 h2).symm, verIdx_at h1 (by omega) (fun j j1 j2 e => hinj j i j1 j2 h1 (by omega) e)]
  rfl
/-- the version that is loaded now, at b -/
def vbSet (vb : Nat → Nat) (i b : Nat) : Nat → Nat := fun j => if j = i then b else vb j
/-- loaded, and not cleaned yet -/
theorem StoreAt.loaded {wm wl : World} {b : Nat} (h : StoreAt w B sb mb N S vb hd) (hN : N ≤ 19)
    (hl : ∀ k, k < w.heap.size → k ≠ sb → wm.heap[k]? = w.heap[k]?) (hsz : w.heap.size ≤ b) (hB : B ≤ w.heap.size)
    (c0 : wm.cell? ⟨sb, 0, none⟩ = some (.int .i64 ((N : Int) + 1))) (c1 : wm.cell? ⟨sb, 1, none⟩ = some (.map (some mb))) (f0 : wm.frozen? ⟨sb, 0, none⟩ = false)
    (v1 : wm.cell? ⟨b, 1, none⟩ = some (.int .i64 0)) (vf : wm.frozen? ⟨b, 1, none⟩ = false) {es : List (Lit × SD)} (hE : Ent es S vb)
    (ho : wl.ownsMap Tryz.prog 3 (verE (vbSet vb (N + 1) b) (N + 1)) mb (N + 1) ((DataW.map es).put (keyI (N + 1)) (.held (ptrV b)))) (hg : wm.grownBy wl (some mb)) :
    StoreAt wl B sb mb (N + 1) (S ++ [N + 1]) (vbSet vb (N + 1) b) (vbSet hd (N + 1) 0) := by
  obtain ⟨hsb, hmb⟩ := h.lt
  have hns : N + 1 ∉ S := fun e => by have := h.le _ e; omega
  have hmlt := lt_of_cell v1
  have hgc : ∀ b' o v, b' ≠ mb → wm.cell? ⟨b', o, none⟩ = some v → wl.cell? ⟨b', o, none⟩ = some v := fun b' o v hne hv => hg.cell hv (fun e => hne (Option.some.inj e))
  have hgf : ∀ b' o v, b' ≠ mb → wm.cell? ⟨b', o, none⟩ = some v → wl.frozen? ⟨b', o, none⟩ = wm.frozen? ⟨b', o, none⟩ := fun b' o v hne hv => by
    have hlt := lt_of_cell hv
    simp only [World.frozen?, hg.block b' hlt (fun e => hne (Option.some.inj e))]
  have hbm : b ≠ mb := by omega
  obtain ⟨es', he', hE'⟩ := hE.put (b := b) hns
  rw [he'] at ho
  have hold : ∀ i, 1 ≤ i → i ≤ N → vbSet vb (N + 1) b i = vb i ∧ vbSet hd (N + 1) 0 i = hd i := fun i _ h2 => ⟨if_neg (by omega), if_neg (by omega)⟩
  have hnew : vbSet vb (N + 1) b (N + 1) = b ∧ vbSet hd (N + 1) 0 (N + 1) = 0 := ⟨if_pos rfl, if_pos rfl⟩
  have hvlt : ∀ i, 1 ≤ i → i ≤ N → vb i < w.heap.size := fun i h1 h2 => lt_of_cell (h.ver i h1 h2).1
  refine ⟨?_, hgc _ _ _ h.base.2.2 c1, (hgf _ _ _ h.base.2.2 c0).trans f0, ⟨es', ho, hE'⟩, ?_, fun i hi => ?_, fun i h1 h2 => ?_, fun i j i1 i2 j1 j2 e => ?_, h.base, by omega⟩
  · rw [hgc _ _ _ h.base.2.2 c0]; simp
  · exact List.nodup_append.2 ⟨h.nd, by simp, fun x hx y hy e => hns (by rw [List.mem_singleton.1 hy] at e; exact e ▸ hx)⟩
  · rcases List.mem_append.1 hi with hi | hi
    · have := h.le i hi; omega
    · have := List.mem_singleton.1 hi; omega
  · by_cases hi : i = N + 1
    · subst hi
      rw [hnew.1, hnew.2]
      exact ⟨hgc _ _ _ hbm v1, (hgf _ _ _ hbm v1).trans vf, by omega, hbm, by omega⟩
    · have h2' : i ≤ N := by omega
      rw [(hold i h1 h2').1, (hold i h1 h2').2]
      obtain ⟨a1, a2, a3, a4, a5⟩ := h.ver i h1 h2'
      have hlt := hvlt i h1 h2'
      have a1' : wm.cell? ⟨vb i, 1, none⟩ = some (.int .i64 (hd i)) := by rw [← a1]; simp only [World.cell?, hl _ hlt a3]
      have a2' : wm.frozen? ⟨vb i, 1, none⟩ = false := by rw [← a2]; simp only [World.frozen?, hl _ hlt a3]
      exact ⟨hgc _ _ _ a4 a1', (hgf _ _ _ a4 a1').trans a2', a3, a4, a5⟩
  · by_cases hi : i = N + 1
    · by_cases hj : j = N + 1
      · omega
      · subst hi
        rw [hnew.1, (hold j j1 (by omega)).1] at e
        have := hvlt j j1 (by omega)
        omega
    · by_cases hj : j = N + 1
      · subst hj
        rw [hnew.1, (hold i i1 (by omega)).1] at e
        have := hvlt i i1 (by omega)
        omega
      · rw [(hold i i1 (by omega)).1, (hold j j1 (by omega)).1] at e
        exact h.inj i j i1 (by omega) j1 (by omega) e

theorem StoreAt.more {b : Nat} (h : StoreAt w B sb mb N S vb hd) (hb : w.heap.size ≤ b) {W : World} {n : Nat} {D : SD} (ho : W.ownsMap Tryz.prog 3 (verE vb N) mb n D) :
    W.ownsMap Tryz.prog 3 (verE (vbSet vb (N + 1) b) (N + 1)) mb n D ∧ verE (vbSet vb (N + 1) b) (N + 1) (ptrV b) = some (.held (ptrV b), []) := by
  have hvlt : ∀ i, 1 ≤ i → i ≤ N → vb i < w.heap.size := fun i h1 h2 => lt_of_cell (h.ver i h1 h2).1
  have hold : ∀ i, 1 ≤ i → i ≤ N → vbSet vb (N + 1) b i = vb i := fun i _ h2 => if_neg (by omega)
  have hnew : vbSet vb (N + 1) b (N + 1) = b := if_pos rfl
  have hinj : ∀ i j, 1 ≤ i → i ≤ N + 1 → 1 ≤ j → j ≤ N + 1 → vbSet vb (N + 1) b i = vbSet vb (N + 1) b j → i = j := fun i j i1 i2 j1 j2 e => by
    by_cases hi : i = N + 1
    · by_cases hj : j = N + 1
      · omega
      · subst hi
        rw [hnew, hold j j1 (by omega)] at e
        have := hvlt j j1 (by omega)
        omega
    · by_cases hj : j = N + 1
      · subst hj
        rw [hnew, hold i i1 (by omega)] at e
        have := hvlt i i1 (by omega)
        omega
      · rw [hold i i1 (by omega), hold j j1 (by omega)] at e
        exact h.inj i j i1 (by omega) j1 (by omega) e
  refine ⟨owns_stay ho fun v z hz => verE_more (by omega) hold hinj hz, ?_⟩
  unfold verE
  have := verIdx_at (vb := vbSet vb (N + 1) b) (N := N + 1) (i := N + 1) (by omega) (by omega) (fun j j1 j2 e => hinj j (N + 1) j1 j2 (by omega) (by omega) e)
  rw [hnew] at this
  rw [this]
  rfl
theorem filter_loaded (hh : ∀ i ∈ S, hd i ≠ 0) (hl : ∀ i ∈ S, 1 ≤ i ∧ i ≤ N) : (S ++ [N + 1]).filter (stays (vbSet hd (N + 1) 0) (N + 1)) = S ++ [N + 1] := by
  rw [List.filter_eq_self]
  intro i hi
  unfold stays
  rcases List.mem_append.1 hi with hi | hi
  · have h1 := hl i hi
    have h2 := hh i hi
    have : vbSet hd (N + 1) 0 i = hd i := if_neg (by omega)
    rw [this]
    simp [h2]
  · simp [List.mem_singleton.1 hi]

end Go.Proofs.YtplaohmdllindaaGreatDoor
