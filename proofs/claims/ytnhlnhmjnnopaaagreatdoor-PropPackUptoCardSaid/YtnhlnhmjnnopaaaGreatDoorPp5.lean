/- RevBase, Cat: texts put together. -/
import Derived.Test.YtnhlnhmjnnopaaaGreatDoorPp2
import Derived.Laws.IdiomCopy
import Derived.Lib.RowBridge
set_option linter.unusedVariables false
set_option linter.unusedSimpArgs false
/- What walks over rows of texts share. -/
namespace Go.Proofs.YtnhlnhmjnnopaaaGreatDoor
open Go.RowKit

theorem below_setCells {B : Nat} {a : World} {b : Nat} (hb : B ≤ b) : ∀ (vs : List Value) (o : Nat) (w : World), Below B a w → Below B a (w.setCells b o vs)
  | [], _, _, h => h
  | v :: r, o, w, h => below_setCells hb r (o + 1) _ (bel_set h hb)
end Go.Proofs.YtnhlnhmjnnopaaaGreatDoor

/- slices.Grow at nil, slices.Concat of two rows of texts, slices.DeleteFunc of the empty ones. -/
namespace Go.Proofs.YtnhlnhmjnnopaaaGreatDoor
open Go.RowKit Go.Sort

theorem zc_size (z : Value) (n : Nat) (hz : z.cells.size = 1) : (Builtin.zeroCells z.cells n).size = n := by
  have : ∀ k, (Builtin.zeroCells z.cells k).size = k * z.cells.size := by
    intro k
    unfold Builtin.zeroCells
    induction k with
    | zero => simp
    | succ k ih => simp_all [Nat.succ_mul]
  rw [this, hz, Nat.mul_one]

/-- slices.Grow(nil, n): an empty row of one's own. -/
theorem grow_nil (n : Nat) (w : World) (hn : 0 < n) (hb : n ≤ 1000000) :
    Calls Tryz.prog 128 #[.slice none 0 0, .int .i64 n] w fun e w' => ∃ c, e = .returned (.slice (some ⟨w.heap.size, 0, none⟩) 0 c) ∧ OwnsS w' w.heap.size (.slice (some ⟨w.heap.size, 0, none⟩) 0 c) [] ∧ Below w.heap.size w w' := by
  obtain ⟨i, hi, hz, hsz, hby⟩ := infoStr
  have h := Any8.slices_Grow_grow Tryz.growS i (.string ⟨#[]⟩) hi hz (by omega) none 0 0 n [] w (Nat.le_refl _) (by omega) (by rw [hby]; omega) (by omega) (by simp) (fun _ => rfl) (fun a h => by cases h)
  refine h.mono ?_
  rintro e w' ⟨rfl, rfl⟩
  refine ⟨_, rfl, ?_, ((Below.refl _ _).drew).alloc (Nat.le_refl _) _⟩
  have hg := grownCap_ge w (0 + n) 0 9
  have hm := grownCap_le_maxLen w (0 + n) 0 9 (by simp [maxLen]; omega)
  refine ⟨rfl, .inr ⟨_, _, _, rfl, Nat.le_refl _, heap_alloc_new w.drew _, Nat.zero_le _, hm, ?_, by simp⟩⟩
  rw [Array.size_append, Array.size_append, zc_size _ _ rfl, zc_size _ _ rfl]
  show 0 + (0 + n - 0) + (grownCap w (0 + n) 0 9 - (0 + n)) = grownCap w (0 + n) 0 9 * 1
  omega

set_option maxHeartbeats 2000000 in
theorem concat2 (q : Nat) (A1 A2 : Option Addr) (c1 c2 : Nat) (xs ys : List ByteArray) (w : World) (h0 : w.cell? ⟨q, 0, none⟩ = some (.slice A1 xs.length c1)) (h1 : w.cell? ⟨q, 1, none⟩ = some (.slice A2 ys.length c2))
    (hx : StrsIn w A1 xs) (hy : StrsIn w A2 ys) (hA1 : A1 = none → c1 = 0) (hA2 : A2 = none → c2 = 0) (hp : 0 < xs.length) (hn : xs.length + ys.length ≤ 1000000) (c : Nat) :
    Calls Tryz.prog 87 #[.slice (some ⟨q, 0, none⟩) 2 c] w fun e w' => ∃ v, e = .returned v ∧ OwnsS w' w.heap.size v (xs ++ ys) ∧ Below w.heap.size w w' := by
  have HX := Lib.hid hx
  have HY := Lib.hid hy
  have HA1 := Lib.hid hA1
  have HA2 := Lib.hid hA2
  clear hx hy hA1 hA2
  go_enter Tryz.func87, Tryz.ntmps87
  go_wp2_with fail
  refine wp_loop_rounds 3 ?_
  rw [rounds_succ]
  go_wp2_with fail
  rw [rounds_succ]
  go_wp2_with fail
  rw [rounds_succ]
  go_wp2_with fail
  have hgr := grow_nil (xs.length + ys.length) w (by omega) hn
  simp only [Int.natCast_add] at hgr
  refine hgr.mono ?_
  clear hgr
  rintro e w1 ⟨cg, rfl, ho, hb1⟩
  have s1 := hb1.size
  have g0 := carry hb1 h0
  have g1 := carry hb1 h1
  have q0 := lt_of_cell h0
  have HO := Lib.hid ho
  have HX1 := Lib.hid (HX.out.below hb1)
  clear ho HX
  go_wp2_with fail
  refine wp_loop_rounds 3 ?_
  rw [rounds_succ]
  go_wp2_with (at_builtin; refine wpList_append_many rfl _ _ rfl (ys := xs) rfl rfl HO.out HX1.out HA1.out s1 (by simp; omega) ?_; intro v2 w2 ho2 hf2)
  have hb2 : Below w.heap.size w w2 := hb1.trans (OwnsS.grown HO.out hf2 s1)
  have s2 := hb2.size
  have k0 := carry hb2 h0
  have k1 := carry hb2 h1
  have HO2 := Lib.hid ho2
  have HY2 := Lib.hid (HY.out.below hb2)
  have HB2 := Lib.hid hb2
  obtain ⟨A3, c3, rfl, _, _, _⟩ := ho2.form
  clear ho2 hf2 HY hb2
  rw [rounds_succ]
  go_wp2_with (at_builtin; refine wpList_append_many rfl _ _ rfl (ys := ys) rfl rfl HO2.out HY2.out HA2.out s2 (by simp; omega) ?_; intro v3 w3 ho3 hf3)
  have hb3 : Below w.heap.size w w3 := HB2.out.trans (OwnsS.grown HO2.out hf3 s2)
  have m0 := carry hb3 h0
  have m1 := carry hb3 h1
  rw [rounds_succ]
  have HO3 := Lib.hid ho3
  have HB3 := Lib.hid hb3
  clear ho3 hf3 hb3
  go_wp2_with fail
  go_ret
  exact ⟨v3, rfl, by simpa using HO3.out, HB3.out⟩

theorem text_empty (s : ByteArray) (w : World) : Calls Tryz.prog 90 #[.string s] w fun e w' => e = .returned (.bool s.data.toList.isEmpty) ∧ ∃ q, w' = w.drewN q := by
  go_enter Tryz.func90, Tryz.ntmps90
  go_wp2_with fail
  go_ret
  exact ⟨ret_bool (by rw [Lib.toList_data]; first | done | rfl), 0, rfl⟩

/-- slices.DeleteFunc of the empty ones, of a row of one's own. -/
theorem del_empty {A : Option Addr} {c base : Nat} {xs : List ByteArray} (n : Nat) (w : World) (hn : n = xs.length) (h : OwnsS w base (.slice A n c) xs) (hp : 0 < n) (hB : base ≤ w.heap.size) :
    Calls Tryz.prog 89 #[.slice A n c, .func (.func 90) #[] #[]] w fun e w' =>
      e = .returned (.slice A (xs.filter (fun x => !x.data.toList.isEmpty)).length c) ∧ StrsIn w' A (xs.filter (fun x => !x.data.toList.isEmpty)) ∧ Below base w w' := by
  subst hn
  have hcap := h.cap.2
  have hs := h.strs
  have h9 : c ≤ 9223372036854775807 := by
    rcases h.2 with ⟨h1, h2⟩ | ⟨g, cap, cur, h1, h3, h4, _, h6, _⟩
    · omega
    · cases h1; simpa [maxLen] using h6
  rcases h.2 with ⟨h1, h2⟩ | ⟨g, cap, cur, h1, h3, h4, _⟩
  · omega
  · cases h1
    have hcell : ∀ (j : Nat) x, xs[j]? = some x → w.cell? ⟨g, 0 + j, none⟩ = some (.string x) := by
      rcases hs with h | ⟨bk, o, e, hc⟩
      · rw [h] at hp; simp at hp
      · cases e; exact hc
    have hH : Holds Value.string w g 0 xs.toArray := fun j hj => by
      have hj' : j < xs.length := by simpa using hj
      refine ⟨?_, by simp [World.frozen?, h4]⟩
      rw [hcell j xs[j] (List.getElem?_eq_getElem hj'), getElem!_pos xs.toArray j hj]
      rfl
    have eg : ∀ args w, (callFunc 90 args).run Tryz.prog w = .ok (.enter 90 args) w := enters_of Tryz.func90 (by kernel_rfl) rfl
    have hcon := AnyE.slices_DeleteFunc Tryz.delS Value.string (fun _ => rfl) (fun x : ByteArray => x.data.toList.isEmpty) 90 #[] eg ⟨#[]⟩ Tryz.zeroValue9 g 0 c xs.toArray w
      (fun W x _ => text_empty x W) (fun n os dk x _ => text_empty x _) hH (by simp; omega) (by simpa using hcap)
    have e0 : xs.toArray.size = xs.length := by simp
    have e1 : xs.toArray.toList = xs := rfl
    rw [e0, e1] at hcon
    refine Calls.mono hcon ?_
    rintro e w' ⟨rfl, q, rfl⟩
    have hfl : (xs.filter (fun x => !x.data.toList.isEmpty)).length ≤ xs.length := List.length_filter_le _ _
    generalize xs.filter (fun x => !x.data.toList.isEmpty) = ys at *
    rw [Lib.putRow_eq_setCells Value.string w g 0 xs.toArray _ q hH (by simp; omega)]
    refine ⟨rfl, .inr ⟨g, 0, rfl, fun j x hx => ?_⟩, below_setCells h3 _ _ _ (bel_drewN q (Below.refl _ _))⟩
    have hj : j < ys.length := (List.getElem?_eq_some_iff.1 hx).1
    rw [World.cell?_setCells_in g _ 0 _ (fun i hi => by
      have hi' : i < xs.length := by simp at hi; omega
      have : (w.drewN q).cell? ⟨g, 0 + i, none⟩ = w.cell? ⟨g, 0 + i, none⟩ := rfl
      rw [this, hcell i xs[i] (List.getElem?_eq_getElem hi')]; rfl) j (by simp; omega)]
    congr 1
    rw [List.getElem_map, List.getElem_append_left hj]
    rw [(List.getElem?_eq_some_iff.1 hx).2]
end Go.Proofs.YtnhlnhmjnnopaaaGreatDoor
