/- RefSorted: texts put together. -/
import Derived.Test.YtnhlnhmjnnopaaaGreatDoorPp2
import Derived.Test.YtnhlnhmjnnopaaaGreatDoorPp23
import Derived.BigQuiet
import Derived.WalkLawsBesides
set_option linter.unusedVariables false
set_option linter.unusedSimpArgs false
/- ref2.Sorted. -/
namespace Go.Proofs.YtnhlnhmjnnopaaaGreatDoor
open Go.RowKit

def accP (es : List EntC) (j : Nat) : List EntC := (es.take j).foldl (fun out e => insE e out) []
theorem accP_succ {es : List EntC} {j : Nat} {x : EntC} (h : es[j]? = some x) : accP es (j + 1) = insE x (accP es j) := by
  unfold accP
  rw [List.take_add_one, h, List.foldl_append]
  rfl
theorem accP_all (es : List EntC) : accP es es.length = sortedP es := by unfold accP sortedP; rw [List.take_length]
theorem accP_len (es : List EntC) (j : Nat) (h : j ≤ es.length) : (accP es j).length = j := by
  unfold accP
  have := (fold_perm (es.take j) []).length_eq
  rw [List.nil_append, List.length_take] at this
  omega
/-- an entry is put in behind those that are less -/
theorem ins_at (e : EntC) : ∀ (l : List EntC) (k : Nat), k ≤ l.length → (∀ x ∈ l.take k, cmpE x e < 0) → (∀ x, l[k]? = some x → ¬ cmpE x e < 0) → insE e l = l.take k ++ e :: l.drop k
  | [], 0, _, _, _ => rfl
  | x :: r, 0, _, _, h => by
    unfold insE
    rw [if_neg (h x rfl)]
    rfl
  | x :: r, k + 1, hk, h1, h2 => by
    unfold insE
    rw [if_pos (h1 x (by simp)), ins_at e r k (by simpa using hk) (fun y hy => h1 y (by simp [hy])) (fun y hy => h2 y (by simpa using hy))]
    rfl
/-- a part of a row lies there -/
theorem part_lies {w : World} {base g n c : Nat} {ts : List EntC} (hO : OwnsG kEnt w base (.slice (some ⟨g, 0, none⟩) n c) ts) (k m : Nat) : LiesG kEnt w (some ⟨g, k * 2, none⟩) ((ts.drop k).take m) := by
  refine .inr ⟨g, k * 2, rfl, fun j t i u ht hu => ?_⟩
  have h1 : ts[k + j]? = some t := by
    rw [← List.getElem?_drop]
    rw [List.getElem?_take] at ht
    split at ht
    · exact ht
    · cases ht
  have := hO.cells h1 hu
  rw [show k * 2 + j * kEnt.size + i = (k + j) * kEnt.size + i by show k * 2 + j * 2 + i = (k + j) * 2 + i; omega]
  exact this
theorem meas_dn2 {j n : Nat} (h : j < n) : n - (intOf (Value.int .i64 ((j : Int) + 1))).toNat < n - (intOf (Value.int .i64 (j : Int))).toNat := by simp only [intOf]; omega
set_option maxHeartbeats 8000000 in
set_option maxRecDepth 100000 in
theorem ref_sorted (es : List EntC) (A : Option Addr) (c : Nat) (w : World) (hE : EntsIn w A es) (hc : es.length ≤ c) (hc2 : c ≤ 9223372036854775807) (hn : es.length ≤ 1000) :
    Calls Tryz.prog 12 #[.slice A es.length c] w fun e w' => ∃ v, e = .returned v ∧ OwnsG kEnt w' w.heap.size v (sortedP es) ∧ Below w.heap.size w w' := by
  have HE := Lib.hid hE
  clear hE
  go_enter Tryz.func12, Tryz.ntmps12
  go_wp2_with fail
  go_loopw [3, 4] (fun o i wr => ∃ (j : Nat), j ≤ es.length ∧ i = .int .i64 j ∧ Hid (OwnsG kEnt wr w.heap.size o (accP es j)) ∧ Hid (Below w.heap.size w wr)) (fun _ i _ => es.length - (intOf i).toNat)
  case atStart => exact ⟨0, Nat.zero_le _, rfl, Lib.hid (OwnsG.nil _ _), Lib.hid (Below.refl _ _)⟩
  case round =>
    obtain ⟨j, hj, rfl, HO, HB⟩ := hrel
    by_cases hlt : j < es.length
    · obtain ⟨g, o, rfl, hat⟩ := (HE.out.below HB.out).at (by omega)
      obtain ⟨x, hx⟩ : ∃ x, es[j]? = some x := ⟨_, List.getElem?_eq_getElem hlt⟩
      obtain ⟨x0, x1⟩ := hat j x hx
      have hsucc := accP_succ hx
      have hal := accP_len es j (Nat.le_of_lt hlt)
      obtain ⟨acc, hacc⟩ : ∃ acc, acc = accP es j := ⟨_, rfl⟩
      rw [← hacc] at HO hsucc hal
      have HSU := Lib.hid hsucc
      have hal2 : acc.length ≤ 1000 := by omega
      have i1 : (j : Int) < (es.length : Int) := by omega
      have i2 : (0 : Int) ≤ (j : Int) := by omega
      have i3 : (j : Int) < (c : Int) := by omega
      have hgl := lt_of_cell x0
      obtain ⟨wo, hwo⟩ : ∃ wo : World, wo = wr := ⟨_, rfl⟩
      rw [← hwo] at HO HB x0 x1 hgl ⊢
      clear hwo hat hx hsucc hacc hal wr
      rcases HO.out.2 with ⟨hv, h0⟩ | ⟨g1, c1, cur, hv, _, _, hc11, hc12, _⟩
      · subst hv
        have hac : acc = [] := List.length_eq_zero_iff.1 h0
        have HAC := Lib.hid hac
        clear hac
        go_wp2_with fail
        go_loopw [5] (fun i wx => i = .int .i64 0 ∧ Hid (Below wo.heap.size wo wx)) (fun _ _ => 0)
        case atStart => exact ⟨rfl, Lib.hid (Below.refl _ _)⟩
        case round =>
          obtain ⟨rfl, HBW⟩ := hrel
          go_wp2_with fail
          go_quiet (fail)
          have HLS : Hid (∀ y ∈ acc.take 0, cmpE y x < 0) := Lib.hid (fun y hy => by simp at hy)
          have HNX : Hid (∀ z, acc[0]? = some z → 0 ≤ cmpE z x) := Lib.hid (fun z hz => by rw [HAC.out] at hz; cases hz)
          refine id ?_
          obtain ⟨W1, hW1⟩ : ∃ W1, W1 = wr.drewN nq := ⟨_, rfl⟩
          have b1 : Below wo.heap.size wo W1 := by rw [hW1]; exact bel_drewN nq HBW.out
          rw [← hW1]
          have HB1 := Lib.hid b1
          have hO1 := HO.out.below b1
          have HY : Hid (LiesG kEnt W1 (none) (acc.take 0)) := Lib.hid (.inl rfl)
          have HZ : Hid (LiesG kEnt W1 (none) (acc.drop 0)) := Lib.hid (.inl (by rw [HAC.out]; rfl))
          have HLK : Hid ((acc.take 0).length = 0) := Lib.hid (by rw [List.length_take]; omega)
          have HLD : Hid ((acc.drop 0).length = 0) := Lib.hid (by rw [List.length_drop]; try omega)
          have u0 := carry b1 x0
          have u1 := carry b1 x1
          have ul := lt_of_cell u0
          have HI : Hid (insE x acc = acc.take 0 ++ x :: acc.drop 0) := Lib.hid (ins_at x acc 0 (by omega) HLS.out (fun z hz => by have := HNX.out z hz; omega))
          have HL1 : Hid ((([] : List EntC).length + (acc.take 0).length) * kEnt.bytes ≤ 140737488355328) := Lib.hid (by rw [HLK.out]; show (0 + 0) * 32 ≤ _; omega)
          have HL2 : Hid (([] : List EntC).length + (acc.take 0).length ≤ 9223372036854775807) := Lib.hid (by rw [HLK.out]; show 0 + 0 ≤ _; omega)
          clear b1 hO1 hW1
          go_upto_region 10 with (at_builtin; refine wpList_append_manyG (k := kEnt) (base := W1.heap.size) (ts := []) (ys := acc.take 0) (A := none) (c := 0) rfl _ _ rfl rfl (by rw [HLK.out]; rfl) (OwnsG.nil _ _) HY.out (by intro h; first | rfl | cases h) (Nat.le_refl _) HL1.out HL2.out ?_; intro v1 w1 ho1 hoff1; replace hoff1 : Off [] W1 w1 := hoff1; have HO1 := Lib.hid ho1; have HF1 : Hid (Below W1.heap.size W1 w1) := Lib.hid (hoff1.toBelow (fun k hk => absurd hk List.not_mem_nil) (Nat.le_refl _)); clear ho1 hoff1)
          have z0 := carry HF1.out u0
          have z1 := carry HF1.out u1
          have zl := lt_of_cell z0
          have HO2 : Hid (OwnsG kEnt (w1.alloc (.cells #[.string x.key, .string x.text] 50)) W1.heap.size v1 (acc.take 0)) := Lib.hid (HO1.out.alloc _)
          have HX2 : Hid (∀ i u, (kEnt.cells x)[i]? = some u → (w1.alloc (.cells #[.string x.key, .string x.text] 50)).cell? ⟨w1.heap.size, i, none⟩ = some u) := Lib.hid (fun i u hu => by
            match i, hu with
            | 0, hu => cases hu; go_simp
            | 1, hu => cases hu; go_simp)
          have HS2 : Hid (W1.heap.size ≤ (w1.alloc (.cells #[.string x.key, .string x.text] 50)).heap.size) := Lib.hid (by have := HF1.out.size; simp; omega)
          have HB2 : Hid (Below W1.heap.size W1 (w1.alloc (.cells #[.string x.key, .string x.text] 50))) := Lib.hid (bel_alloc HF1.out HF1.out.size)
          have HL3 : Hid (((acc.take 0).length + 1) * kEnt.bytes ≤ 140737488355328) := Lib.hid (by rw [HLK.out]; show (0 + 1) * 32 ≤ _; omega)
          have HL4 : Hid ((acc.take 0).length + 1 ≤ 9223372036854775807) := Lib.hid (by rw [HLK.out]; omega)
          go_upto_region 11 with (at_builtin; refine wpList_append_gB (k := kEnt) rfl _ _ rfl x rfl rfl HO2.out HX2.out HS2.out HL3.out HL4.out ?_; intro v2 w2 ho2 hoff2 _; have HO3 := Lib.hid ho2; have HF3 : Hid (Below W1.heap.size W1 w2) := Lib.hid (HB2.out.trans (hoff2.toBelow (fun g hg => (HO2.out.block g hg).1) HS2.out)); clear ho2 hoff2)
          have HZ3 := Lib.hid (HZ.out.below HF3.out)
          have HL5 : Hid (((acc.take 0 ++ [x]).length + (acc.drop 0).length) * kEnt.bytes ≤ 140737488355328) := Lib.hid (by rw [List.length_append, HLK.out, HLD.out]; show (0 + 1 + (0)) * 32 ≤ _; omega)
          have HL6 : Hid ((acc.take 0 ++ [x]).length + (acc.drop 0).length ≤ 9223372036854775807) := Lib.hid (by rw [List.length_append, HLK.out, HLD.out]; show 0 + 1 + (0) ≤ _; omega)
          clear z0 z1 zl HO2 HX2 HS2 HB2 HL3 HL4 HL1 HL2
          go_wp2_with (at_builtin; refine wpList_append_manyG (k := kEnt) (base := W1.heap.size) (ts := acc.take 0 ++ [x]) (ys := acc.drop 0) (A := none) (c := 0) rfl _ _ rfl rfl (by rw [HLD.out]; rfl) HO3.out HZ3.out (by intro h; first | rfl | cases h) HF3.out.size HL5.out HL6.out ?_; intro v3 w3 ho3 hoff3; have HO4 := Lib.hid ho3; have HF4 : Hid (Below W1.heap.size W1 w3) := Lib.hid (HF3.out.trans (hoff3.toBelow (fun g hg => (HO3.out.block g hg).1) HF3.out.size)); clear ho3 hoff3)
          exact ⟨⟨j + 1, hlt, by congr 1, Lib.hid (by rw [HSU.out, HI.out]; have h := HO4.out; rw [List.append_assoc] at h; exact h.base (Nat.le_trans HB.out.size HB1.out.size)), Lib.hid (HB.out.trans ((HB1.out.trans (HF4.out.mono HB1.out.size)).mono HB.out.size))⟩, meas_dn2 hlt⟩
      · subst hv
        unfold maxLen at hc12
        go_wp2_with fail
        go_loopw [5] (fun i wx => ∃ k : Nat, k ≤ acc.length ∧ i = .int .i64 k ∧ Hid (∀ y ∈ acc.take k, cmpE y x < 0) ∧ Hid (Below wo.heap.size wo wx)) (fun i _ => acc.length - (intOf i).toNat)
        case atStart => exact ⟨0, Nat.zero_le _, rfl, Lib.hid (fun y hy => by simp at hy), Lib.hid (Below.refl _ _)⟩
        case round =>
          obtain ⟨k, hk, rfl, HLS, HBW⟩ := hrel
          have k0 := carry HBW.out x0
          have k1 := carry HBW.out x1
          have kl := lt_of_cell k0
          by_cases hka : k < acc.length
          · obtain ⟨y, hy⟩ : ∃ y, acc[k]? = some y := ⟨_, List.getElem?_eq_getElem hka⟩
            have y0 : wr.cell? ⟨g1, k * 2, none⟩ = some (.string y.key) := carry HBW.out (HO.out.cells hy (i := 0) rfl)
            have yl := lt_of_cell y0
            have j1 : (k : Int) < (acc.length : Int) := by omega
            have j2 : (0 : Int) ≤ (k : Int) := by omega
            have j3 : (k : Int) < (c1 : Int) := by omega
            have j4 : (k : Int) ≤ (c1 : Int) := by omega
            have j5 : (k : Int) ≤ (acc.length : Int) := by omega
            have j6 : decide ((k : Int) < (acc.length : Int)) = true := decide_eq_true j1
            have HYY := Lib.hid hy
            clear hy
            by_cases hcm : cmpE y x < 0
            · have hbl : Op.bytesLess y.key.toList x.key.toList = true := by rw [Lib.toList_data, Lib.toList_data, less_cmp]; exact decide_eq_true hcm
              have HCM := Lib.hid hcm
              clear hcm
              go_wp2_with fail
              go_quiet (fail)
              go_wp2_with fail
              refine ⟨⟨k + 1, hka, by congr 1, Lib.hid (fun z hz => ?_), Lib.hid (bel_drewN _ HBW.out)⟩, meas_dn2 hka⟩
              rw [List.take_add_one, HYY.out] at hz
              rcases List.mem_append.1 hz with h | h
              · exact HLS.out z h
              · simp at h
                rw [h]
                exact HCM.out
            · have hbl : Op.bytesLess y.key.toList x.key.toList = false := by rw [Lib.toList_data, Lib.toList_data, less_cmp]; exact decide_eq_false hcm
              have HNX : Hid (∀ z, acc[k]? = some z → 0 ≤ cmpE z x) := Lib.hid (fun z hz => by rw [HYY.out] at hz; injection hz with hz; rw [← hz]; omega)
              clear hcm
              have hck : ¬ c1 = k := by omega
              go_wp2_with fail
              go_quiet (fail)
              obtain ⟨W1, hW1⟩ : ∃ W1, W1 = wr.drewN nq := ⟨_, rfl⟩
              have b1 : Below wo.heap.size wo W1 := by rw [hW1]; exact bel_drewN nq HBW.out
              rw [← hW1]
              have HB1 := Lib.hid b1
              have hO1 := HO.out.below b1
              have HY : Hid (LiesG kEnt W1 (some ⟨g1, 0, none⟩) (acc.take k)) := Lib.hid (part_lies hO1 0 k)
              have HZ : Hid (LiesG kEnt W1 (some ⟨g1, k * 2, none⟩) (acc.drop k)) := Lib.hid (by have h := part_lies hO1 k (acc.length - k); rw [List.take_of_length_le (by rw [List.length_drop]; exact Nat.le_refl _)] at h; exact h)
              have HLK : Hid ((acc.take k).length = k) := Lib.hid (by rw [List.length_take]; omega)
              have HLD : Hid ((acc.drop k).length = acc.length - k) := Lib.hid (by rw [List.length_drop]; try omega)
              have u0 := carry b1 x0
              have u1 := carry b1 x1
              have ul := lt_of_cell u0
              have HI : Hid (insE x acc = acc.take k ++ x :: acc.drop k) := Lib.hid (ins_at x acc k (by omega) HLS.out (fun z hz => by have := HNX.out z hz; omega))
              have HL1 : Hid ((([] : List EntC).length + (acc.take k).length) * kEnt.bytes ≤ 140737488355328) := Lib.hid (by rw [HLK.out]; show (0 + k) * 32 ≤ _; omega)
              have HL2 : Hid (([] : List EntC).length + (acc.take k).length ≤ 9223372036854775807) := Lib.hid (by rw [HLK.out]; show 0 + k ≤ _; omega)
              clear b1 hO1 hW1
              go_upto_region 10 with (at_builtin; refine wpList_append_manyG (k := kEnt) (base := W1.heap.size) (ts := []) (ys := acc.take k) (A := some ⟨g1, 0, none⟩) (c := c1) rfl _ _ rfl rfl (by rw [HLK.out]; rfl) (OwnsG.nil _ _) HY.out (by intro h; first | rfl | cases h) (Nat.le_refl _) HL1.out HL2.out ?_; intro v1 w1 ho1 hoff1; replace hoff1 : Off [] W1 w1 := hoff1; have HO1 := Lib.hid ho1; have HF1 : Hid (Below W1.heap.size W1 w1) := Lib.hid (hoff1.toBelow (fun k hk => absurd hk List.not_mem_nil) (Nat.le_refl _)); clear ho1 hoff1)
              have z0 := carry HF1.out u0
              have z1 := carry HF1.out u1
              have zl := lt_of_cell z0
              have HO2 : Hid (OwnsG kEnt (w1.alloc (.cells #[.string x.key, .string x.text] 50)) W1.heap.size v1 (acc.take k)) := Lib.hid (HO1.out.alloc _)
              have HX2 : Hid (∀ i u, (kEnt.cells x)[i]? = some u → (w1.alloc (.cells #[.string x.key, .string x.text] 50)).cell? ⟨w1.heap.size, i, none⟩ = some u) := Lib.hid (fun i u hu => by
                match i, hu with
                | 0, hu => cases hu; go_simp
                | 1, hu => cases hu; go_simp)
              have HS2 : Hid (W1.heap.size ≤ (w1.alloc (.cells #[.string x.key, .string x.text] 50)).heap.size) := Lib.hid (by have := HF1.out.size; simp; omega)
              have HB2 : Hid (Below W1.heap.size W1 (w1.alloc (.cells #[.string x.key, .string x.text] 50))) := Lib.hid (bel_alloc HF1.out HF1.out.size)
              have HL3 : Hid (((acc.take k).length + 1) * kEnt.bytes ≤ 140737488355328) := Lib.hid (by rw [HLK.out]; show (k + 1) * 32 ≤ _; omega)
              have HL4 : Hid ((acc.take k).length + 1 ≤ 9223372036854775807) := Lib.hid (by rw [HLK.out]; omega)
              go_upto_region 11 with (at_builtin; refine wpList_append_gB (k := kEnt) rfl _ _ rfl x rfl rfl HO2.out HX2.out HS2.out HL3.out HL4.out ?_; intro v2 w2 ho2 hoff2 _; have HO3 := Lib.hid ho2; have HF3 : Hid (Below W1.heap.size W1 w2) := Lib.hid (HB2.out.trans (hoff2.toBelow (fun g hg => (HO2.out.block g hg).1) HS2.out)); clear ho2 hoff2)
              have HZ3 := Lib.hid (HZ.out.below HF3.out)
              have HL5 : Hid (((acc.take k ++ [x]).length + (acc.drop k).length) * kEnt.bytes ≤ 140737488355328) := Lib.hid (by rw [List.length_append, HLK.out, HLD.out]; show (k + 1 + (acc.length - k)) * 32 ≤ _; omega)
              have HL6 : Hid ((acc.take k ++ [x]).length + (acc.drop k).length ≤ 9223372036854775807) := Lib.hid (by rw [List.length_append, HLK.out, HLD.out]; show k + 1 + (acc.length - k) ≤ _; omega)
              clear z0 z1 zl HO2 HX2 HS2 HB2 HL3 HL4 HL1 HL2
              go_wp2_with (at_builtin; refine wpList_append_manyG (k := kEnt) (base := W1.heap.size) (ts := acc.take k ++ [x]) (ys := acc.drop k) (A := some ⟨g1, k * 2, none⟩) (c := c1 - k) rfl _ _ rfl rfl (by rw [HLD.out]; rfl) HO3.out HZ3.out (by intro h; first | rfl | cases h) HF3.out.size HL5.out HL6.out ?_; intro v3 w3 ho3 hoff3; have HO4 := Lib.hid ho3; have HF4 : Hid (Below W1.heap.size W1 w3) := Lib.hid (HF3.out.trans (hoff3.toBelow (fun g hg => (HO3.out.block g hg).1) HF3.out.size)); clear ho3 hoff3)
              exact ⟨⟨j + 1, hlt, by congr 1, Lib.hid (by rw [HSU.out, HI.out]; have h := HO4.out; rw [List.append_assoc] at h; exact h.base (Nat.le_trans HB.out.size HB1.out.size)), Lib.hid (HB.out.trans ((HB1.out.trans (HF4.out.mono HB1.out.size)).mono HB.out.size))⟩, meas_dn2 hlt⟩
          · obtain rfl : k = acc.length := by omega
            have HNX : Hid (∀ z, acc[acc.length]? = some z → 0 ≤ cmpE z x) := Lib.hid (fun z hz => by rw [List.getElem?_eq_none (Nat.le_refl _)] at hz; cases hz)
            have j1 : decide ((acc.length : Int) < (acc.length : Int)) = false := by simp
            have j2 : (0 : Int) ≤ (acc.length : Int) := by omega
            have j4 : (acc.length : Int) ≤ (c1 : Int) := by omega
            by_cases hck : c1 = acc.length
            · subst hck
              go_wp2_with fail
              go_quiet (fail)
              obtain ⟨W1, hW1⟩ : ∃ W1, W1 = wr.drewN nq := ⟨_, rfl⟩
              have b1 : Below wo.heap.size wo W1 := by rw [hW1]; exact bel_drewN nq HBW.out
              rw [← hW1]
              have HB1 := Lib.hid b1
              have hO1 := HO.out.below b1
              have HY : Hid (LiesG kEnt W1 (some ⟨g1, 0, none⟩) (acc.take acc.length)) := Lib.hid (part_lies hO1 0 acc.length)
              have HZ : Hid (LiesG kEnt W1 (some ⟨g1, 0, none⟩) (acc.drop acc.length)) := Lib.hid (.inl (List.drop_length))
              have HLK : Hid ((acc.take acc.length).length = acc.length) := Lib.hid (by rw [List.length_take]; omega)
              have HLD : Hid ((acc.drop acc.length).length = 0) := Lib.hid (by rw [List.length_drop]; try omega)
              have u0 := carry b1 x0
              have u1 := carry b1 x1
              have ul := lt_of_cell u0
              have HI : Hid (insE x acc = acc.take acc.length ++ x :: acc.drop acc.length) := Lib.hid (ins_at x acc acc.length (by omega) HLS.out (fun z hz => by have := HNX.out z hz; omega))
              have HL1 : Hid ((([] : List EntC).length + (acc.take acc.length).length) * kEnt.bytes ≤ 140737488355328) := Lib.hid (by rw [HLK.out]; show (0 + acc.length) * 32 ≤ _; omega)
              have HL2 : Hid (([] : List EntC).length + (acc.take acc.length).length ≤ 9223372036854775807) := Lib.hid (by rw [HLK.out]; show 0 + acc.length ≤ _; omega)
              clear b1 hO1 hW1
              go_upto_region 10 with (at_builtin; refine wpList_append_manyG (k := kEnt) (base := W1.heap.size) (ts := []) (ys := acc.take acc.length) (A := some ⟨g1, 0, none⟩) (c := acc.length) rfl _ _ rfl rfl (by rw [HLK.out]; rfl) (OwnsG.nil _ _) HY.out (by intro h; first | rfl | cases h) (Nat.le_refl _) HL1.out HL2.out ?_; intro v1 w1 ho1 hoff1; replace hoff1 : Off [] W1 w1 := hoff1; have HO1 := Lib.hid ho1; have HF1 : Hid (Below W1.heap.size W1 w1) := Lib.hid (hoff1.toBelow (fun k hk => absurd hk List.not_mem_nil) (Nat.le_refl _)); clear ho1 hoff1)
              have z0 := carry HF1.out u0
              have z1 := carry HF1.out u1
              have zl := lt_of_cell z0
              have HO2 : Hid (OwnsG kEnt (w1.alloc (.cells #[.string x.key, .string x.text] 50)) W1.heap.size v1 (acc.take acc.length)) := Lib.hid (HO1.out.alloc _)
              have HX2 : Hid (∀ i u, (kEnt.cells x)[i]? = some u → (w1.alloc (.cells #[.string x.key, .string x.text] 50)).cell? ⟨w1.heap.size, i, none⟩ = some u) := Lib.hid (fun i u hu => by
                match i, hu with
                | 0, hu => cases hu; go_simp
                | 1, hu => cases hu; go_simp)
              have HS2 : Hid (W1.heap.size ≤ (w1.alloc (.cells #[.string x.key, .string x.text] 50)).heap.size) := Lib.hid (by have := HF1.out.size; simp; omega)
              have HB2 : Hid (Below W1.heap.size W1 (w1.alloc (.cells #[.string x.key, .string x.text] 50))) := Lib.hid (bel_alloc HF1.out HF1.out.size)
              have HL3 : Hid (((acc.take acc.length).length + 1) * kEnt.bytes ≤ 140737488355328) := Lib.hid (by rw [HLK.out]; show (acc.length + 1) * 32 ≤ _; omega)
              have HL4 : Hid ((acc.take acc.length).length + 1 ≤ 9223372036854775807) := Lib.hid (by rw [HLK.out]; omega)
              go_upto_region 11 with (at_builtin; refine wpList_append_gB (k := kEnt) rfl _ _ rfl x rfl rfl HO2.out HX2.out HS2.out HL3.out HL4.out ?_; intro v2 w2 ho2 hoff2 _; have HO3 := Lib.hid ho2; have HF3 : Hid (Below W1.heap.size W1 w2) := Lib.hid (HB2.out.trans (hoff2.toBelow (fun g hg => (HO2.out.block g hg).1) HS2.out)); clear ho2 hoff2)
              have HZ3 := Lib.hid (HZ.out.below HF3.out)
              have HL5 : Hid (((acc.take acc.length ++ [x]).length + (acc.drop acc.length).length) * kEnt.bytes ≤ 140737488355328) := Lib.hid (by rw [List.length_append, HLK.out, HLD.out]; show (acc.length + 1 + (0)) * 32 ≤ _; omega)
              have HL6 : Hid ((acc.take acc.length ++ [x]).length + (acc.drop acc.length).length ≤ 9223372036854775807) := Lib.hid (by rw [List.length_append, HLK.out, HLD.out]; show acc.length + 1 + (0) ≤ _; omega)
              clear z0 z1 zl HO2 HX2 HS2 HB2 HL3 HL4 HL1 HL2
              go_wp2_with (at_builtin; refine wpList_append_manyG (k := kEnt) (base := W1.heap.size) (ts := acc.take acc.length ++ [x]) (ys := acc.drop acc.length) (A := some ⟨g1, 0, none⟩) (c := 0) rfl _ _ rfl rfl (by rw [HLD.out]; rfl) HO3.out HZ3.out (by intro h; first | rfl | cases h) HF3.out.size HL5.out HL6.out ?_; intro v3 w3 ho3 hoff3; have HO4 := Lib.hid ho3; have HF4 : Hid (Below W1.heap.size W1 w3) := Lib.hid (HF3.out.trans (hoff3.toBelow (fun g hg => (HO3.out.block g hg).1) HF3.out.size)); clear ho3 hoff3)
              exact ⟨⟨j + 1, hlt, by congr 1, Lib.hid (by rw [HSU.out, HI.out]; have h := HO4.out; rw [List.append_assoc] at h; exact h.base (Nat.le_trans HB.out.size HB1.out.size)), Lib.hid (HB.out.trans ((HB1.out.trans (HF4.out.mono HB1.out.size)).mono HB.out.size))⟩, meas_dn2 hlt⟩
            · go_wp2_with fail
              go_quiet (fail)
              obtain ⟨W1, hW1⟩ : ∃ W1, W1 = wr.drewN nq := ⟨_, rfl⟩
              have b1 : Below wo.heap.size wo W1 := by rw [hW1]; exact bel_drewN nq HBW.out
              rw [← hW1]
              have HB1 := Lib.hid b1
              have hO1 := HO.out.below b1
              have HY : Hid (LiesG kEnt W1 (some ⟨g1, 0, none⟩) (acc.take acc.length)) := Lib.hid (part_lies hO1 0 acc.length)
              have HZ : Hid (LiesG kEnt W1 (some ⟨g1, acc.length * 2, none⟩) (acc.drop acc.length)) := Lib.hid (.inl (List.drop_length))
              have HLK : Hid ((acc.take acc.length).length = acc.length) := Lib.hid (by rw [List.length_take]; omega)
              have HLD : Hid ((acc.drop acc.length).length = 0) := Lib.hid (by rw [List.length_drop]; try omega)
              have u0 := carry b1 x0
              have u1 := carry b1 x1
              have ul := lt_of_cell u0
              have HI : Hid (insE x acc = acc.take acc.length ++ x :: acc.drop acc.length) := Lib.hid (ins_at x acc acc.length (by omega) HLS.out (fun z hz => by have := HNX.out z hz; omega))
              have HL1 : Hid ((([] : List EntC).length + (acc.take acc.length).length) * kEnt.bytes ≤ 140737488355328) := Lib.hid (by rw [HLK.out]; show (0 + acc.length) * 32 ≤ _; omega)
              have HL2 : Hid (([] : List EntC).length + (acc.take acc.length).length ≤ 9223372036854775807) := Lib.hid (by rw [HLK.out]; show 0 + acc.length ≤ _; omega)
              clear b1 hO1 hW1
              go_upto_region 10 with (at_builtin; refine wpList_append_manyG (k := kEnt) (base := W1.heap.size) (ts := []) (ys := acc.take acc.length) (A := some ⟨g1, 0, none⟩) (c := c1) rfl _ _ rfl rfl (by rw [HLK.out]; rfl) (OwnsG.nil _ _) HY.out (by intro h; first | rfl | cases h) (Nat.le_refl _) HL1.out HL2.out ?_; intro v1 w1 ho1 hoff1; replace hoff1 : Off [] W1 w1 := hoff1; have HO1 := Lib.hid ho1; have HF1 : Hid (Below W1.heap.size W1 w1) := Lib.hid (hoff1.toBelow (fun k hk => absurd hk List.not_mem_nil) (Nat.le_refl _)); clear ho1 hoff1)
              have z0 := carry HF1.out u0
              have z1 := carry HF1.out u1
              have zl := lt_of_cell z0
              have HO2 : Hid (OwnsG kEnt (w1.alloc (.cells #[.string x.key, .string x.text] 50)) W1.heap.size v1 (acc.take acc.length)) := Lib.hid (HO1.out.alloc _)
              have HX2 : Hid (∀ i u, (kEnt.cells x)[i]? = some u → (w1.alloc (.cells #[.string x.key, .string x.text] 50)).cell? ⟨w1.heap.size, i, none⟩ = some u) := Lib.hid (fun i u hu => by
                match i, hu with
                | 0, hu => cases hu; go_simp
                | 1, hu => cases hu; go_simp)
              have HS2 : Hid (W1.heap.size ≤ (w1.alloc (.cells #[.string x.key, .string x.text] 50)).heap.size) := Lib.hid (by have := HF1.out.size; simp; omega)
              have HB2 : Hid (Below W1.heap.size W1 (w1.alloc (.cells #[.string x.key, .string x.text] 50))) := Lib.hid (bel_alloc HF1.out HF1.out.size)
              have HL3 : Hid (((acc.take acc.length).length + 1) * kEnt.bytes ≤ 140737488355328) := Lib.hid (by rw [HLK.out]; show (acc.length + 1) * 32 ≤ _; omega)
              have HL4 : Hid ((acc.take acc.length).length + 1 ≤ 9223372036854775807) := Lib.hid (by rw [HLK.out]; omega)
              go_upto_region 11 with (at_builtin; refine wpList_append_gB (k := kEnt) rfl _ _ rfl x rfl rfl HO2.out HX2.out HS2.out HL3.out HL4.out ?_; intro v2 w2 ho2 hoff2 _; have HO3 := Lib.hid ho2; have HF3 : Hid (Below W1.heap.size W1 w2) := Lib.hid (HB2.out.trans (hoff2.toBelow (fun g hg => (HO2.out.block g hg).1) HS2.out)); clear ho2 hoff2)
              have HZ3 := Lib.hid (HZ.out.below HF3.out)
              have HL5 : Hid (((acc.take acc.length ++ [x]).length + (acc.drop acc.length).length) * kEnt.bytes ≤ 140737488355328) := Lib.hid (by rw [List.length_append, HLK.out, HLD.out]; show (acc.length + 1 + (0)) * 32 ≤ _; omega)
              have HL6 : Hid ((acc.take acc.length ++ [x]).length + (acc.drop acc.length).length ≤ 9223372036854775807) := Lib.hid (by rw [List.length_append, HLK.out, HLD.out]; show acc.length + 1 + (0) ≤ _; omega)
              clear z0 z1 zl HO2 HX2 HS2 HB2 HL3 HL4 HL1 HL2
              go_wp2_with (at_builtin; refine wpList_append_manyG (k := kEnt) (base := W1.heap.size) (ts := acc.take acc.length ++ [x]) (ys := acc.drop acc.length) (A := some ⟨g1, acc.length * 2, none⟩) (c := c1 - acc.length) rfl _ _ rfl rfl (by rw [HLD.out]; rfl) HO3.out HZ3.out (by intro h; first | rfl | cases h) HF3.out.size HL5.out HL6.out ?_; intro v3 w3 ho3 hoff3; have HO4 := Lib.hid ho3; have HF4 : Hid (Below W1.heap.size W1 w3) := Lib.hid (HF3.out.trans (hoff3.toBelow (fun g hg => (HO3.out.block g hg).1) HF3.out.size)); clear ho3 hoff3)
              exact ⟨⟨j + 1, hlt, by congr 1, Lib.hid (by rw [HSU.out, HI.out]; have h := HO4.out; rw [List.append_assoc] at h; exact h.base (Nat.le_trans HB.out.size HB1.out.size)), Lib.hid (HB.out.trans ((HB1.out.trans (HF4.out.mono HB1.out.size)).mono HB.out.size))⟩, meas_dn2 hlt⟩
    · obtain rfl : j = es.length := by omega
      have i1 : ¬ ((es.length : Int) < (es.length : Int)) := by omega
      have hA := accP_all es
      have HA := Lib.hid hA
      clear hA
      go_wp2_with fail
      go_ret
      exact ⟨_, rfl, by rw [← HA.out]; exact HO.out, HB.out⟩
end Go.Proofs.YtnhlnhmjnnopaaaGreatDoor
