/- StoreMany: the law's walk. -/
import Derived.Test.YtkklemhhimcahaaDoorStoreKept
namespace Go.Proofs.YtkklemhhimcahaaDoor
open Go.RowKit Go.Maps
variable {w w' : World} {B sb mb N : Nat} {S : List Nat} {vb hd : Nat → Nat}

/-- is a version free behind j steps? -/
def frB (back : Bool) (k j i : Nat) : Bool := if back then decide (k - j < i) else decide (i ≤ j)
def leftS (back : Bool) (k j : Nat) : List Nat := (List.range' 1 k).filter fun i => decide (i = k) || !frB back k j i
theorem left_zero (back : Bool) (k : Nat) : leftS back k 0 = List.range' 1 k := by
  unfold leftS
  rw [List.filter_eq_self]
  intro i hi
  rw [List.mem_range'_1] at hi
  unfold frB
  cases back
  · simp; omega
  · simp; omega
theorem left_mem {back : Bool} {k j i : Nat} : i ∈ leftS back k j ↔ (1 ≤ i ∧ i ≤ k) ∧ (i = k ∨ frB back k j i = false) := by
  unfold leftS
  rw [List.mem_filter, List.mem_range'_1]
  simp
  omega
/-- which one goes next -/
def nextV (back : Bool) (k j : Nat) : Nat := if back then k - j else j + 1
theorem fr_next {back : Bool} {k j i : Nat} (hj : j < k) (h1 : 1 ≤ i) (h2 : i ≤ k) : frB back k (j + 1) i = (frB back k j i || decide (i = nextV back k j)) := by
  unfold frB nextV
  cases back
  · simp only [Bool.false_eq_true, if_false]
    rw [Bool.eq_iff_iff]; simp; omega
  · simp only [if_true]
    rw [Bool.eq_iff_iff]; simp; omega
theorem next_bd {back : Bool} {k j : Nat} (hj : j < k) : 1 ≤ nextV back k j ∧ nextV back k j ≤ k ∧ frB back k j (nextV back k j) = false := by
  unfold nextV frB
  cases back
  · simp; omega
  · simp; omega
theorem left_next {back : Bool} {k j : Nat} (hj : j < k) (hh : ∀ i, 1 ≤ i → i ≤ k → hd i = if frB back k j i then 0 else 1) :
    (leftS back k j).filter (stays (vbSet hd (nextV back k j) 0) k) = leftS back k (j + 1) := by
  unfold leftS
  rw [List.filter_filter]
  apply List.filter_congr
  intro i hi
  rw [List.mem_range'_1] at hi
  have h1 := fr_next (back := back) (k := k) (j := j) (i := i) hj (by omega) (by omega)
  have h2 := hh i (by omega) (by omega)
  unfold stays vbSet
  rw [h1, h2]
  by_cases e1 : i = k
  · simp [e1]
  · by_cases e2 : i = nextV back k j
    · subst e2; simp [e1]
    · cases frB back k j i <;> simp [e1, e2]
theorem left_len : ∀ back : Bool, ∀ k : Fin 13, ∀ j : Fin 13, 1 ≤ j.val → j.val ≤ k.val → (leftS back k.val j.val).length = k.val - j.val + (if back || decide (j.val = k.val) then 1 else 0) := by decide +kernel
theorem left_length {back : Bool} {k j : Nat} (hk : k ≤ 12) (h1 : 1 ≤ j) (h2 : j ≤ k) : (leftS back k j).length = k - j + (if back || decide (j = k) then 1 else 0) :=
  left_len back ⟨k, by omega⟩ ⟨j, by omega⟩ h1 h2

set_option maxHeartbeats 8000000 in
theorem many (n : Int) (back : Bool) (k : Nat) (w : World) (hk : k ≤ 12) (m : Int) (hmin : min n 12 = m) (hmax : max 0 m = (k : Int)) :
    Calls Tryd.prog 6 #[.int .i64 n, .bool back] w fun e w' => e = .returned (.bool true) ∧ Below w.heap.size w w' := by
  go_enter Tryd.func6, Tryd.ntmps6
  go_wp2_with fail
  refine (store_new _).mono ?_
  rintro e w1 ⟨rfl, hS, hb⟩
  have HS := Lib.hid hS
  have HB := Lib.hid hb
  have q1 := hS.lt.1
  clear hS hb
  go_wp2_with fail
  clear hmin hmax
  have s0 : w.heap.size ≤ w1.heap.size := by omega
  generalize w.heap.size + 1 = sb at *
  go_loopw [7] (fun i wr => ∃ (j : Nat) (vb hd : Nat → Nat), j ≤ k ∧ i = .int .i64 ((j : Int) + 1) ∧ Hid (StoreAt wr w.heap.size sb w.heap.size j (List.range' 1 j) vb hd) ∧ Hid (∀ i, 1 ≤ i → i ≤ j → hd i = 1) ∧ Hid (Below w.heap.size w wr)) (fun i _ => k + 1 - (intOf i).toNat)
  case atStart => exact ⟨0, _, _, Nat.zero_le _, rfl, HS, Lib.hid (fun i h1 h2 => by omega), HB⟩
  case round =>
    obtain ⟨j, vb, hd, hj, rfl, HS1, HH1, HB1⟩ := hrel
    by_cases hlt : j < k
    · have hLoad := Lib.hid (store_load wr HS1.out (by omega) HB1.out.size (fun i hi => by have := HS1.out.le i hi; rw [HH1.out i this.1 this.2]; decide))
      have i1 : (j : Int) + 1 ≤ (k : Int) := by omega
      go_wp2_with fail
      refine hLoad.out.mono ?_
      rintro e w2 ⟨rfl, ⟨b, hS2⟩, hb⟩
      have HB2 : Hid (Below w.heap.size w w2) := Lib.hid (HB1.out.trans hb)
      have HS2 := Lib.hid hS2
      have hPin := store_pin w2 HS2.out (by simp) (by rw [show vbSet hd (j + 1) 0 (j + 1) = 0 from if_pos rfl]; omega)
      push_cast at hPin
      have HPin := Lib.hid hPin
      clear hS2 hb hPin
      go_wp2_with fail
      refine HPin.out.mono ?_
      rintro e w3 ⟨rfl, hS3, hb⟩
      have HB3 : Hid (Below w.heap.size w w3) := Lib.hid (HB2.out.trans hb)
      have HS3 : Hid (StoreAt w3 w.heap.size sb w.heap.size (j + 1) (List.range' 1 (j + 1)) (vbSet vb (j + 1) b) (vbSet (vbSet hd (j + 1) 0) (j + 1) (vbSet hd (j + 1) 0 (j + 1) + 1))) := Lib.hid (by
        have e : List.range' 1 (j + 1) = List.range' 1 j ++ [j + 1] := by rw [List.range'_concat]; simp; omega
        rw [e]
        exact hS3)
      have HH3 : Hid (∀ i, 1 ≤ i → i ≤ j + 1 → vbSet (vbSet hd (j + 1) 0) (j + 1) (vbSet hd (j + 1) 0 (j + 1) + 1) i = 1) := Lib.hid (fun i h1 h2 => by
        unfold vbSet
        by_cases e : i = j + 1
        · simp [e]
        · rw [if_neg e, if_neg e]; exact HH1.out i h1 (by omega))
      clear hS3 hb
      go_wp2_with fail
      go_roundw
      case rel => exact ⟨j + 1, _, _, by omega, by go_num, HS3, HH3, HB3⟩
      case measure => simp [intOf]; omega
    · obtain rfl : j = k := by omega
      have HK := Lib.hid (store_kept wr HS1.out)
      have hlen : (List.range' 1 j).length = j := by simp
      rw [hlen] at HK
      have i1 : ¬ ((j : Int) + 1 ≤ (j : Int)) := by omega
      clear hlen
      go_wp2_with fail
      refine HK.out.mono ?_
      rintro e w2 ⟨⟨A, c, rfl⟩, hb⟩
      have hS2 := HS1.out.below hb
      rw [← left_zero back] at hS2
      have HS2 := Lib.hid hS2
      have HB2 : Hid (Below w.heap.size w w2) := Lib.hid (HB1.out.trans (hb.mono HB1.out.size))
      have HH2 : Hid (∀ i, 1 ≤ i → i ≤ j → hd i = if frB back j 0 i then 0 else 1) := Lib.hid (fun i h1 h2 => by
        rw [HH1.out i h1 h2]
        unfold frB
        cases back
        · simp; omega
        · simp; omega)
      clear hS2 hb
      go_wp2_with fail
      clear HS1 HH1 HB1 HK
      obtain ⟨wo, rfl⟩ : ∃ wo : World, wo = wr := ⟨_, rfl⟩
      go_loopw [12] (fun i wr => ∃ (p : Nat) (vb hd : Nat → Nat), p ≤ j ∧ i = .int .i64 ((p : Int) + 1) ∧ Hid (StoreAt wr w.heap.size sb w.heap.size j (leftS back j p) vb hd) ∧ Hid (∀ i, 1 ≤ i → i ≤ j → hd i = if frB back j p i then 0 else 1) ∧ Hid (Below w.heap.size w wr)) (fun i _ => j + 1 - (intOf i).toNat)
      case atStart => exact ⟨0, _, _, Nat.zero_le _, rfl, HS2, HH2, HB2⟩
      case round =>
        obtain ⟨p, vb, hd, hp, rfl, HS1, HH1, HB1⟩ := hrel
        clear HS2 HH2 HB2
        by_cases hlt : p < j
        · have j1 : (p : Int) + 1 ≤ (j : Int) := by omega
          have hw : (j : Int) - ((p : Int) + 1) = ((j - (p + 1) : Nat) : Int) := by omega
          cases back
          · by_cases he : p + 1 = j
            · have hbe : ((p : Int) + 1 == (j : Int)) = true := by rw [beq_iff_eq]; omega
              have hfr : frB false j p (p + 1) = false := by unfold frB; simp
              have hFree := store_free wr (p + 1) 0 HS1.out (left_mem.2 ⟨⟨by omega, by omega⟩, .inr (hfr)⟩) (by rw [HH1.out _ (by omega) (by omega), hfr]; rfl) (by omega)
              rw [show (p + 1 : Nat) = nextV false j p from rfl, left_next hlt HH1.out] at hFree
              have hFree : Calls Tryd.prog 17 #[.pointer (some ⟨sb, 0, none⟩), .int .i64 ((p : Int) + 1)] wr fun e w' => e = .returned .nilIface ∧ StoreAt w' w.heap.size sb w.heap.size j (leftS false j (p + 1)) vb (vbSet hd (p + 1) 0) ∧ Below w.heap.size wr w' := by
                have e : ((nextV false j p : Nat) : Int) = (p : Int) + 1 := by show (((p + 1 : Nat)) : Int) = _; omega
                rw [e] at hFree
                exact hFree
              have HFree := Lib.hid hFree
              have HHN : Hid (∀ i, 1 ≤ i → i ≤ j → vbSet hd (p + 1) 0 i = if frB false j (p + 1) i then 0 else 1) := Lib.hid (fun i h1 h2 => by
                rw [fr_next hlt h1 h2]
                unfold vbSet
                by_cases e : i = p + 1
                · rw [if_pos e, e]
                  have : decide (p + 1 = nextV false j p) = true := decide_eq_true rfl
                  rw [this, Bool.or_true]
                  rfl
                · rw [if_neg e, HH1.out i h1 h2]
                  have : decide (i = nextV false j p) = false := decide_eq_false e
                  rw [this, Bool.or_false])
              have hL := left_length (back := false) hk (by omega : 1 ≤ p + 1) (by omega : p + 1 ≤ j)
              rw [show (if false || decide (p + 1 = j) then 1 else 0) = 1 by rw [decide_eq_true he]; rfl] at hL
              have HL := Lib.hid hL
              clear hFree hL
              go_wp2_with fail
              refine HFree.out.mono ?_
              rintro e w3 ⟨rfl, hS3, hb⟩
              have HB3 : Hid (Below w.heap.size w w3) := Lib.hid (HB1.out.trans hb)
              have HS3 := Lib.hid hS3
              have HK3 := Lib.hid (by have := store_kept w3 hS3; rw [HL.out] at this; exact this)
              clear hS3 hb
              go_wp2_with fail
              refine HK3.out.mono ?_
              rintro e w4 ⟨⟨A4, c4, rfl⟩, hb⟩
              have HB4 : Hid (Below w.heap.size w w4) := Lib.hid (HB3.out.trans (hb.mono HB3.out.size))
              have HS4 := Lib.hid (HS3.out.below hb)
              clear hb
              go_wp2_with fail
              go_roundw
              case rel => exact ⟨p + 1, _, _, by omega, by go_num, HS4, HHN, HB4⟩
              case measure => simp [intOf]; omega
            · have hbe : ((p : Int) + 1 == (j : Int)) = false := by rw [beq_eq_false_iff_ne]; omega
              have hfr : frB false j p (p + 1) = false := by unfold frB; simp
              have hFree := store_free wr (p + 1) 0 HS1.out (left_mem.2 ⟨⟨by omega, by omega⟩, .inr (hfr)⟩) (by rw [HH1.out _ (by omega) (by omega), hfr]; rfl) (by omega)
              rw [show (p + 1 : Nat) = nextV false j p from rfl, left_next hlt HH1.out] at hFree
              have hFree : Calls Tryd.prog 17 #[.pointer (some ⟨sb, 0, none⟩), .int .i64 ((p : Int) + 1)] wr fun e w' => e = .returned .nilIface ∧ StoreAt w' w.heap.size sb w.heap.size j (leftS false j (p + 1)) vb (vbSet hd (p + 1) 0) ∧ Below w.heap.size wr w' := by
                have e : ((nextV false j p : Nat) : Int) = (p : Int) + 1 := by show (((p + 1 : Nat)) : Int) = _; omega
                rw [e] at hFree
                exact hFree
              have HFree := Lib.hid hFree
              have HHN : Hid (∀ i, 1 ≤ i → i ≤ j → vbSet hd (p + 1) 0 i = if frB false j (p + 1) i then 0 else 1) := Lib.hid (fun i h1 h2 => by
                rw [fr_next hlt h1 h2]
                unfold vbSet
                by_cases e : i = p + 1
                · rw [if_pos e, e]
                  have : decide (p + 1 = nextV false j p) = true := decide_eq_true rfl
                  rw [this, Bool.or_true]
                  rfl
                · rw [if_neg e, HH1.out i h1 h2]
                  have : decide (i = nextV false j p) = false := decide_eq_false e
                  rw [this, Bool.or_false])
              have hL := left_length (back := false) hk (by omega : 1 ≤ p + 1) (by omega : p + 1 ≤ j)
              rw [show (if false || decide (p + 1 = j) then 1 else 0) = 0 by rw [decide_eq_false he]; rfl] at hL
              have HL := Lib.hid hL
              clear hFree hL
              go_wp2_with fail
              refine HFree.out.mono ?_
              rintro e w3 ⟨rfl, hS3, hb⟩
              have HB3 : Hid (Below w.heap.size w w3) := Lib.hid (HB1.out.trans hb)
              have HS3 := Lib.hid hS3
              have HK3 := Lib.hid (by have := store_kept w3 hS3; rw [HL.out] at this; exact this)
              clear hS3 hb
              go_wp2_with fail
              refine HK3.out.mono ?_
              rintro e w4 ⟨⟨A4, c4, rfl⟩, hb⟩
              have HB4 : Hid (Below w.heap.size w w4) := Lib.hid (HB3.out.trans (hb.mono HB3.out.size))
              have HS4 := Lib.hid (HS3.out.below hb)
              clear hb
              go_wp2_with fail
              go_roundw
              case rel => exact ⟨p + 1, _, _, by omega, by go_num, HS4, HHN, HB4⟩
              case measure => simp [intOf]; omega
          · have hv : (j : Int) + 1 - ((p : Int) + 1) = ((j - p : Nat) : Int) := by omega
            have hfr : frB true j p (j - p) = false := by unfold frB; simp
            have hFree := store_free wr (j - p) 0 HS1.out (left_mem.2 ⟨⟨by omega, by omega⟩, .inr (hfr)⟩) (by rw [HH1.out _ (by omega) (by omega), hfr]; rfl) (by omega)
            rw [show (j - p : Nat) = nextV true j p from rfl, left_next hlt HH1.out] at hFree
            have hFree : Calls Tryd.prog 17 #[.pointer (some ⟨sb, 0, none⟩), .int .i64 (((j - p : Nat) : Int))] wr fun e w' => e = .returned .nilIface ∧ StoreAt w' w.heap.size sb w.heap.size j (leftS true j (p + 1)) vb (vbSet hd (j - p) 0) ∧ Below w.heap.size wr w' := by
              have e : ((nextV true j p : Nat) : Int) = ((j - p : Nat) : Int) := by show (((j - p : Nat)) : Int) = _; omega
              rw [e] at hFree
              exact hFree
            have HFree := Lib.hid hFree
            have HHN : Hid (∀ i, 1 ≤ i → i ≤ j → vbSet hd (j - p) 0 i = if frB true j (p + 1) i then 0 else 1) := Lib.hid (fun i h1 h2 => by
              rw [fr_next hlt h1 h2]
              unfold vbSet
              by_cases e : i = j - p
              · rw [if_pos e, e]
                have : decide (j - p = nextV true j p) = true := decide_eq_true rfl
                rw [this, Bool.or_true]
                rfl
              · rw [if_neg e, HH1.out i h1 h2]
                have : decide (i = nextV true j p) = false := decide_eq_false e
                rw [this, Bool.or_false])
            have hL := left_length (back := true) hk (by omega : 1 ≤ p + 1) (by omega : p + 1 ≤ j)
            rw [show (if true || decide (p + 1 = j) then 1 else 0) = 1 by rfl] at hL
            have HL := Lib.hid hL
            clear hFree hL
            go_wp2_with fail
            refine HFree.out.mono ?_
            rintro e w3 ⟨rfl, hS3, hb⟩
            have HB3 : Hid (Below w.heap.size w w3) := Lib.hid (HB1.out.trans hb)
            have HS3 := Lib.hid hS3
            have HK3 := Lib.hid (by have := store_kept w3 hS3; rw [HL.out] at this; exact this)
            clear hS3 hb
            go_wp2_with fail
            refine HK3.out.mono ?_
            rintro e w4 ⟨⟨A4, c4, rfl⟩, hb⟩
            have HB4 : Hid (Below w.heap.size w w4) := Lib.hid (HB3.out.trans (hb.mono HB3.out.size))
            have HS4 := Lib.hid (HS3.out.below hb)
            clear hb
            go_wp2_with fail
            go_roundw
            case rel => exact ⟨p + 1, _, _, by omega, by go_num, HS4, HHN, HB4⟩
            case measure => simp [intOf]; omega
        · obtain rfl : p = j := by omega
          have j1 : ¬ ((p : Int) + 1 ≤ (p : Int)) := by omega
          by_cases h0 : p = 0
          · subst h0
            have HP := Lib.hid (store_pin_no wr HS1.out (by rw [left_mem]; omega))
            go_wp2_with fail
            refine HP.out.mono ?_
            rintro e w3 ⟨rfl, hb⟩
            go_wp2_with fail
            go_ret
            exact ⟨rfl, HB1.out.trans hb⟩
          · have HP := Lib.hid (store_pin wr HS1.out (left_mem.2 ⟨⟨by omega, Nat.le_refl _⟩, .inl rfl⟩) (by rw [HH1.out p (by omega) (Nat.le_refl _)]; split <;> omega))
            have h1 : (0 : Int) < (p : Int) := by omega
            go_wp2_with fail
            refine HP.out.mono ?_
            rintro e w3 ⟨rfl, _, hb⟩
            go_wp2_with fail
            go_ret
            exact ⟨by show Ending.returned (.bool (decide (0 < p))) = _; rw [decide_eq_true (by omega)], HB1.out.trans hb⟩

theorem walk34s (n : Int) (back : Bool) (w : World) :
    Calls Tryd.prog 6 #[.int .i64 n, .bool back] w fun e w' => e = .returned (.bool true) ∧ Below w.heap.size w w' :=
  many n back (max 0 (min n 12)).toNat w (by omega) _ rfl (by omega)
end Go.Proofs.YtkklemhhimcahaaDoor
