/- pick.All of a language. -/
import Derived.Test.YtdpdnanjanceeaaDoorPick
import Derived.Test.YtdpdnanjanceeaaDoorRowsI
namespace Go.Proofs.YtdpdnanjanceeaaDoor
open Go.RowKit
attribute [local go_sem ↓] Go.wp_at_zero Go.wp_at_succ

def AllRes (i0 : Nat) (w : World) (e : Ending) (w' : World) : Prop := ∃ (A : Option Addr) (d : Nat) (xs : List Int), e = .returned (.tuple #[.slice A xs.length d, .nilIface]) ∧ (i0 : Int) ∈ xs ∧ xs.length ≤ 1955000000000 ∧ OwnsI w' w.heap.size (.slice A xs.length d) xs

set_option maxHeartbeats 4000000 in
theorem all_ok (l s r : ByteArray) (g o n c : Nat) (ts : List TagD) (w : World) (h1 : TagsIn w g o ts) (hn : ts.length = n) (hnc : n ≤ c) (hk1 : ∀ t ∈ ts, t.fine w) (hz : ∀ t ∈ ts, t.small) (hsz : n ≤ 1955000000000) (hE : tagsErr ts = 0)
    (hd : (TagC.mk l s r []).err = 0) (i0 : Nat) (t0 : TagD) (ht0 : ts[i0]? = some t0) (hin : hasText (TagC.mk l s r []).text (chainC t0.c) = true) :
    Calls Tryd.prog 18 #[tagV l s r none 0 0, .slice (some ⟨g, o, none⟩) n c] w fun e w' => AllRes i0 w e w' ∧ Below w.heap.size w w' := by
  have KN := Lib.hid (fun W (hb : Below w.heap.size w W) => pick_names_ok g o n c ts W (h1.below hb) hn hnc (fun t ht => (hk1 t ht).below hb) hz hsz hE)
  have KD := Lib.hid (fun W => check_right ⟨l, s, r, []⟩ none 0 W hd (.inl rfl) (Nat.le_refl _))
  have KI := Lib.hid (fun (t : TagD) (ht : t ∈ ts) W (hb : Below w.heap.size w W) => within_ok t.c ⟨l, s, r, []⟩ t.A none t.n 0 W (tagsErr_mem hE t ht) hd ((hk1 t ht).below hb).1 (hk1 t ht).2.1 (hk1 t ht).2.2 (.inl rfl) (fun _ => rfl) (Nat.le_refl _))
  have HT := Lib.hid h1
  have HN := Lib.hid hn
  have HI : Hid (∀ t, ts[i0]? = some t → hasText (TagC.mk l s r []).text (chainC t.c) = true) := Lib.hid (fun t h => by rw [ht0] at h; cases h; exact hin)
  have hi0 : i0 < n := by rw [← hn]; exact (List.getElem?_eq_some_iff.1 ht0).1
  have HP : Hid (∀ (A : Option Addr) (d : Nat) (xs : List Int) w', (i0 : Int) ∈ xs → xs.length ≤ 1955000000000 → OwnsI w' w.heap.size (.slice A xs.length d) xs → AllRes i0 w (.returned (.tuple #[.slice A xs.length d, .nilIface])) w') := Lib.hid (fun A d xs w' h1 h2 h3 => ⟨A, d, xs, rfl, h1, h2, h3⟩)
  clear h1 hn hk1 hz hE hd ht0 hin
  go_enter Tryd.func18, Tryd.ntmps18
  go_wp2_with fail
  refine (KD.out _).mono ?_
  rintro e w1 ⟨rfl, hb1⟩
  have hbw1 : Below w.heap.size w w1 := ((Below.refl _ _).alloc (Nat.le_refl _) _).trans (hb1.mono (by simp))
  have s1 := hbw1.size
  have c0 : w1.cell? ⟨w.heap.size, 0, none⟩ = some (.string l) := carry hb1 (by go_simp)
  have c1 : w1.cell? ⟨w.heap.size, 1, none⟩ = some (.string s) := carry hb1 (by go_simp)
  have c2 : w1.cell? ⟨w.heap.size, 2, none⟩ = some (.string r) := carry hb1 (by go_simp)
  have c3 : w1.cell? ⟨w.heap.size, 3, none⟩ = some (.slice none 0 0) := carry hb1 (by go_simp)
  have HC : Hid (w1.cell? ⟨w.heap.size, 0, none⟩ = some (.string l) ∧ w1.cell? ⟨w.heap.size, 1, none⟩ = some (.string s) ∧ w1.cell? ⟨w.heap.size, 2, none⟩ = some (.string r) ∧ w1.cell? ⟨w.heap.size, 3, none⟩ = some (.slice none 0 0)) := Lib.hid ⟨c0, c1, c2, c3⟩
  clear hb1 c0 c1 c2 c3
  go_wp2_with fail
  refine (KN.out _ hbw1).mono ?_
  rintro e w2 ⟨⟨A2, d2, rfl, _⟩, hb2⟩
  have hbw : Below w.heap.size w w2 := hbw1.trans (hb2.mono s1)
  have HB2 := Lib.hid hb2
  have HBW := Lib.hid hbw
  have sw := hbw.size
  have z2 : w.heap.size < w2.heap.size := lt_of_cell (carry hb2 HC.out.1)
  clear hb2 hbw hbw1
  go_wp2_with fail
  go_loopw [9, 29] (fun p i wr => ∃ (k : Nat) (A : Option Addr) (d : Nat) (xs : List Int), k ≤ n ∧ i = .int .i64 k ∧ p = .slice A xs.length d ∧ xs.length ≤ k ∧ Hid (OwnsI wr (w.heap.size + 1) (.slice A xs.length d) xs) ∧ Hid (i0 < k → (i0 : Int) ∈ xs) ∧ Hid (Below w.heap.size w wr ∧ wr.cell? ⟨w.heap.size, 0, none⟩ = some (.string l) ∧ wr.cell? ⟨w.heap.size, 1, none⟩ = some (.string s) ∧ wr.cell? ⟨w.heap.size, 2, none⟩ = some (.string r) ∧ wr.cell? ⟨w.heap.size, 3, none⟩ = some (.slice none 0 0))) (fun _ i _ => n - (intOf i).toNat)
  case atStart => exact ⟨0, none, 0, [], Nat.zero_le _, rfl, rfl, Nat.le_refl _, Lib.hid (OwnsI.nil _ _), Lib.hid (fun h => by omega), Lib.hid ⟨HBW.out, carry HB2.out HC.out.1, carry HB2.out HC.out.2.1, carry HB2.out HC.out.2.2.1, carry HB2.out HC.out.2.2.2⟩⟩
  case round =>
    clear HC HB2 HBW KN KD
    obtain ⟨k, A, d, xs, hk, rfl, rfl, hxs, HO, HX, HC⟩ := hrel
    obtain ⟨hB, c0, c1, c2, c3⟩ := HC.out
    have sB := hB.size
    have zr := lt_of_cell c0
    by_cases hlt : k < n
    · obtain ⟨t, ht⟩ : ∃ t, ts[k]? = some t := ⟨ts[k]'(by have := HN.out; omega), List.getElem?_eq_getElem _⟩
      have KJ := Lib.hid (KI.out t (List.mem_of_getElem? ht))
      have hT := HT.out.below hB
      have a0 := hT k _ 0 _ ht rfl
      have a1 := hT k _ 1 _ ht rfl
      have a2 := hT k _ 2 _ ht rfl
      have a3 := hT k _ 3 _ ht rfl
      simp only [Nat.add_zero] at a0 a1 a2 a3
      have HXS : Hid (hasText (TagC.mk l s r []).text (chainC t.c) = false → i0 < k + 1 → (i0 : Int) ∈ xs) := Lib.hid (fun hf h => by
        by_cases h2 : i0 < k
        · exact HX.out h2
        · obtain rfl : i0 = k := by omega
          rw [HI.out t ht] at hf
          cases hf)
      have HXT : Hid (i0 < k + 1 → (i0 : Int) ∈ xs ++ [(k : Int)]) := Lib.hid (fun h => by
        by_cases h2 : i0 < k
        · exact List.mem_append_left _ (HX.out h2)
        · obtain rfl : i0 = k := by omega
          simp)
      obtain ⟨⟨l1, s1', r1, vs1⟩, A1, n1⟩ := t
      simp only at a0 a1 a2 a3 KJ HXS
      generalize hasText (TagC.mk l s r []).text (chainC ⟨l1, s1', r1, vs1⟩) = R at *
      have q0 : (0 : Int) ≤ (k : Int) := by omega
      have q1 : (k : Int) < (n : Int) := by omega
      have q2 : (k : Int) ≤ (c : Int) := by omega
      have e1 : IntKind.i64.wrap ((k : Int) + 1) = (k : Int) + 1 := IntWalk.i64_in _ (by omega)
      have HB := Lib.hid hB
      clear ht hT hB
      go_wp2_with fail
      refine (KJ.out _ (HB.out.alloc sB _)).mono ?_
      rintro e w3 ⟨rfl, hb3⟩
      have hbr : Below wr.heap.size wr w3 := ((Below.refl _ _).alloc (Nat.le_refl _) _).trans (hb3.mono (by simp))
      have s3 := hbr.size
      have HB3 := Lib.hid (HB.out.trans (hbr.mono sB))
      have HO3 := Lib.hid (HO.out.below hbr)
      have g0 := carry hbr c0
      have g1 := carry hbr c1
      have g2 := carry hbr c2
      have g3 := carry hbr c3
      clear hb3 hbr HO KJ a0 a1 a2 a3 c0 c1 c2 c3 HC
      cases R
      · have HS := Lib.hid (HXS.out rfl)
        clear HXS HXT
        go_wp2_with fail
        go_roundw
        case rel => exact ⟨k + 1, A, d, xs, by omega, by go_num, rfl, by omega, HO3, HS, Lib.hid ⟨HB3.out, g0, g1, g2, g3⟩⟩
        case measure => simp [intOf]; omega
      · have HG := Lib.hid (And.intro g0 (And.intro g1 (And.intro g2 g3)))
        clear HXS g0 g1 g2 g3
        go_wp2_with (at_builtin; refine wpList_append_int rfl _ _ rfl (k : Int) rfl rfl (HO3.out.alloc _) (by go_simp) (by simp; omega) (by omega) ?_; intro v' w' ho hoff)
        have hbl0 := OwnsI.grown (HO3.out.alloc (.cells #[.int .i64 k] 3)) hoff (by simp; omega)
        have hbl := hbl0.mono (Nat.le_succ w.heap.size)
        have HB4 : Hid (Below w.heap.size w w') := Lib.hid ((HB3.out.alloc HB3.out.size _).trans hbl)
        obtain ⟨A', d', rfl, _, _, _, hbase⟩ := ho.form
        have HO4 := Lib.hid ho
        have hl3 : (xs ++ [(k : Int)]).length ≤ k + 1 := by simp; omega
        have hkeep : ∀ j v, w3.cell? ⟨w.heap.size, j, none⟩ = some v → w'.cell? ⟨w.heap.size, j, none⟩ = some v := fun j v hv => by
          rw [hbl0.cell (p := ⟨w.heap.size, j, none⟩) (Nat.lt_succ_self _)]
          exact carry ((Below.refl _ _).alloc (Nat.le_refl _) _) hv
        obtain ⟨g0, g1, g2, g3⟩ := HG.out
        have HG4 := Lib.hid (And.intro HB4.out (And.intro (hkeep 0 _ g0) (And.intro (hkeep 1 _ g1) (And.intro (hkeep 2 _ g2) (hkeep 3 _ g3)))))
        have s4 := HB4.out.size
        clear ho hoff hbl hbl0 hbase hkeep g0 g1 g2 g3
        go_roundw
        case rel => exact ⟨k + 1, A', d', _, by omega, by go_num, rfl, hl3, HO4, HXT, HG4⟩
        case measure => simp [intOf]; omega
    · obtain rfl : k = n := by omega
      have HIN := Lib.hid (HX.out hi0)
      go_wp2_with fail
      go_ret2
      exact ⟨HP.out _ _ _ _ HIN.out (by omega) (HO.out.base (Nat.le_succ _)), hB⟩
end Go.Proofs.YtdpdnanjanceeaaDoor
