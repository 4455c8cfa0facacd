/- GroupMore: digits by threes: the law's walk. -/
import Derived.Test.YtbbafdhgoekdiaaDoorGroupPutOk
namespace Go.Proofs.YtbbafdhgoekdiaaDoor
open Go.RowKit

theorem put_any (s : ByteArray) (c : UInt8) (w : World) (hs : s.size ≤ 1000000000000) :
    Calls Tryd.prog 22 #[.string s, .int .i64 3, .int .i64 0, .int .u8 c.toNat] w fun e w' =>
      ((digitsB s = true ∧ ¬ (48 ≤ c.toNat ∧ c.toNat ≤ 57) → e = .returned (.tuple #[.string ⟨(grp c s.data.toList).toArray⟩, .nilIface])) ∧
       (¬ (digitsB s = true ∧ ¬ (48 ≤ c.toNat ∧ c.toNat ≤ 57)) → e = .returned (.tuple #[.string ⟨#[]⟩, errG 3]))) ∧ Below w.heap.size w w' := by
  by_cases h : digitsB s = true ∧ ¬ (48 ≤ c.toNat ∧ c.toNat ≤ 57)
  · refine (group_put_ok s c w hs h.1 h.2).mono ?_
    rintro e w' ⟨he, hb⟩
    exact ⟨⟨fun _ => he, fun hn => absurd h hn⟩, hb⟩
  · refine (group_put_no s c.toNat w (by omega) ?_).mono ?_
    · cases hd : digitsB s
      · exact .inl rfl
      · right
        have : ¬ ¬ (48 ≤ c.toNat ∧ c.toNat ≤ 57) := fun hh => h ⟨hd, hh⟩
        omega
    · rintro e w' ⟨he, hb⟩
      exact ⟨⟨fun hn => absurd hn h, fun _ => he⟩, hb⟩
theorem put_fact (w : World) :
    Calls Tryd.prog 22 #[.string ⟨#[49, 50, 51, 52, 53]⟩, .int .i64 3, .int .i64 0, .int .u8 44] w fun e w' => e = .returned (.tuple #[.string ⟨#[49, 50, 44, 51, 52, 53]⟩, .nilIface]) ∧ Below w.heap.size w w' := by
  refine (group_put_ok ⟨#[49, 50, 51, 52, 53]⟩ 44 w (by decide) (by unfold digitsB; rw [Lib.toList_data]; decide) (by decide)).mono ?_
  rintro e w' ⟨rfl, hb⟩
  refine ⟨?_, hb⟩
  have : grp 44 [49, 50, 51, 52, 53] = [49, 50, 44, 51, 52, 53] := by
    rw [grp_big _ _ (by decide), grp_small _ _ (by decide)]; rfl
  show Ending.returned (.tuple #[.string ⟨(grp 44 [49, 50, 51, 52, 53]).toArray⟩, .nilIface]) = _
  rw [this]

theorem digitsB_pos {s : ByteArray} (h : digitsB s = true) : 1 ≤ s.size := by
  unfold digitsB at h
  rcases Nat.eq_zero_or_pos s.size with h0 | h0
  · have he : s = ⟨#[]⟩ := ByteArray.ext (Array.eq_empty_of_size_eq_zero h0)
    subst he
    rw [Lib.toList_data] at h
    cases h
  · exact h0

set_option maxHeartbeats 1000000 in
theorem groupMore_ok (D Y : ByteArray) (c : UInt8) (w : World) (hd : D.size ≤ 400000000000) (hy : Y.size ≤ 400000000000) (h1 : Hid (digitsB D = true)) (h2 : Hid (digitsB (Y ++ D) = true)) (hc : ¬ (48 ≤ c.toNat ∧ c.toNat ≤ 57)) :
    Calls Tryd.prog 8 #[.string D, .string Y, .int .u8 c.toNat] w fun e w' => e = .returned (.bool true) ∧ Below w.heap.size w w' := by
  have p1 := digitsB_pos h1.out
  have hr : ∀ W : World, (Op.stringOp .add Y D).run Tryd.prog W = .ok (.string (Y ++ D)) W := fun W => run_string_add_sum W _ _ (by omega)
  have k1 := fun W => group_put_ok D c W (by omega) h1.out hc
  have k2 := fun W => group_put_ok (Y ++ D) c W (by rw [ByteArray.size_append]; omega) h2.out hc
  have e1 : (ByteArray.mk (grp c D.data.toList).toArray).size = D.size + (D.size - 1) / 3 := by
    show (grp c D.data.toList).toArray.size = _
    rw [List.size_toArray, grp_len c _ _ (Nat.le_refl _) (by simpa using p1)]; simp
  have e2 : (ByteArray.mk (grp c (Y ++ D).data.toList).toArray).size = (Y.size + D.size) + (Y.size + D.size - 1) / 3 := by
    show (grp c (Y ++ D).data.toList).toArray.size = _
    rw [List.size_toArray, grp_len c _ _ (Nat.le_refl _) (by simp; omega)]; simp
  have e3 : (ByteArray.mk (grp c (Y ++ D).data.toList).toArray).extract ((ByteArray.mk (grp c (Y ++ D).data.toList).toArray).size - (ByteArray.mk (grp c D.data.toList).toArray).size) (ByteArray.mk (grp c (Y ++ D).data.toList).toArray).size = ⟨(grp c D.data.toList).toArray⟩ := by
    obtain ⟨p, hp⟩ := grp_suffix c _ D.data.toList Y.data.toList (Nat.le_refl _) (by simpa using p1)
    have hp2 : grp c (Y ++ D).data.toList = p ++ grp c D.data.toList := by rw [← hp]; simp
    apply ByteArray.ext
    apply Array.ext'
    rw [Lib.extract_data]
    show ((grp c (Y ++ D).data.toList).toArray.toList.drop ((grp c (Y ++ D).data.toList).toArray.size - (grp c D.data.toList).toArray.size)).take _ = (grp c D.data.toList).toArray.toList
    rw [List.take_of_length_le (by rw [List.length_drop]; exact Nat.le_of_eq rfl), hp2]
    simp
  generalize ByteArray.mk (grp c D.data.toList).toArray = A at *
  generalize ByteArray.mk (grp c (Y ++ D).data.toList).toArray = B at *
  have K1 := Lib.hid k1
  have K2 := Lib.hid k2
  have b1 : A.size + Y.size ≤ B.size := by omega
  have b2 : B.size ≤ A.size + 2 * Y.size := by omega
  have b3 : A.size ≤ 800000000000 := by omega
  have w1 : IntKind.i64.wrap ((B.size : Int) - A.size) = (B.size : Int) - A.size := IntWalk.i64_in _ (by omega)
  have t1 : ((B.size : Int) - A.size).toNat = B.size - A.size := by omega
  have E3 := Lib.hid e3
  have t2 := Lib.hid e1
  clear k1 k2 e1 e2 e3
  go_enter Tryd.func8, Tryd.ntmps8
  go_wp2_with fail
  refine (put_fact _).mono ?_
  rintro e w1 ⟨rfl, hb1⟩
  go_wp2_with fail
  refine (K1.out _).mono ?_
  rintro e w2 ⟨rfl, hb2⟩
  go_wp2_with fail
  refine (K2.out _).mono ?_
  rintro e w3 ⟨rfl, hb3⟩
  go_wp2_with fail
  all_goals first
    | (exfalso; have := t2.out; omega)
    | (go_ret
       have q1 := hb1.size
       have q2 := hb2.size
       refine ⟨ret_bool ?_, (by (repeat (first | with_reducible exact Below.refl _ _ | with_reducible refine bel_set ?_ ?_ | with_reducible refine bel_alloc ?_ ?_ | with_reducible refine Below.drew ?_ | with_reducible refine bel_drewN _ ?_ | with_reducible refine bel_call ?_ (by assumption) ?_)); all_goals (first | (simp; done) | omega | (simp; omega)))⟩
       rw [← t2.out, E3.out]
       simp)

set_option maxHeartbeats 1000000 in
theorem groupMore_no (D Y : ByteArray) (c : UInt8) (w : World) (hd : D.size ≤ 400000000000) (hy : Y.size ≤ 400000000000) (h : Hid (¬ (digitsB D = true ∧ ¬ (48 ≤ c.toNat ∧ c.toNat ≤ 57)) ∨ ¬ (digitsB (Y ++ D) = true ∧ ¬ (48 ≤ c.toNat ∧ c.toNat ≤ 57)))) :
    Calls Tryd.prog 8 #[.string D, .string Y, .int .u8 c.toNat] w fun e w' => e = .returned (.bool true) ∧ Below w.heap.size w w' := by
  have hr : ∀ W : World, (Op.stringOp .add Y D).run Tryd.prog W = .ok (.string (Y ++ D)) W := fun W => run_string_add_sum W _ _ (by omega)
  have K1 := Lib.hid (fun W => put_any D c W (by omega))
  have K2 := Lib.hid (fun W => put_any (Y ++ D) c W (by rw [ByteArray.size_append]; omega))
  go_enter Tryd.func8, Tryd.ntmps8
  go_wp2_with fail
  refine (put_fact _).mono ?_
  rintro e w1 ⟨rfl, hb1⟩
  go_wp2_with fail
  refine (K1.out _).mono ?_
  rintro e w2 ⟨⟨ha, hn⟩, hb2⟩
  by_cases g1 : digitsB D = true ∧ ¬ (48 ≤ c.toNat ∧ c.toNat ≤ 57)
  · obtain rfl := ha g1
    have H2 := Lib.hid (h.out.resolve_left (fun hh => hh g1))
    clear ha hn g1 h
    go_wp2_with fail
    refine (K2.out _).mono ?_
    rintro e w3 ⟨⟨ha, hn⟩, hb3⟩
    obtain rfl := hn H2.out
    clear ha hn
    go_wp2_with fail
    go_ret
    (have q1 := hb1.size; have q2 := hb2.size; exact ⟨rfl, (by (repeat (first | with_reducible exact Below.refl _ _ | with_reducible refine bel_set ?_ ?_ | with_reducible refine bel_alloc ?_ ?_ | with_reducible refine Below.drew ?_ | with_reducible refine bel_drewN _ ?_ | with_reducible refine bel_call ?_ (by assumption) ?_)); all_goals (first | (simp; done) | omega | (simp; omega)))⟩)
  · obtain rfl := hn g1
    clear ha hn g1 h
    go_wp2_with fail
    refine (K2.out _).mono ?_
    rintro e w3 ⟨⟨ha, hn⟩, hb3⟩
    by_cases g2 : digitsB (Y ++ D) = true ∧ ¬ (48 ≤ c.toNat ∧ c.toNat ≤ 57)
    · obtain rfl := ha g2
      clear ha hn g2
      go_wp2_with fail
      go_ret
      (have q1 := hb1.size; have q2 := hb2.size; exact ⟨rfl, (by (repeat (first | with_reducible exact Below.refl _ _ | with_reducible refine bel_set ?_ ?_ | with_reducible refine bel_alloc ?_ ?_ | with_reducible refine Below.drew ?_ | with_reducible refine bel_drewN _ ?_ | with_reducible refine bel_call ?_ (by assumption) ?_)); all_goals (first | (simp; done) | omega | (simp; omega)))⟩)
    · obtain rfl := hn g2
      clear ha hn g2
      go_wp2_with fail
      go_ret
      (have q1 := hb1.size; have q2 := hb2.size; exact ⟨rfl, (by (repeat (first | with_reducible exact Below.refl _ _ | with_reducible refine bel_set ?_ ?_ | with_reducible refine bel_alloc ?_ ?_ | with_reducible refine Below.drew ?_ | with_reducible refine bel_drewN _ ?_ | with_reducible refine bel_call ?_ (by assumption) ?_)); all_goals (first | (simp; done) | omega | (simp; omega)))⟩)

theorem walk12 (D Y : ByteArray) (c : UInt8) (w : World) (hd : D.size ≤ 400000000000) (hy : Y.size ≤ 400000000000) :
    Calls Tryd.prog 8 #[.string D, .string Y, .int .u8 c.toNat] w fun e w' => e = .returned (.bool true) ∧ Below w.heap.size w w' := by
  by_cases g1 : digitsB D = true ∧ ¬ (48 ≤ c.toNat ∧ c.toNat ≤ 57)
  · by_cases g2 : digitsB (Y ++ D) = true ∧ ¬ (48 ≤ c.toNat ∧ c.toNat ≤ 57)
    · exact groupMore_ok D Y c w hd hy (Lib.hid g1.1) (Lib.hid g2.1) g1.2
    · exact groupMore_no D Y c w hd hy (Lib.hid (.inr g2))
  · exact groupMore_no D Y c w hd hy (Lib.hid (.inl g1))
end Go.Proofs.YtbbafdhgoekdiaaDoor
