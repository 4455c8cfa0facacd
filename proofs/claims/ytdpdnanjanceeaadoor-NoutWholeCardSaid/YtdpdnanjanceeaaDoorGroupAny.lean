/- group.Put at groups of one to four digits, the comma a comma. -/
import Derived.Test.YtdpdnanjanceeaaDoorGroup
import Derived.Test.YtdpdnanjanceeaaDoorRowsS
import Derived.Test.YtdpdnanjanceeaaDoorRev
import Derived.Test.YtdpdnanjanceeaaDoorNoutParts
import Derived.Laws.IdiomStrings
namespace Go.Proofs.YtdpdnanjanceeaaDoor
open Go.RowKit

/-- The pieces from the right: one of a signs, then each of b. -/
def pcsF : Nat → Nat → Nat → List UInt8 → List (List UInt8)
  | 0, _, _, l => [l]
  | k + 1, a, b, l => if l.length ≤ a then [l] else l.drop (l.length - a) :: pcsF k b b (l.take (l.length - a))
theorem pcsF_small (k a b : Nat) (l : List UInt8) (h : l.length ≤ a) : pcsF k a b l = [l] := by
  cases k with
  | zero => rfl
  | succ k => rw [pcsF, if_pos h]
theorem pcsF_big (k a b : Nat) (l : List UInt8) (h : ¬ l.length ≤ a) : pcsF (k + 1) a b l = l.drop (l.length - a) :: pcsF k b b (l.take (l.length - a)) := by rw [pcsF, if_neg h]
theorem pcsF_lens : ∀ (k a b : Nat) (l : List UInt8), Lib.lens (pcsF k a b l) = l.length ∧ (pcsF k a b l).length ≤ k + 1 ∧ pcsF k a b l ≠ [] := by
  intro k
  induction k with
  | zero => intro a b l; simp [pcsF, Lib.lens]
  | succ k ih =>
    intro a b l
    by_cases h : l.length ≤ a
    · rw [pcsF_small _ _ _ _ h]; simp [Lib.lens]
    · obtain ⟨h1, h2, _⟩ := ih b b (l.take (l.length - a))
      rw [pcsF_big _ _ _ _ h]
      refine ⟨?_, by simp; omega, by simp⟩
      have e : Lib.lens (l.drop (l.length - a) :: pcsF k b b (l.take (l.length - a))) = (l.drop (l.length - a)).length + Lib.lens (pcsF k b b (l.take (l.length - a))) := by simp [Lib.lens]
      rw [e, h1, List.length_drop, List.length_take]
      omega
/-- The text with its groups. -/
def grpT (a b : Nat) (s : ByteArray) : ByteArray := ⟨(Lib.join (pcsF s.size a b s.data.toList).reverse [44]).toArray⟩
theorem grpT_size (a b : Nat) (s : ByteArray) : (grpT a b s).size ≤ 2 * s.size := by
  obtain ⟨h1, h2, h3⟩ := pcsF_lens s.size a b s.data.toList
  show (Lib.join (pcsF s.size a b s.data.toList).reverse [44]).length ≤ _
  rw [join_len]
  have hr : Lib.lens (pcsF s.size a b s.data.toList).reverse = Lib.lens (pcsF s.size a b s.data.toList) := by
    unfold Lib.lens
    rw [List.map_reverse, List.sum_reverse]
  have hs : s.data.toList.length = s.size := by simp
  rw [hr, h1, List.length_reverse]
  simp only [List.length_cons, List.length_nil]
  omega

theorem group_check_any (g g2 : Nat) (w : World) (h : g ≤ 4) (h2 : g2 ≤ 4) :
    Calls Tryd.prog 65 #[.int .i64 g, .int .i64 g2, .int .u8 44] w fun e w' => e = .returned .nilIface ∧ w = w' := by
  have m1 : ¬ (g : Int) < 0 := by omega
  have m2 : ¬ 4 < (g : Int) := by omega
  have m3 : ¬ (g2 : Int) < 0 := by omega
  have m4 : ¬ 4 < (g2 : Int) := by omega
  go_enter Tryd.func65, Tryd.ntmps65
  go_wp2_with fail
  all_goals go_ret
  all_goals exact ⟨rfl, rfl⟩

theorem conv44 (w : World) : (convert 108 9 (.slice (some ⟨w.heap.size, 0, none⟩) 1 1)).run Tryd.prog (w.alloc (.cells #[.int .u8 44] 5)) = .ok (.string ⟨#[44]⟩) (w.alloc (.cells #[.int .u8 44] 5)) := by
  refine run_convert_bytes_back _ 108 9 5 _ 1 [44] Tryd.underlying108 Tryd.underlying5 Tryd.underlying9 (fun j hj => ?_)
  have h0 : j = 0 := by simp at hj; omega
  subst h0
  rw [Go.WideShapes.add_plain, World.cell?_alloc_at _ _ _ _ rfl]
  rfl


set_option maxHeartbeats 2000000 in
theorem group_put_one (g : Nat) (s : ByteArray) (w : World) (hs1 : 1 ≤ s.size) (hs : s.size ≤ 100) (hd : digitsB s = true) (h1 : 1 ≤ g) (h4 : g ≤ 4) :
    Calls Tryd.prog 25 #[.string s, .int .i64 g, .int .i64 0, .int .u8 44] w fun e w' => e = .returned (.tuple #[.string (grpT g g s), .nilIface]) ∧ Below w.heap.size w w' := by
  have HD := Lib.hid hd
  clear hd
  have KC : Hid (∀ W : World, Calls Tryd.prog 65 #[.int .i64 g, .int .i64 0, .int .u8 44] W fun e w' => e = .returned .nilIface ∧ W = w') := Lib.hid (fun W => group_check_any g 0 W (by omega) (by omega))
  have hb1 : 1 ≤ g := h1
  have hb4 : g ≤ 4 := h4
  have ng : ((g : Int) == 0) = false := by rw [beq_eq_false_iff_ne]; omega
  go_enter Tryd.func25, Tryd.ntmps25
  go_wp2_with fail
  refine (group_digits s w (by omega)).mono ?_
  rw [HD.out]
  rintro e w1 ⟨rfl, hb⟩
  have s1 := hb.size
  go_wp2_with fail
  refine (KC.out _).mono ?_
  rintro e w2 ⟨rfl, rfl⟩
  go_wp2_with fail
  go_loopw [0, 11, 12] (fun v p z wr => ∃ (cur : ByteArray) (A : Option Addr) (d : Nat) (xs : List ByteArray) (c k : Nat), v = .string cur ∧ p = .slice A xs.length d ∧ z = .int .i64 c ∧ 1 ≤ c ∧ c ≤ 4 ∧ 1 ≤ cur.size ∧ cur.size ≤ k ∧ cur.size + xs.length ≤ s.size ∧ Hid (OwnsS wr w1.heap.size (.slice A xs.length d) xs) ∧ Hid (xs.map (·.data.toList) ++ pcsF k c g cur.data.toList = pcsF s.size g g s.data.toList) ∧ Hid (Below w1.heap.size w1 wr)) (fun v _ _ _ => sizeOfV v)
  case atStart => exact ⟨s, none, 0, [], g, s.size, rfl, rfl, rfl, h1, h4, hs1, Nat.le_refl _, by simp, Lib.hid (OwnsS.nil _ _), Lib.hid rfl, Lib.hid (Below.refl _ _)⟩
  case round =>
    obtain ⟨cur, A, d, xs, c, k, rfl, rfl, rfl, hc1, hc4, hcu, hck, hsum, HO, HP, HB⟩ := hrel
    by_cases h3 : c < cur.size
    · have i3 : (c : Int) < (cur.size : Int) := by omega
      have e1 : IntKind.i64.wrap ((cur.size : Int) - (c : Int)) = (cur.size : Int) - (c : Int) := IntWalk.i64_in _ (by omega)
      have e2 : ((cur.size : Int) - (c : Int)).toNat = cur.size - c := by omega
      have j1 : (0 : Int) ≤ (cur.size : Int) - (c : Int) := by omega
      have j2 : (cur.size : Int) - (c : Int) ≤ (cur.size : Int) := by omega
      have hsz : (cur.extract 0 (cur.size - c)).size = cur.size - c := by simp
      obtain ⟨k', rfl⟩ : ∃ k', k = k' + 1 := ⟨k - 1, by omega⟩
      have hpx : pcsF (k' + 1) c g cur.data.toList = (cur.extract (cur.size - c) cur.size).data.toList :: pcsF k' g g (cur.extract 0 (cur.size - c)).data.toList := by
        have hl : cur.data.toList.length = cur.size := by simp
        have ht : (cur.data.toList.drop (cur.size - c)).take (cur.size - (cur.size - c)) = cur.data.toList.drop (cur.size - c) := List.take_of_length_le (by rw [List.length_drop]; omega)
        rw [pcsF_big _ _ _ _ (by omega), Lib.extract_data, Lib.extract_data, hl, List.drop_zero, Nat.sub_zero, ht]
      have HPX := Lib.hid hpx
      have HSZ := Lib.hid hsz
      clear hpx hsz
      go_wp2_with (at_builtin; refine wpList_append_one rfl _ _ rfl (cur.extract (cur.size - c) cur.size) rfl rfl (HO.out.alloc _) (by go_simp) (by simp; have := HB.out.size; omega) (by omega) ?_; intro v' w' ho hoff)
      have hbl : Below w1.heap.size _ w' := OwnsS.grown (HO.out.alloc (.cells #[.string (cur.extract (cur.size - c) cur.size)] 9)) hoff (by simp; have := HB.out.size; omega)
      have HB2 : Hid (Below w1.heap.size w1 w') := Lib.hid ((HB.out.alloc HB.out.size _).trans hbl)
      obtain ⟨A', d', rfl, _⟩ := ho.form
      have HO2 := Lib.hid ho
      have HP2 : Hid ((xs ++ [cur.extract (cur.size - c) cur.size]).map (·.data.toList) ++ pcsF k' g g (cur.extract 0 (cur.size - c)).data.toList = pcsF s.size g g s.data.toList) := Lib.hid (by rw [← HP.out, HPX.out, List.map_append, List.append_assoc]; rfl)
      clear ho hoff hbl HO HP HB HPX
      go_roundw
      case rel => exact ⟨_, A', d', _, g, k', rfl, rfl, rfl, hb1, hb4, by rw [HSZ.out]; omega, by rw [HSZ.out]; omega, by rw [HSZ.out]; simp; omega, HO2, HP2, HB2⟩
      case measure => show (cur.extract 0 (cur.size - c)).size < cur.size; rw [HSZ.out]; omega
    · have i3 : (cur.size : Int) ≤ (c : Int) := by omega
      have i4 : ¬ (c : Int) < (cur.size : Int) := by omega
      have hl : cur.data.toList.length = cur.size := by simp
      have hpx : pcsF k c g cur.data.toList = [cur.data.toList] := pcsF_small _ _ _ _ (by omega)
      have hall : (xs ++ [cur]).map (·.data.toList) = pcsF s.size g g s.data.toList := by rw [← HP.out, hpx, List.map_append]; rfl
      have HA := Lib.hid hall
      clear hpx hall HP hl
      go_wp2_with (at_builtin; refine wpList_append_one rfl _ _ rfl cur rfl rfl (HO.out.alloc _) (by go_simp) (by simp; have := HB.out.size; omega) (by omega) ?_; intro v' w' ho hoff)
      have hbl : Below w1.heap.size _ w' := OwnsS.grown (HO.out.alloc (.cells #[.string cur] 9)) hoff (by simp; have := HB.out.size; omega)
      have HB2 : Below w1.heap.size w1 w' := (HB.out.alloc HB.out.size _).trans hbl
      obtain ⟨A', d', rfl, _⟩ := ho.form
      have hcap := ho.cap.2
      have hlen : (xs ++ [cur]).length ≤ xs.length + 1 := by simp
      clear hoff hbl HO HB
      generalize xs ++ [cur] = ys at *
      have HO2 := Lib.hid ho
      have s2 := HB2.size
      have HR := Lib.hid (fun W (h : W = w') => h ▸ rev_strs (n := ys.length) w' rfl ho s2 (by omega))
      clear ho
      go_wp2_with fail
      refine (HR.out _ rfl).mono ?_
      rintro e w3 ⟨rfl, hS3, hb3⟩
      have HS3 := Lib.hid hS3
      clear hS3 HO2 HR
      have hcv := conv44 w3
      have hgs := grpT_size g g s
      have hjl : (⟨(Lib.join (ys.reverse.map (·.data.toList)) [44]).toArray⟩ : ByteArray) = grpT g g s := by
        unfold grpT
        rw [List.map_reverse, HA.out]
      have hjn : (Lib.join (ys.reverse.map (·.data.toList)) [44]).length = (grpT g g s).size := by rw [← hjl]; rfl
      have HJL := Lib.hid hjl
      clear hjl HA
      go_wp2_with fail
      refine (strings_joinW ys.length ⟨#[44]⟩ _ List.length_reverse (HS3.out.below ((Below.refl _ _).alloc (Nat.le_refl _) _)) hcap (by omega) (by
        rw [show (ByteArray.mk #[44]).data.toList = [44] from rfl, hjn]
        omega)).mono ?_
      rintro e w4 ⟨rfl, hb4'⟩
      have s3 := hb3.size
      rw [show (ByteArray.mk #[44]).data.toList = [44] from rfl, HJL.out]
      go_wp2_with fail
      go_ret2
      exact ⟨rfl, (by (repeat (first | with_reducible exact Below.refl _ _ | with_reducible refine bel_set ?_ ?_ | with_reducible refine bel_alloc ?_ ?_ | with_reducible refine Below.drew ?_ | with_reducible refine bel_drewN _ ?_ | with_reducible refine bel_call ?_ (by assumption) ?_)); all_goals (first | (simp; done) | omega | (simp; omega)))⟩


set_option maxHeartbeats 2000000 in
theorem group_put_two (g b : Nat) (s : ByteArray) (w : World) (hs1 : 1 ≤ s.size) (hs : s.size ≤ 100) (hd : digitsB s = true) (h1 : 1 ≤ g) (h4 : g ≤ 4) (hb1 : 1 ≤ b) (hb4 : b ≤ 4) :
    Calls Tryd.prog 25 #[.string s, .int .i64 g, .int .i64 b, .int .u8 44] w fun e w' => e = .returned (.tuple #[.string (grpT g b s), .nilIface]) ∧ Below w.heap.size w w' := by
  have HD := Lib.hid hd
  clear hd
  have KC : Hid (∀ W : World, Calls Tryd.prog 65 #[.int .i64 g, .int .i64 b, .int .u8 44] W fun e w' => e = .returned .nilIface ∧ W = w') := Lib.hid (fun W => group_check_any g b W (by omega) (by omega))
  have nb : ((b : Int) == 0) = false := by rw [beq_eq_false_iff_ne]; omega
  have ng : ((g : Int) == 0) = false := by rw [beq_eq_false_iff_ne]; omega
  go_enter Tryd.func25, Tryd.ntmps25
  go_wp2_with fail
  refine (group_digits s w (by omega)).mono ?_
  rw [HD.out]
  rintro e w1 ⟨rfl, hb⟩
  have s1 := hb.size
  go_wp2_with fail
  refine (KC.out _).mono ?_
  rintro e w2 ⟨rfl, rfl⟩
  go_wp2_with fail
  go_loopw [0, 11, 12] (fun v p z wr => ∃ (cur : ByteArray) (A : Option Addr) (d : Nat) (xs : List ByteArray) (c k : Nat), v = .string cur ∧ p = .slice A xs.length d ∧ z = .int .i64 c ∧ 1 ≤ c ∧ c ≤ 4 ∧ 1 ≤ cur.size ∧ cur.size ≤ k ∧ cur.size + xs.length ≤ s.size ∧ Hid (OwnsS wr w1.heap.size (.slice A xs.length d) xs) ∧ Hid (xs.map (·.data.toList) ++ pcsF k c b cur.data.toList = pcsF s.size g b s.data.toList) ∧ Hid (Below w1.heap.size w1 wr)) (fun v _ _ _ => sizeOfV v)
  case atStart => exact ⟨s, none, 0, [], g, s.size, rfl, rfl, rfl, h1, h4, hs1, Nat.le_refl _, by simp, Lib.hid (OwnsS.nil _ _), Lib.hid rfl, Lib.hid (Below.refl _ _)⟩
  case round =>
    obtain ⟨cur, A, d, xs, c, k, rfl, rfl, rfl, hc1, hc4, hcu, hck, hsum, HO, HP, HB⟩ := hrel
    by_cases h3 : c < cur.size
    · have i3 : (c : Int) < (cur.size : Int) := by omega
      have e1 : IntKind.i64.wrap ((cur.size : Int) - (c : Int)) = (cur.size : Int) - (c : Int) := IntWalk.i64_in _ (by omega)
      have e2 : ((cur.size : Int) - (c : Int)).toNat = cur.size - c := by omega
      have j1 : (0 : Int) ≤ (cur.size : Int) - (c : Int) := by omega
      have j2 : (cur.size : Int) - (c : Int) ≤ (cur.size : Int) := by omega
      have hsz : (cur.extract 0 (cur.size - c)).size = cur.size - c := by simp
      obtain ⟨k', rfl⟩ : ∃ k', k = k' + 1 := ⟨k - 1, by omega⟩
      have hpx : pcsF (k' + 1) c b cur.data.toList = (cur.extract (cur.size - c) cur.size).data.toList :: pcsF k' b b (cur.extract 0 (cur.size - c)).data.toList := by
        have hl : cur.data.toList.length = cur.size := by simp
        have ht : (cur.data.toList.drop (cur.size - c)).take (cur.size - (cur.size - c)) = cur.data.toList.drop (cur.size - c) := List.take_of_length_le (by rw [List.length_drop]; omega)
        rw [pcsF_big _ _ _ _ (by omega), Lib.extract_data, Lib.extract_data, hl, List.drop_zero, Nat.sub_zero, ht]
      have HPX := Lib.hid hpx
      have HSZ := Lib.hid hsz
      clear hpx hsz
      go_wp2_with (at_builtin; refine wpList_append_one rfl _ _ rfl (cur.extract (cur.size - c) cur.size) rfl rfl (HO.out.alloc _) (by go_simp) (by simp; have := HB.out.size; omega) (by omega) ?_; intro v' w' ho hoff)
      have hbl : Below w1.heap.size _ w' := OwnsS.grown (HO.out.alloc (.cells #[.string (cur.extract (cur.size - c) cur.size)] 9)) hoff (by simp; have := HB.out.size; omega)
      have HB2 : Hid (Below w1.heap.size w1 w') := Lib.hid ((HB.out.alloc HB.out.size _).trans hbl)
      obtain ⟨A', d', rfl, _⟩ := ho.form
      have HO2 := Lib.hid ho
      have HP2 : Hid ((xs ++ [cur.extract (cur.size - c) cur.size]).map (·.data.toList) ++ pcsF k' b b (cur.extract 0 (cur.size - c)).data.toList = pcsF s.size g b s.data.toList) := Lib.hid (by rw [← HP.out, HPX.out, List.map_append, List.append_assoc]; rfl)
      clear ho hoff hbl HO HP HB HPX
      go_roundw
      case rel => exact ⟨_, A', d', _, b, k', rfl, rfl, rfl, hb1, hb4, by rw [HSZ.out]; omega, by rw [HSZ.out]; omega, by rw [HSZ.out]; simp; omega, HO2, HP2, HB2⟩
      case measure => show (cur.extract 0 (cur.size - c)).size < cur.size; rw [HSZ.out]; omega
    · have i3 : (cur.size : Int) ≤ (c : Int) := by omega
      have i4 : ¬ (c : Int) < (cur.size : Int) := by omega
      have hl : cur.data.toList.length = cur.size := by simp
      have hpx : pcsF k c b cur.data.toList = [cur.data.toList] := pcsF_small _ _ _ _ (by omega)
      have hall : (xs ++ [cur]).map (·.data.toList) = pcsF s.size g b s.data.toList := by rw [← HP.out, hpx, List.map_append]; rfl
      have HA := Lib.hid hall
      clear hpx hall HP hl
      go_wp2_with (at_builtin; refine wpList_append_one rfl _ _ rfl cur rfl rfl (HO.out.alloc _) (by go_simp) (by simp; have := HB.out.size; omega) (by omega) ?_; intro v' w' ho hoff)
      have hbl : Below w1.heap.size _ w' := OwnsS.grown (HO.out.alloc (.cells #[.string cur] 9)) hoff (by simp; have := HB.out.size; omega)
      have HB2 : Below w1.heap.size w1 w' := (HB.out.alloc HB.out.size _).trans hbl
      obtain ⟨A', d', rfl, _⟩ := ho.form
      have hcap := ho.cap.2
      have hlen : (xs ++ [cur]).length ≤ xs.length + 1 := by simp
      clear hoff hbl HO HB
      generalize xs ++ [cur] = ys at *
      have HO2 := Lib.hid ho
      have s2 := HB2.size
      have HR := Lib.hid (fun W (h : W = w') => h ▸ rev_strs (n := ys.length) w' rfl ho s2 (by omega))
      clear ho
      go_wp2_with fail
      refine (HR.out _ rfl).mono ?_
      rintro e w3 ⟨rfl, hS3, hb3⟩
      have HS3 := Lib.hid hS3
      clear hS3 HO2 HR
      have hcv := conv44 w3
      have hgs := grpT_size g b s
      have hjl : (⟨(Lib.join (ys.reverse.map (·.data.toList)) [44]).toArray⟩ : ByteArray) = grpT g b s := by
        unfold grpT
        rw [List.map_reverse, HA.out]
      have hjn : (Lib.join (ys.reverse.map (·.data.toList)) [44]).length = (grpT g b s).size := by rw [← hjl]; rfl
      have HJL := Lib.hid hjl
      clear hjl HA
      go_wp2_with fail
      refine (strings_joinW ys.length ⟨#[44]⟩ _ List.length_reverse (HS3.out.below ((Below.refl _ _).alloc (Nat.le_refl _) _)) hcap (by omega) (by
        rw [show (ByteArray.mk #[44]).data.toList = [44] from rfl, hjn]
        omega)).mono ?_
      rintro e w4 ⟨rfl, hb4'⟩
      have s3 := hb3.size
      rw [show (ByteArray.mk #[44]).data.toList = [44] from rfl, HJL.out]
      go_wp2_with fail
      go_ret2
      exact ⟨rfl, (by (repeat (first | with_reducible exact Below.refl _ _ | with_reducible refine bel_set ?_ ?_ | with_reducible refine bel_alloc ?_ ?_ | with_reducible refine Below.drew ?_ | with_reducible refine bel_drewN _ ?_ | with_reducible refine bel_call ?_ (by assumption) ?_)); all_goals (first | (simp; done) | omega | (simp; omega)))⟩

end Go.Proofs.YtdpdnanjanceeaaDoor
