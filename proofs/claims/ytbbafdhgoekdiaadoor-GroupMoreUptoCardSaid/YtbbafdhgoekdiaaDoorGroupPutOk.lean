/- group.Put, the good case. -/
import Derived.Test.YtbbafdhgoekdiaaDoorGroupPut
import Derived.Test.YtbbafdhgoekdiaaDoorRev
import Derived.Laws.IdiomStrings
namespace Go.Proofs.YtbbafdhgoekdiaaDoor
open Go.RowKit

theorem conv1 (w : World) (c : UInt8) : (convert 69 9 (.slice (some ⟨w.heap.size, 0, none⟩) 1 1)).run Tryd.prog (w.alloc (.cells #[.int .u8 c.toNat] 5)) = .ok (.string ⟨#[c]⟩) (w.alloc (.cells #[.int .u8 c.toNat] 5)) := by
  refine run_convert_bytes_back _ 69 9 5 _ 1 [c] Tryd.underlying69 Tryd.underlying5 Tryd.underlying9 (fun j hj => ?_)
  have h0 : j = 0 := by simp at hj; omega
  subst h0
  rw [Go.WideShapes.add_plain, World.cell?_alloc_at _ _ _ _ rfl]
  rfl

theorem group_put_ok (s : ByteArray) (c : UInt8) (w : World) (hs : s.size ≤ 1000000000000) (hd : digitsB s = true) (hc : ¬ (48 ≤ c.toNat ∧ c.toNat ≤ 57)) :
    Calls Tryd.prog 22 #[.string s, .int .i64 3, .int .i64 0, .int .u8 c.toNat] w fun e w' => e = .returned (.tuple #[.string ⟨(grp c s.data.toList).toArray⟩, .nilIface]) ∧ Below w.heap.size w w' := by
  have HD := Lib.hid hd
  clear hd
  go_enter Tryd.func22, Tryd.ntmps22
  go_wp2_with fail
  refine (group_digits s w (by omega)).mono ?_
  rw [HD.out]
  rintro e w1 ⟨rfl, hb1⟩
  have s1 := hb1.size
  go_wp2_with fail
  refine (group_check_ok c.toNat _ (by omega)).mono ?_
  rintro e w2 ⟨rfl, rfl⟩
  go_wp2_with fail
  go_loopw [0, 11, 12] (fun v p z wr => ∃ (cur : ByteArray) (A : Option Addr) (d : Nat) (xs : List ByteArray), v = .string cur ∧ p = .slice A xs.length d ∧ z = .int .i64 3 ∧ 1 ≤ cur.size ∧ cur.size + xs.length ≤ s.size ∧ Hid (OwnsS wr w1.heap.size (.slice A xs.length d) xs) ∧ Hid (xs.map (·.data.toList) ++ pcs cur.data.toList = pcs s.data.toList) ∧ Hid (Below w1.heap.size w1 wr)) (fun v _ _ _ => sizeOfV v)
  case atStart =>
    have h1 : 1 ≤ s.size := by
      have := HD.out
      unfold digitsB at this
      rcases Nat.eq_zero_or_pos s.size with h0 | h0
      · have he : s = ⟨#[]⟩ := ByteArray.ext (Array.eq_empty_of_size_eq_zero h0)
        subst he
        rw [Lib.toList_data] at this
        cases this
      · exact h0
    exact ⟨s, none, 0, [], rfl, rfl, rfl, h1, by simp, Lib.hid (OwnsS.nil _ _), Lib.hid rfl, Lib.hid (Below.refl _ _)⟩
  case round =>
    obtain ⟨cur, A, d, xs, rfl, rfl, rfl, h1, hsum, HO, HP, HB⟩ := hrel
    by_cases h3 : 3 < cur.size
    · have i3 : (3 : Int) < (cur.size : Int) := by omega
      have e1 : IntKind.i64.wrap ((cur.size : Int) - 3) = (cur.size : Int) - 3 := IntWalk.i64_in _ (by omega)
      have hsz : (cur.extract 0 (cur.size - 3)).size = cur.size - 3 := by simp
      have hpx : pcs cur.data.toList = (cur.extract (cur.size - 3) cur.size).data.toList :: pcs (cur.extract 0 (cur.size - 3)).data.toList := by
        have hl : cur.data.toList.length = cur.size := by simp
        have ht : (cur.data.toList.drop (cur.size - 3)).take (cur.size - (cur.size - 3)) = cur.data.toList.drop (cur.size - 3) := List.take_of_length_le (by rw [List.length_drop]; omega)
        rw [pcs_big _ (by omega), Lib.extract_data, Lib.extract_data, hl, List.drop_zero, Nat.sub_zero, ht]
      have HPX := Lib.hid hpx
      have HSZ := Lib.hid hsz
      clear hpx hsz
      go_wp2_with (at_builtin; refine wpList_append_one rfl _ _ rfl (cur.extract (cur.size - 3) cur.size) rfl rfl (HO.out.alloc _) (by go_simp) (by simp; have := HB.out.size; omega) (by omega) ?_; intro v' w' ho hoff)
      have hbl : Below w1.heap.size _ w' := OwnsS.grown (HO.out.alloc (.cells #[.string (cur.extract (cur.size - 3) cur.size)] 9)) hoff (by simp; have := HB.out.size; omega)
      have HB2 : Hid (Below w1.heap.size w1 w') := Lib.hid ((HB.out.alloc HB.out.size _).trans hbl)
      obtain ⟨A', d', rfl, _⟩ := ho.form
      have HO2 := Lib.hid ho
      have HP2 : Hid ((xs ++ [cur.extract (cur.size - 3) cur.size]).map (·.data.toList) ++ pcs (cur.extract 0 (cur.size - 3)).data.toList = pcs s.data.toList) := Lib.hid (by rw [← HP.out, HPX.out, List.map_append, List.append_assoc]; rfl)
      clear ho hoff hbl HO HP HB HPX
      go_roundw
      case rel => exact ⟨_, A', d', _, rfl, rfl, rfl, by rw [HSZ.out]; omega, by rw [HSZ.out]; simp; omega, HO2, HP2, HB2⟩
      case measure => show (cur.extract 0 (cur.size - 3)).size < cur.size; rw [HSZ.out]; omega
    · have i3 : (cur.size : Int) ≤ 3 := by omega
      have hl : cur.data.toList.length = cur.size := by simp
      have hpx : pcs cur.data.toList = [cur.data.toList] := pcs_small _ (by omega)
      have hall : (xs ++ [cur]).map (·.data.toList) = pcs s.data.toList := by rw [← HP.out, hpx, List.map_append]; rfl
      have HA := Lib.hid hall
      clear hpx hall HP hl
      go_wp2_with (at_builtin; refine wpList_append_one rfl _ _ rfl cur rfl rfl (HO.out.alloc _) (by go_simp) (by simp; have := HB.out.size; omega) (by omega) ?_; intro v' w' ho hoff)
      have hbl : Below w1.heap.size _ w' := OwnsS.grown (HO.out.alloc (.cells #[.string cur] 9)) hoff (by simp; have := HB.out.size; omega)
      have HB2 : Below w1.heap.size w1 w' := (HB.out.alloc HB.out.size _).trans hbl
      obtain ⟨A', d', rfl, _⟩ := ho.form
      have hcap := ho.cap.2
      have hlen : (xs ++ [cur]).length ≤ xs.length + 1 := by simp
      clear hoff hbl HO HB
      generalize xs ++ [cur] = ys at *
      have HO2 := Lib.hid ho
      have s2 := HB2.size
      have HR := Lib.hid (fun W (h : W = w') => h ▸ rev_strs (n := ys.length) w' rfl ho s2 (by omega))
      clear ho
      go_wp2_with fail
      refine (HR.out _ rfl).mono ?_
      rintro e w3 ⟨rfl, hS3, hb3⟩
      have HS3 := Lib.hid hS3
      clear hS3 HO2 HR
      have hcv := conv1 w3 c
      have hjl : (Lib.join (ys.reverse.map (·.data.toList)) [c]) = grp c s.data.toList := by
        rw [List.map_reverse, HA.out]
        exact pcs_join c _ _ (Nat.le_refl _)
      have HJL := Lib.hid hjl
      clear hjl HA
      go_wp2_with fail
      refine (strings_joinW ys.length ⟨#[c]⟩ _ List.length_reverse (HS3.out.below ((Below.refl _ _).alloc (Nat.le_refl _) _)) hcap (by omega) (by
        rw [show (ByteArray.mk #[c]).data.toList = [c] from rfl, HJL.out]
        have h1 : 1 ≤ s.data.toList.length := by have h2 : s.data.toList.length = s.size := by simp
                                                 omega
        rw [grp_len c _ _ (Nat.le_refl _) h1]; simp; omega)).mono ?_
      rintro e w4 ⟨rfl, hb4⟩
      have s3 := hb3.size
      rw [show (ByteArray.mk #[c]).data.toList = [c] from rfl, HJL.out]
      go_wp2_with fail
      go_ret2
      exact ⟨rfl, (by (repeat (first | with_reducible exact Below.refl _ _ | with_reducible refine bel_set ?_ ?_ | with_reducible refine bel_alloc ?_ ?_ | with_reducible refine Below.drew ?_ | with_reducible refine bel_drewN _ ?_ | with_reducible refine bel_call ?_ (by assumption) ?_)); all_goals (first | (simp; done) | omega | (simp; omega)))⟩
end Go.Proofs.YtbbafdhgoekdiaaDoor
