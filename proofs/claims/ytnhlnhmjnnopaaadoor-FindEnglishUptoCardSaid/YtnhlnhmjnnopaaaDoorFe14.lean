/- RefCut: texts put together. -/
import Derived.Test.YtnhlnhmjnnopaaaDoorFe3
import Derived.Test.YtnhlnhmjnnopaaaDoorFe1
import Derived.Lib.Split
set_option linter.unusedVariables false
set_option linter.unusedSimpArgs false
/- linguisterref1.Cut at a sign. -/
namespace Go.Proofs.YtnhlnhmjnnopaaaDoor
open Go.RowKit

theorem splitD_cut (x r : Bs) (h : 45 ∉ x) : splitD (x ++ 45 :: r) = x :: splitD r := by
  have := splitD_front x (45 :: r) [] (splitD r) h (by rw [splitD, if_pos rfl])
  simpa using this
theorem splitD_one (x : Bs) (h : 45 ∉ x) : splitD x = [x] := by
  have := splitD_front x [] [] [] h rfl
  simpa using this
theorem piece_data (s : ByteArray) (i j : Nat) : (s.extract i j).data.toList = (s.data.toList.take j).drop i := by
  rw [Lib.extract_data]
  simp [List.drop_take]

set_option maxHeartbeats 2000000 in
theorem ref_cut (s sep : ByteArray) (w : World) (hsep : sep.data.toList = [45]) (hs : s.size ≤ 1000000000) :
    Calls Tryd.prog 43 #[.string s, .string sep] w fun e w' => (∃ v ps, e = .returned v ∧ OwnsS w' w.heap.size v ps ∧ listsOf ps = splitD s.data.toList) ∧ Below w.heap.size w w' := by
  have hz : sep.size = 1 := by
    have := congrArg List.length hsep
    rw [Array.length_toList] at this
    exact this
  have HSEP := Lib.hid hsep
  have hsl : s.data.toList.length = s.size := by rw [Array.length_toList]; rfl
  have HSL := Lib.hid hsl
  have hsz1 : (sep.size : Int) = 1 := by omega
  clear hsep hsl
  go_enter Tryd.func43, Tryd.ntmps43
  go_wp2_with fail
  go_loopw [5, 6, 7] (fun v f i wr => ∃ (k p : Nat) (ps : List ByteArray) (B : Option Addr) (d : Nat), p ≤ k ∧ k ≤ s.size ∧ ps.length ≤ k ∧ i = .int .i64 k ∧ f = .int .i64 p ∧ v = .slice B ps.length d ∧ Hid (OwnsS wr w.heap.size (.slice B ps.length d) ps) ∧ Hid (Below w.heap.size w wr) ∧
      Hid (splitD s.data.toList = listsOf ps ++ splitD (s.data.toList.drop p)) ∧ Hid (45 ∉ (s.data.toList.take k).drop p)) (fun _ _ i _ => s.size - (intOf i).toNat)
  case atStart => exact ⟨0, 0, [], none, 0, Nat.le_refl _, Nat.zero_le _, Nat.le_refl _, rfl, rfl, rfl, Lib.hid (OwnsS.nil _ _), Lib.hid (Below.refl _ _), Lib.hid rfl, Lib.hid (by simp)⟩
  case round =>
    obtain ⟨k, p, ps, B, d, hpk, hk, hpl, rfl, rfl, rfl, HO, HB, HS, HN⟩ := hrel
    have hbs := HB.out.size
    have e0 : IntKind.i64.wrap ((k : Int) + (sep.size : Int)) = (k : Int) + 1 := by rw [hsz1]; exact IntWalk.i64_in _ (by omega)
    have p0 : (0 : Int) ≤ (p : Int) := by omega
    have k0 : (0 : Int) ≤ (k : Int) := by omega
    have pk : (p : Int) ≤ (k : Int) := by omega
    have ks : (k : Int) ≤ (s.size : Int) := by omega
    have ps0 : (p : Int) ≤ (s.size : Int) := by omega
    by_cases hlt : k < s.size
    · have k1 : (k : Int) + 1 ≤ (s.size : Int) := by omega
      have k2 : (k : Int) ≤ (k : Int) + 1 := by omega
      have k3 : (0 : Int) ≤ (k : Int) + 1 := by omega
      have k4 : ((k : Int) + 1).toNat = k + 1 := by omega
      have e1 : IntKind.i64.wrap ((k : Int) + 1) = (k : Int) + 1 := IntWalk.i64_in _ (by omega)
      have hg : s.data.toList[k]? = some (s.data.toList[k]'(by rw [HSL.out]; exact hlt)) := List.getElem?_eq_getElem _
      obtain ⟨ch, hch⟩ : ∃ ch, ch = s.data.toList[k]'(by rw [HSL.out]; exact hlt) := ⟨_, rfl⟩
      rw [← hch] at hg
      have hext : (s.extract k (k + 1)).toList = [ch] := by
        rw [Lib.toList_data, piece_data, List.take_add_one, hg]
        have : (s.data.toList.take k).length = k := by rw [List.length_take, HSL.out]; omega
        rw [List.drop_append_of_le_length (by omega), List.drop_of_length_le (by omega)]
        rfl
      have hsp : sep.toList = [45] := by rw [Lib.toList_data]; exact HSEP.out
      have hdrop : s.data.toList.drop p = (s.data.toList.take k).drop p ++ ch :: s.data.toList.drop (k + 1) := by
        have h1 : s.data.toList = s.data.toList.take k ++ ch :: s.data.toList.drop (k + 1) := by
          have h2 := List.drop_eq_getElem_cons (l := s.data.toList) (i := k) (by rw [HSL.out]; exact hlt)
          rw [← hch] at h2
          rw [← h2, List.take_append_drop]
        conv => lhs; rw [h1]
        rw [List.drop_append_of_le_length (by rw [List.length_take, HSL.out]; omega)]
      have hbeq : ((s.extract k (k + 1)).toList == sep.toList) = (ch == 45) := by rw [hext, hsp]; simp
      have HD := Lib.hid hdrop
      have HCH := Lib.hid hg
      clear hch hg hext hdrop hsp
      cases hc : (ch == 45)
      · rw [hc] at hbeq
        have HN2 : Hid (45 ∉ (s.data.toList.take (k + 1)).drop p) := Lib.hid (by
          rw [List.take_add_one, HCH.out, List.drop_append_of_le_length (by rw [List.length_take, HSL.out]; omega)]
          intro hm
          rcases List.mem_append.1 hm with hm | hm
          · exact HN.out hm
          · simp at hm
            rw [← hm] at hc
            simp at hc)
        clear hc HD HCH
        go_wp2_with fail
        go_roundw
        case rel => exact ⟨k + 1, p, ps, B, d, by omega, by omega, by omega, by go_num, rfl, rfl, HO, HB, HS, HN2⟩
        case measure => simp [intOf]; omega
      · rw [hc] at hbeq
        have hc2 : ch = 45 := by simpa using hc
        have HS2 : Hid (splitD s.data.toList = listsOf (ps ++ [s.extract p k]) ++ splitD (s.data.toList.drop (k + 1))) := Lib.hid (by
          rw [HS.out, HD.out, hc2, splitD_cut _ _ HN.out]
          unfold listsOf
          rw [List.map_append, List.map_cons, List.map_nil, piece_data, List.append_assoc]
          rfl)
        have HN2 : Hid (45 ∉ (s.data.toList.take (k + 1)).drop (k + 1)) := Lib.hid (by
          rw [List.drop_of_length_le (by rw [List.length_take]; omega)]
          simp)
        clear hc HD HCH hc2
        go_wp2_with (at_builtin; refine wpList_append_one rfl _ _ rfl (s.extract p k) rfl rfl (HO.out.alloc _) (by go_simp) (by simp; omega) (by omega) ?_; intro v' w' ho hoff)
        have hbl : Below w.heap.size _ w' := OwnsS.grown (HO.out.alloc (.cells #[.string (s.extract p k)] 9)) hoff (by simp; omega)
        have HB2 : Hid (Below w.heap.size w w') := Lib.hid ((HB.out.alloc hbs _).trans hbl)
        obtain ⟨A', d', rfl, _⟩ := ho.form
        have HO2 := Lib.hid ho
        clear ho hoff hbl HO HB
        go_wp2_with fail
        go_roundw
        case rel => exact ⟨k + 1, k + 1, ps ++ [s.extract p k], A', d', Nat.le_refl _, by omega, by simp; omega, by go_num, by go_num, rfl, HO2, HB2, HS2, HN2⟩
        case measure => simp [intOf]; omega
    · obtain rfl : k = s.size := by omega
      have k1 : ¬ (s.size : Int) + 1 ≤ (s.size : Int) := by omega
      have HS2 : Hid (listsOf (ps ++ [s.extract p s.size]) = splitD s.data.toList) := Lib.hid (by
        have h1 : (s.data.toList.take s.size) = s.data.toList := by rw [List.take_of_length_le]; rw [HSL.out]; exact Nat.le_refl _
        have h2 := HN.out
        rw [h1] at h2
        rw [HS.out, splitD_one _ h2]
        unfold listsOf
        rw [List.map_append, List.map_cons, List.map_nil, piece_data, h1])
      go_wp2_with (at_builtin; refine wpList_append_one rfl _ _ rfl (s.extract p s.size) rfl rfl (HO.out.alloc _) (by go_simp) (by simp; omega) (by omega) ?_; intro v' w' ho hoff)
      have hbl : Below w.heap.size _ w' := OwnsS.grown (HO.out.alloc (.cells #[.string (s.extract p s.size)] 9)) hoff (by simp; omega)
      have HB2 : Hid (Below w.heap.size w w') := Lib.hid ((HB.out.alloc hbs _).trans hbl)
      go_ret
      exact ⟨⟨v', rfl, ps ++ [s.extract p s.size], ho, HS2.out⟩, HB2.out⟩
end Go.Proofs.YtnhlnhmjnnopaaaDoor
