/- Bare: texts put together. -/
import Derived.Test.YtnhlnhmjnnopaaaGreatDoorPp22
import Derived.Test.YtnhlnhmjnnopaaaGreatDoorPp1
import Derived.Test.YtnhlnhmjnnopaaaGreatDoorPp2
import Derived.WalkLawsBesides
set_option linter.unusedVariables false
set_option linter.unusedSimpArgs false
/- prop.bare: an escaped text, bare again. Printed by gens/Bare.py. -/
namespace Go.Proofs.YtnhlnhmjnnopaaaGreatDoor
open Go.RowKit

set_option maxHeartbeats 2000000 in
theorem prop_bare (s : ByteArray) (w : World) (hs : s.size ≤ 1099511627776) :
    Calls Tryz.prog 45 #[.string s] w fun e w' => e = .returned (.string ⟨(bareP s.data.toList).toArray⟩) ∧ Below w.heap.size w w' := by
  go_enter Tryz.func45, Tryz.ntmps45
  go_wp2_with fail
  have hB0 : Lib.IsBuilderF 85 5 w.heap.size w.heap.size [] (w.alloc (.cells #[.pointer none, .slice none 0 0] 85)) := Lib.IsBuilderF.of (Lib.fresh_isBuilder _ _ w)
  go_loopw [4] (fun i wr => ∃ (k : Nat) (o : List UInt8), k ≤ s.size ∧ o.length ≤ k ∧ i = .int .i64 k ∧ Hid (o ++ bareP (s.data.toList.drop k) = bareP s.data.toList) ∧ Lib.IsBuilderF 85 5 w.heap.size w.heap.size (Lib.byteCells o) wr ∧ Below w.heap.size w wr) (fun i _ => s.size - (intOf i).toNat)
  case atStart => exact ⟨0, [], Nat.zero_le _, Nat.le_refl _, rfl, Lib.hid rfl, hB0, (by (repeat (first | with_reducible exact Below.refl _ _ | with_reducible refine bel_set ?_ ?_ | with_reducible refine bel_alloc ?_ ?_ | with_reducible refine Below.drew ?_ | with_reducible refine bel_drewN _ ?_ | with_reducible refine bel_call ?_ (by assumption) ?_)); all_goals (first | (simp; done) | omega | (simp; omega)))⟩
  case round =>
    obtain ⟨k, o, hk, ho, rfl, HO, hB, hbr⟩ := hrel
    have hbz := hbr.size
    have hL : Hid (o.length + 1 ≤ 140737488355328) := Lib.hid (by omega)
    by_cases hlt : k < s.size
    · have hg : s.data.toList[k]? = some s[k] := by rw [List.getElem?_eq_getElem (by simpa using hlt)]; rfl
      by_cases hc : s[k] = 92
      · have hc1 : ((s[k].toNat : Nat) : Int) = 92 := by rw [hc]; rfl
        by_cases h1 : k + 1 < s.size
        · have hd : s.data.toList[k + 1]? = some s[k + 1] := by rw [List.getElem?_eq_getElem (by simpa using h1)]; rfl
          have hi1 : ((k : Int) + 1 < (s.size : Int)) := by omega
          have hat := bare_at hg hd
          rw [if_pos hc] at hat
          have HAT := Lib.hid hat
          clear hat
          by_cases d1 : s[k + 1] = 110
          · have e1 : ((s[k + 1].toNat : Nat) : Int) = 110 := by rw [d1]; rfl
            have hu : unB s[k + 1] = 10 := by rw [d1]; rfl
            go_wp2_with fail
            refine (Builder_WriteByte w.heap.size w.heap.size _ _ _ hB (by rw [Lib.byteCells_length]; exact hL.out) hbz).mono ?_
            rintro e w2 ⟨rfl, hB2, hb2, hk2⟩
            have hbw2 : Below w.heap.size w w2 := hbr.trans hb2
            go_wp2_with fail
            go_roundw
            case rel => exact ⟨k + 2, o ++ [10], by omega, by rw [List.length_append]; show o.length + 1 ≤ _; omega, by go_num, Lib.hid (by rw [← HO.out, HAT.out, hu, List.append_assoc]; rfl), by rw [Lib.byteCells_append]; exact Or.inr hB2, hbw2⟩
            case measure => simp [intOf]; omega
          · have e1 : ¬ ((s[k + 1].toNat : Nat) : Int) = 110 := fun h => d1 (UInt8.toNat_inj.mp (by show _ = 110; omega))
            by_cases d2 : s[k + 1] = 114
            · have e2 : ((s[k + 1].toNat : Nat) : Int) = 114 := by rw [d2]; rfl
              have hu : unB s[k + 1] = 13 := by rw [d2]; rfl
              go_wp2_with fail
              refine (Builder_WriteByte w.heap.size w.heap.size _ _ _ hB (by rw [Lib.byteCells_length]; exact hL.out) hbz).mono ?_
              rintro e w2 ⟨rfl, hB2, hb2, hk2⟩
              have hbw2 : Below w.heap.size w w2 := hbr.trans hb2
              go_wp2_with fail
              go_roundw
              case rel => exact ⟨k + 2, o ++ [13], by omega, by rw [List.length_append]; show o.length + 1 ≤ _; omega, by go_num, Lib.hid (by rw [← HO.out, HAT.out, hu, List.append_assoc]; rfl), by rw [Lib.byteCells_append]; exact Or.inr hB2, hbw2⟩
              case measure => simp [intOf]; omega
            · have e2 : ¬ ((s[k + 1].toNat : Nat) : Int) = 114 := fun h => d2 (UInt8.toNat_inj.mp (by show _ = 114; omega))
              have hu : unB s[k + 1] = 92 := by unfold unB; rw [if_neg d1, if_neg d2]
              go_wp2_with fail
              refine (Builder_WriteByte w.heap.size w.heap.size _ _ _ hB (by rw [Lib.byteCells_length]; exact hL.out) hbz).mono ?_
              rintro e w2 ⟨rfl, hB2, hb2, hk2⟩
              have hbw2 : Below w.heap.size w w2 := hbr.trans hb2
              go_wp2_with fail
              go_roundw
              case rel => exact ⟨k + 2, o ++ [92], by omega, by rw [List.length_append]; show o.length + 1 ≤ _; omega, by go_num, Lib.hid (by rw [← HO.out, HAT.out, hu, List.append_assoc]; rfl), by rw [Lib.byteCells_append]; exact Or.inr hB2, hbw2⟩
              case measure => simp [intOf]; omega
        · have hi1 : ¬ ((k : Int) + 1 < (s.size : Int)) := by omega
          have HC : Hid (s[k] = 92) := Lib.hid hc
          have HAT := Lib.hid (bare_end hg (by rw [Array.length_toList]; show s.size = k + 1; omega))
          have HE : Hid (bareP (s.data.toList.drop (k + 1)) = []) := Lib.hid (by rw [List.drop_eq_nil_of_le (by rw [Array.length_toList]; show s.size ≤ k + 1; omega)]; rfl)
          go_wp2_with fail
          refine (Builder_WriteByte w.heap.size w.heap.size _ _ _ hB (by rw [Lib.byteCells_length]; exact hL.out) hbz).mono ?_
          rintro e w2 ⟨rfl, hB2, hb2, hk2⟩
          have hbw2 : Below w.heap.size w w2 := hbr.trans hb2
          go_wp2_with fail
          go_roundw
          case rel => exact ⟨k + 1, o ++ [92], by omega, by rw [List.length_append]; show o.length + 1 ≤ _; omega, by go_num, Lib.hid (by rw [← HO.out, HAT.out, HE.out, HC.out, List.append_assoc]; rfl), by rw [Lib.byteCells_append]; exact Or.inr hB2, hbw2⟩
          case measure => simp [intOf]; omega
      · have hc1 : ¬ ((s[k].toNat : Nat) : Int) = 92 := fun h => hc (UInt8.toNat_inj.mp (by show _ = 92; omega))
        have HAT : Hid (bareP (s.data.toList.drop k) = s[k] :: bareP (s.data.toList.drop (k + 1))) := Lib.hid (by
          rw [List.drop_eq_getElem_cons (by simpa using hlt)]
          exact bare_other _ hc _)
        go_wp2_with fail
        refine (Builder_WriteByte w.heap.size w.heap.size _ _ _ hB (by rw [Lib.byteCells_length]; exact hL.out) hbz).mono ?_
        rintro e w2 ⟨rfl, hB2, hb2, hk2⟩
        have hbw2 : Below w.heap.size w w2 := hbr.trans hb2
        go_wp2_with fail
        go_roundw
        case rel => exact ⟨k + 1, o ++ [s[k]], by omega, by rw [List.length_append]; show o.length + 1 ≤ _; omega, by go_num, Lib.hid (by rw [← HO.out, HAT.out, List.append_assoc]; rfl), by rw [Lib.byteCells_append]; exact Or.inr hB2, hbw2⟩
        case measure => simp [intOf]; omega
    · obtain rfl : k = s.size := by omega
      have he : o = bareP s.data.toList := by rw [← HO.out, List.drop_eq_nil_of_le (by rw [Array.length_toList]; exact Nat.le_refl _)]; exact (List.append_nil o).symm
      subst he
      clear HO hL ho
      go_wp2_with fail
      refine (Tryz.Builder_String_any_k w.heap.size w.heap.size _ _ hB hbz).mono ?_
      rintro e w2 ⟨rfl, hB2, hb2, hk2⟩
      have hbw2 : Below w.heap.size w w2 := hbr.trans hb2
      go_wp2_with fail
      go_ret
      exact ⟨rfl, hbw2⟩
end Go.Proofs.YtnhlnhmjnnopaaaGreatDoor
