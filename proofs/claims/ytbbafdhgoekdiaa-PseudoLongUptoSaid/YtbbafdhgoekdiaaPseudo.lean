/- Contracts of pseudo.doubled, pseudo.Text. -/
import Derived.Test.YtbbafdhgoekdiaaBuilder
import Derived.Test.YtbbafdhgoekdiaaBase
import Derived.Test.YtbbafdhgoekdiaaPseudoPlain
import Derived.WalkLawsBesides
namespace Go.Proofs.Ytbbafdhgoekdiaa
open Go.RowKit

theorem byte_back (c : UInt8) : ((c.toNat : Int).toNat).toUInt8 = c := by simp

set_option maxHeartbeats 1000000 in
theorem pseudo_doubled (s : ByteArray) (w : World) (hs : s.size ≤ 1099511627776) :
    Calls Try.prog 21 #[.string s] w fun e w' => e = .returned (.string ⟨(dblL s.data.toList).toArray⟩) ∧ Below w.heap.size w w' := by
  go_enter Try.func21, Try.ntmps21
  go_wp2_with fail
  have hB0 : Lib.IsBuilderF 65 5 w.heap.size w.heap.size [] (w.alloc (.cells #[.pointer none, .slice none 0 0] 65)) := Lib.IsBuilderF.of (Lib.fresh_isBuilder _ _ w)
  go_loopw [7] (fun i wr => ∃ k : Nat, k ≤ s.size ∧ i = .int .i64 k ∧ Lib.IsBuilderF 65 5 w.heap.size w.heap.size (Lib.byteCells (dblL (s.data.toList.take k))) wr ∧ Below w.heap.size w wr) (fun i _ => s.size - (intOf i).toNat)
  case atStart => exact ⟨0, Nat.zero_le _, rfl, hB0, (by (repeat (first | with_reducible exact Below.refl _ _ | with_reducible refine bel_set ?_ ?_ | with_reducible refine bel_alloc ?_ ?_ | with_reducible refine Below.drew ?_ | with_reducible refine bel_drewN _ ?_ | with_reducible refine bel_call ?_ (by assumption) ?_)); all_goals (first | (simp; done) | omega | (simp; omega)))⟩
  case round =>
    obtain ⟨k, hk, rfl, hB, hbr⟩ := hrel
    have hbz := hbr.size
    have hl1 := dblL_length (s.data.toList.take k)
    have hl2 := vowN_le (s.data.toList.take k)
    have hl3 : (s.data.toList.take k).length ≤ k := List.length_take_le _ _
    by_cases hlt : k < s.size
    · have hsn := dblL_snoc (s.data.toList.take k) s[k]
      rw [← take_snoc s k hlt] at hsn
      have HS := Lib.hid hsn
      have HL := Lib.hid hl1
      clear hsn hl1
      go_wp2_with fail
      refine (Builder_WriteByte w.heap.size w.heap.size _ _ _ hB (by rw [Lib.byteCells_length]; have := HL.out; omega) hbz).mono ?_
      rintro e w2 ⟨rfl, hB2, hb2, hk2⟩
      have hbw2 : Below w.heap.size w w2 := hbr.trans hb2
      have hz2 := hbw2.size
      have hB2' := Or.inr hB2 (a := Lib.BuilderAtF 65 5 w.heap.size w.heap.size (.pointer none) (Lib.byteCells (dblL (s.data.toList.take k)) ++ [.int .u8 s[k].toNat]) w2)
      clear hB hB2 hb2 hk2
      go_wp2_with fail
      refine (Try.strings_IndexByte _ _ _).mono ?_
      rintro e w3 ⟨rfl, rfl⟩
      rw [byte_back]
      have hv : (0 ≤ Lib.indexByte vowels s[k]) ↔ vowB s[k] = true := vow_index s[k]
      have hc : Lib.indexByte (⟨#[97, 101, 105, 111, 117, 65, 69, 73, 79, 85]⟩ : ByteArray).data.toList s[k] = Lib.indexByte vowels s[k] := rfl
      rw [hc]
      clear hc
      generalize Lib.indexByte vowels s[k] = ix at hv ⊢
      by_cases hvo : vowB s[k] = true
      · have hix := hv.2 hvo
        clear hv
        have HV := Lib.hid hvo
        clear hvo
        go_wp2_with fail
        refine (Builder_WriteByte w.heap.size w.heap.size _ _ _ hB2' (by rw [List.length_append, Lib.byteCells_length, List.length_singleton]; have := HL.out; omega) hz2).mono ?_
        rintro e w4 ⟨rfl, hB4, hb4, hk4⟩
        have hbw4 : Below w.heap.size w w4 := hbw2.trans hb4
        clear hB2' hb4 hk4
        go_wp2_with fail
        go_roundw
        case rel => exact ⟨k + 1, by omega, by go_num, by rw [HS.out, if_pos HV.out, Lib.byteCells_append, show Lib.byteCells [s[k], s[k]] = [.int .u8 s[k].toNat] ++ [.int .u8 s[k].toNat] from rfl, ← List.append_assoc]; exact Or.inr hB4, hbw4⟩
        case measure => simp [intOf]; omega
      · have hix : ix < 0 := by have := mt hv.1 hvo; omega
        clear hv
        have HV := Lib.hid hvo
        clear hvo
        go_wp2_with fail
        go_roundw
        case rel => exact ⟨k + 1, by omega, by go_num, by rw [HS.out, if_neg HV.out, Lib.byteCells_append, show Lib.byteCells [s[k]] = [.int .u8 s[k].toNat] from rfl]; exact hB2', hbw2⟩
        case measure => simp [intOf]; omega
    · obtain rfl : k = s.size := by omega
      have ht : s.data.toList.take s.size = s.data.toList := List.take_of_length_le (by simp)
      rw [ht] at hB
      clear hl1 hl2 hl3 ht
      go_wp2_with fail
      refine (Try.Builder_String_any_k w.heap.size w.heap.size _ _ hB hbz).mono ?_
      rintro e w2 ⟨rfl, hB2, hb2, hk2⟩
      have hbw2 : Below w.heap.size w w2 := hbr.trans hb2
      go_wp2_with fail
      go_ret
      exact ⟨rfl, hbw2⟩

theorem pseudo_text (s : ByteArray) (w : World) (hs : s.size ≤ 1099511627776) :
    Calls Try.prog 8 #[.string s] w fun e w' => e = .returned (.string ⟨(pseudoL s.data.toList).toArray⟩) ∧ Below w.heap.size w w' := by
  have hl1 := dblL_length s.data.toList
  have hl2 := vowN_le s.data.toList
  have hl3 : s.data.toList.length = s.size := by simp
  have hl4 : (dblL s.data.toList).length ≤ 2199023255552 := by omega
  clear hl1 hl2 hl3
  go_enter Try.func8, Try.ntmps8
  go_wp2_with fail
  refine (pseudo_doubled s _ hs).mono ?_
  rintro e w1 ⟨rfl, hb⟩
  go_wp2_with fail
  go_ret
  exact ⟨by
    have e : (⟨#[91]⟩ : ByteArray) ++ ⟨(dblL s.data.toList).toArray⟩ ++ ⟨#[93]⟩ = ⟨(pseudoL s.data.toList).toArray⟩ := by
      have h1 := ByteArray.mk_append_mk [91] (dblL s.data.toList)
      have h2 := ByteArray.mk_append_mk ([91] ++ dblL s.data.toList) [93]
      rw [← h1] at h2
      exact h2
    exact congrArg (fun x => Ending.returned (.string x)) e, hb⟩


end Go.Proofs.Ytbbafdhgoekdiaa
