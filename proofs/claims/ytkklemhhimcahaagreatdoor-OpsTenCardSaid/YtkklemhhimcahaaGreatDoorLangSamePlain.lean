/- LangSame: few and two of the languages' rules. No program stands here. -/
import Derived.Test.YtkklemhhimcahaaGreatDoorLangPlain
import Derived.Test.YtkklemhhimcahaaGreatDoorPluralFacts
namespace Go.Proofs.YtkklemhhimcahaaGreatDoor
open Go

set_option maxRecDepth 100000 in
theorem langs_ok : enS.ok = true ∧ frS.ok = true ∧ jaS.ok = true ∧ plS.ok = true ∧ ruS.ok = true ∧ arS.ok = true ∧ lvS.ok = true :=
  ⟨by kernel_rfl, by kernel_rfl, by kernel_rfl, by kernel_rfl, by kernel_rfl, by kernel_rfl, by kernel_rfl⟩
theorem jaOk : noS.ok = true := langs_ok.2.2.1
theorem lang_ok {s : List UInt8} {x : SetC} (h : langOf s = some x) : x.ok = true := by
  obtain ⟨h1, h2, h3, h4, h5, h6, h7⟩ := langs_ok
  rcases langOf_cases h with rfl | rfl | rfl | rfl | rfl | rfl | rfl | rfl
  · exact h1
  · exact h1
  · exact h2
  · exact h3
  · exact h4
  · exact h5
  · exact h6
  · exact h7
theorem small_set (x : SetC) (h0 : x.s0.size < 1000) (h1 : x.s1.size < 1000) (h2 : x.s2.size < 1000) (h3 : x.s3.size < 1000) (h4 : x.s4.size < 1000) : x.small := fun i => by
  match i with
  | 0 => show x.s0.size < _; omega
  | 1 => show x.s1.size < _; omega
  | 2 => show x.s2.size < _; omega
  | 3 => show x.s3.size < _; omega
  | 4 => show x.s4.size < _; omega
  | n + 5 => exact (by decide : (⟨#[]⟩ : ByteArray).size < 4294967281)
theorem lang_small {s : List UInt8} {x : SetC} (h : langOf s = some x) : x.small := by
  rcases langOf_cases h with rfl | rfl | rfl | rfl | rfl | rfl | rfl | rfl <;> exact small_set _ (by decide) (by decide) (by decide) (by decide) (by decide)

set_option maxRecDepth 100000 in
theorem slavic_parse : ∃ r, parseB plS.s3 = [⟨118, 0, false, [(0, 0)]⟩ :: r] := ⟨[⟨105, 10, false, [(2, 4)]⟩, ⟨105, 100, true, [(12, 14)]⟩], by kernel_rfl⟩
set_option maxRecDepth 100000 in
theorem ar2_parse : ∃ rs, parseB arS.s2 = [[⟨110, 0, false, rs⟩]] := ⟨[(2, 2)], by kernel_rfl⟩
set_option maxRecDepth 100000 in
theorem ar3_parse : ∃ rs, parseB arS.s3 = [[⟨110, 100, false, rs⟩]] := ⟨[(3, 10)], by kernel_rfl⟩

theorem slavic_no (o : OpsC) (hv : o.v ≠ 0) : ruleHolds (parseB plS.s3) o = false := by
  obtain ⟨r, h⟩ := slavic_parse
  rw [h]
  have h1 : RelC.holds ⟨118, 0, false, [(0, 0)]⟩ o = false := by
    have e : o.at 118 = o.v := rfl
    simp only [RelC.holds, if_true, e]
    simp [inRng]
    omega
  unfold ruleHolds
  simp [h1]
theorem n_no (md : Int) (rs : List (Int × Int)) (o : OpsC) (ht : o.t ≠ 0) : RelC.holds ⟨110, md, false, rs⟩ o = false := by
  unfold RelC.holds
  simp [ht]
theorem ar2_no (o : OpsC) (ht : o.t ≠ 0) : ruleHolds (parseB arS.s2) o = false := by
  obtain ⟨rs, h⟩ := ar2_parse
  rw [h]
  unfold ruleHolds
  simp [n_no 0 rs o ht]
theorem ar3_no (o : OpsC) (ht : o.t ≠ 0) : ruleHolds (parseB arS.s3) o = false := by
  obtain ⟨rs, h⟩ := ar3_parse
  rw [h]
  unfold ruleHolds
  simp [n_no 100 rs o ht]
theorem hit_no {x : SetC} {o : OpsC} {i : Nat} (h : ruleHolds (parseB (x.at i)) o = false) : x.hit o i = false := by
  unfold SetC.hit
  rw [h, Bool.and_false]
/-- neither few nor two, of digits behind the point that are not all noughts -/
theorem lang_few {s : List UInt8} {x : SetC} (h : langOf s = some x) (o : OpsC) (hv : o.v ≠ 0) (ht : o.t ≠ 0) : x.kind o ≠ 2 ∧ x.kind o ≠ 3 := by
  have h2 : x.hit o 2 = false := by
    rcases langOf_cases h with rfl | rfl | rfl | rfl | rfl | rfl | rfl | rfl
    · exact hit_nil rfl
    · exact hit_nil rfl
    · exact hit_nil rfl
    · exact hit_nil rfl
    · exact hit_nil rfl
    · exact hit_nil rfl
    · exact hit_no (ar2_no o ht)
    · exact hit_nil rfl
  have h3 : x.hit o 3 = false := by
    rcases langOf_cases h with rfl | rfl | rfl | rfl | rfl | rfl | rfl | rfl
    · exact hit_nil rfl
    · exact hit_nil rfl
    · exact hit_nil rfl
    · exact hit_nil rfl
    · exact hit_no (slavic_no o hv)
    · exact hit_no (slavic_no o hv)
    · exact hit_no (ar3_no o ht)
    · exact hit_nil rfl
  rcases kind_is x o with ⟨_, _, hk⟩ | ⟨hk, _⟩
  · refine ⟨fun e => ?_, fun e => ?_⟩
    · rw [e, h2] at hk; cases hk
    · rw [e, h3] at hk; cases hk
  · omega
theorem kind_le (x : SetC) (o : OpsC) : x.kind o ≤ 5 := by rcases kind_is x o with ⟨h, _⟩ | ⟨h, _⟩ <;> omega
/-- digits behind the point that are not all noughts -/
theorem ops_part {c : Int} {d : Nat} (hd : d ≤ 9) (h : ¬ c.tmod (ten d) = 0) : (opsC c d).t ≠ 0 := by
  unfold opsC
  apply strip_nz
  intro e
  apply h
  have ht := ten_bd9 d hd
  have hdv : ten d ∣ absI c := Int.dvd_of_emod_eq_zero e
  have hdv2 : ten d ∣ c := by
    unfold absI at hdv
    split at hdv
    · exact Int.dvd_neg.1 hdv
    · exact hdv
  exact Int.tmod_eq_zero_of_dvd hdv2
end Go.Proofs.YtkklemhhimcahaaGreatDoor
