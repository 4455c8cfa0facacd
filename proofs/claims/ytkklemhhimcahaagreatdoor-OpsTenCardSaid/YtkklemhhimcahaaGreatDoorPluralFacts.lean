/- Sets of rules without a text or two; plural.Kind of a small set. -/
import Derived.Test.YtkklemhhimcahaaGreatDoorPluralKind
namespace Go.Proofs.YtkklemhhimcahaaGreatDoor
open Go.RowKit

def SetC.less1 (s : SetC) : SetC := ⟨s.s0, s.s1, s.s2, s.s3, ⟨#[]⟩⟩
def SetC.less2 (s : SetC) : SetC := ⟨s.s0, s.s1, s.s2, ⟨#[]⟩, ⟨#[]⟩⟩
theorem at_less1 (s : SetC) (i : Nat) : s.less1.at i = if i = 4 then ⟨#[]⟩ else s.at i := by
  match i with
  | 0 | 1 | 2 | 3 | 4 => rfl
  | n + 5 => rfl
theorem at_less2 (s : SetC) (i : Nat) : s.less2.at i = if i = 4 ∨ i = 3 then ⟨#[]⟩ else s.at i := by
  match i with
  | 0 | 1 | 2 | 3 | 4 => rfl
  | n + 5 =>
    rw [if_neg (by omega)]
    rfl
theorem good_nil {s : SetC} {i : Nat} (h : s.at i = ⟨#[]⟩) : s.good i = true := by unfold SetC.good; rw [h, Lib.toList_data]; rfl
theorem hit_nil {s : SetC} {o : OpsC} {i : Nat} (h : s.at i = ⟨#[]⟩) : s.hit o i = false := by unfold SetC.hit; rw [h, Lib.toList_data]; rfl
theorem good_same {s t : SetC} {i : Nat} (h : s.at i = t.at i) : s.good i = t.good i := by unfold SetC.good; rw [h]
theorem hit_same {s t : SetC} {o : OpsC} {i : Nat} (h : s.at i = t.at i) : s.hit o i = t.hit o i := by unfold SetC.hit; rw [h]
theorem ok_less1 {s : SetC} (h : s.ok = true) : s.less1.ok = true := SetC.ok_of fun i hi => by
  by_cases h4 : i = 4
  · exact good_nil (by rw [at_less1, if_pos h4])
  · rw [good_same (t := s) (by rw [at_less1, if_neg h4])]; exact s.ok_good h i hi
theorem ok_less2 {s : SetC} (h : s.ok = true) : s.less2.ok = true := SetC.ok_of fun i hi => by
  by_cases h4 : i = 4 ∨ i = 3
  · exact good_nil (by rw [at_less2, if_pos h4])
  · rw [good_same (t := s) (by rw [at_less2, if_neg h4])]; exact s.ok_good h i hi
theorem small_less1 {s : SetC} (h : s.small) : s.less1.small := fun i => by
  rw [at_less1]
  split
  · decide
  · exact h i
theorem small_less2 {s : SetC} (h : s.small) : s.less2.small := fun i => by
  rw [at_less2]
  split
  · decide
  · exact h i
theorem kind_is (s : SetC) (o : OpsC) : (s.kind o < 5 ∧ (∀ j, j < s.kind o → s.hit o j = false) ∧ s.hit o (s.kind o) = true) ∨ (s.kind o = 5 ∧ ∀ j, j < 5 → s.hit o j = false) := by
  by_cases h : ∀ j, j < 5 → s.hit o j = false
  · exact .inr ⟨SetC.kind_none h, h⟩
  · left
    cases hf : (List.range 5).find? (s.hit o) with
    | none =>
      rw [List.find?_range_eq_none] at hf
      exact absurd (fun j hj => by have := hf j hj; simpa using this) h
    | some k =>
      have hf' := hf
      rw [List.find?_range_eq_some] at hf
      have hk : s.kind o = k := by unfold SetC.kind; rw [hf']; rfl
      rw [hk]
      exact ⟨List.mem_range.1 hf.2.1, fun j hj => by have := hf.2.2 j hj; simpa using this, hf.1⟩
/-- without the text of many -/
theorem kind_less1 (s : SetC) (o : OpsC) : s.less1.kind o = if s.kind o = 4 then 5 else s.kind o := by
  have e4 : s.less1.hit o 4 = false := hit_nil rfl
  have es : ∀ j, j ≠ 4 → s.less1.hit o j = s.hit o j := fun j hj => hit_same (by rw [at_less1, if_neg hj])
  rcases kind_is s o with ⟨h1, h2, h3⟩ | ⟨h1, h2⟩
  · split
    · rename_i h4
      refine SetC.kind_none fun j hj => ?_
      by_cases hj4 : j = 4
      · rw [hj4]; exact e4
      · rw [es j hj4]; exact h2 j (by omega)
    · exact SetC.kind_at h1 (fun j hj => by rw [es j (by omega)]; exact h2 j hj) (by rw [es _ (by omega)]; exact h3)
  · rw [h1, if_neg (by omega)]
    refine SetC.kind_none fun j hj => ?_
    by_cases hj4 : j = 4
    · rw [hj4]; exact e4
    · rw [es j hj4]; exact h2 j (by omega)
theorem kind_less2 (s : SetC) (o : OpsC) : s.less2.kind o = if s.kind o = 4 ∨ s.kind o = 3 then 5 else s.kind o := by
  have e4 : s.less2.hit o 4 = false := hit_nil rfl
  have e3 : s.less2.hit o 3 = false := hit_nil rfl
  have es : ∀ j, j ≠ 4 → j ≠ 3 → s.less2.hit o j = s.hit o j := fun j hj hj3 => hit_same (by rw [at_less2, if_neg (by omega)])
  rcases kind_is s o with ⟨h1, h2, h3⟩ | ⟨h1, h2⟩
  · split
    · rename_i h4
      refine SetC.kind_none fun j hj => ?_
      by_cases hj4 : j = 4
      · rw [hj4]; exact e4
      · by_cases hj3 : j = 3
        · rw [hj3]; exact e3
        · rw [es j hj4 hj3]; exact h2 j (by omega)
    · exact SetC.kind_at h1 (fun j hj => by rw [es j (by omega) (by omega)]; exact h2 j hj) (by rw [es _ (by omega) (by omega)]; exact h3)
  · rw [h1, if_neg (by omega)]
    refine SetC.kind_none fun j hj => ?_
    by_cases hj4 : j = 4
    · rw [hj4]; exact e4
    · by_cases hj3 : j = 3
      · rw [hj3]; exact e3
      · rw [es j hj4 hj3]; exact h2 j (by omega)

def n1S : SetC := ⟨⟨#[]⟩, ⟨#[110, 32, 61, 32, 49]⟩, ⟨#[]⟩, ⟨#[]⟩, ⟨#[]⟩⟩
set_option maxRecDepth 100000 in
theorem n1S_ok : n1S.ok = true := by kernel_rfl
set_option maxRecDepth 100000 in
theorem n1S_kind : n1S.kind (opsC 1 0) = 1 := by kernel_rfl
theorem n1S_small : n1S.small := fun i => by
  match i with
  | 0 | 1 | 2 | 3 | 4 => decide
  | n + 5 => exact (by decide : (⟨#[]⟩ : ByteArray).size < 4294967281)
theorem kind_n1 (w : World) (hE : RuleEnv w) (hK : KindsAt w) :
    Calls Tryz.prog 12 #[setV ⟨#[]⟩ ⟨#[110, 32, 61, 32, 49]⟩ ⟨#[]⟩ ⟨#[]⟩ ⟨#[]⟩, decV 1 0] w fun e w' => e = .returned (.tuple #[.string ⟨#[111, 110, 101]⟩, .nilIface]) ∧ Below w.heap.size w w' := by
  have := kind_ok n1S 1 0 w hE hK n1S_small n1S_ok ⟨by omega, by omega, by omega, by omega⟩
  rw [n1S_kind] at this
  exact this
end Go.Proofs.YtkklemhhimcahaaGreatDoor
