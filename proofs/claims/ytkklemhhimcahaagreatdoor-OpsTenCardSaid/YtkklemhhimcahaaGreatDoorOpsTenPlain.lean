/- OpsTen: the kinds of Arabic; one nought more. No program stands here. -/
import Derived.Test.YtkklemhhimcahaaGreatDoorLangSamePlain
import Derived.Test.YtkklemhhimcahaaGreatDoorPluralKind
namespace Go.Proofs.YtkklemhhimcahaaGreatDoor
open Go

set_option maxRecDepth 100000 in
theorem ar_parse : parseB arS.s0 = [[⟨110, 0, false, [(0, 0)]⟩]] ∧ parseB arS.s1 = [[⟨110, 0, false, [(1, 1)]⟩]] ∧ parseB arS.s2 = [[⟨110, 0, false, [(2, 2)]⟩]] ∧ parseB arS.s3 = [[⟨110, 100, false, [(3, 10)]⟩]] ∧ parseB arS.s4 = [[⟨110, 100, false, [(11, 99)]⟩]] :=
  ⟨by kernel_rfl, by kernel_rfl, by kernel_rfl, by kernel_rfl, by kernel_rfl⟩
theorem n_same (md : Int) (rs : List (Int × Int)) (o p : OpsC) (h1 : o.i = p.i) (h2 : o.t = p.t) : ruleHolds [[⟨110, md, false, rs⟩]] o = ruleHolds [[⟨110, md, false, rs⟩]] p := by
  have h : RelC.holds ⟨110, md, false, rs⟩ o = RelC.holds ⟨110, md, false, rs⟩ p := by
    have e1 : ∀ q : OpsC, q.at 110 = q.i := fun q => rfl
    unfold RelC.holds
    simp only [e1, h1, h2]
  unfold ruleHolds
  simp [h]
theorem ar_hit (o p : OpsC) (h1 : o.i = p.i) (h2 : o.t = p.t) (i : Nat) (hi : i < 5) : arS.hit o i = arS.hit p i := by
  obtain ⟨a0, a1, a2, a3, a4⟩ := ar_parse
  unfold SetC.hit
  congr 1
  have hc : i = 0 ∨ i = 1 ∨ i = 2 ∨ i = 3 ∨ i = 4 := by omega
  rcases hc with rfl | rfl | rfl | rfl | rfl
  · show ruleHolds (parseB arS.s0) o = ruleHolds (parseB arS.s0) p
    rw [a0]; exact n_same _ _ _ _ h1 h2
  · show ruleHolds (parseB arS.s1) o = ruleHolds (parseB arS.s1) p
    rw [a1]; exact n_same _ _ _ _ h1 h2
  · show ruleHolds (parseB arS.s2) o = ruleHolds (parseB arS.s2) p
    rw [a2]; exact n_same _ _ _ _ h1 h2
  · show ruleHolds (parseB arS.s3) o = ruleHolds (parseB arS.s3) p
    rw [a3]; exact n_same _ _ _ _ h1 h2
  · show ruleHolds (parseB arS.s4) o = ruleHolds (parseB arS.s4) p
    rw [a4]; exact n_same _ _ _ _ h1 h2
theorem ar_kind (o p : OpsC) (h1 : o.i = p.i) (h2 : o.t = p.t) : arS.kind o = arS.kind p := by
  rcases kind_is arS p with ⟨k1, k2, k3⟩ | ⟨k1, k2⟩
  · exact SetC.kind_at k1 (fun j hj => by rw [ar_hit o p h1 h2 j (by omega)]; exact k2 j hj) (by rw [ar_hit o p h1 h2 _ k1]; exact k3)
  · rw [k1]
    exact SetC.kind_none fun j hj => by rw [ar_hit o p h1 h2 j hj]; exact k2 j hj
theorem abs_ten (c : Int) : absI (10 * c) = absI c * 10 := by
  unfold absI
  split <;> split <;> omega
theorem ops_ten (c : Int) (s : Nat) (hs : s ≤ 9) : (opsC (10 * c) (s + 1)).i = (opsC c s).i ∧ (opsC (10 * c) (s + 1)).t = (opsC c s).t := by
  have ht := (ten_bd9 s hs).1
  unfold opsC
  simp only [abs_ten, ten_succ]
  constructor
  · rw [Int.mul_ediv_mul_of_pos_left _ _ (by omega)]
  · have e : absI c * 10 % (ten s * 10) = absI c % ten s * 10 := by
      rw [Int.mul_comm (absI c), Int.mul_comm (ten s), Int.mul_emod_mul_of_pos _ _ (by omega), Int.mul_comm]
    rw [e, strip_ten]
end Go.Proofs.YtkklemhhimcahaaGreatDoor
