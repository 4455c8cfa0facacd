/- RuleOr: what two rules, one behind the other, say. No program stands here. -/
import Derived.Test.YtkklemhhimcahaaDoorRulePlain
namespace Go.Proofs.YtkklemhhimcahaaDoor
open Go

theorem ruleHolds_append (a b : RuleC) (o : OpsC) : ruleHolds (a ++ b) o = (ruleHolds a o || ruleHolds b o) := by
  unfold ruleHolds
  rw [List.any_append]
theorem join_cons2 (x y : List UInt8) (r : List (List UInt8)) (sep : List UInt8) : Lib.join (x :: y :: r) sep = x ++ sep ++ Lib.join (y :: r) sep := by
  simp [Lib.join]
theorem join_append2 (sep : List UInt8) : ∀ (xs ys : List (List UInt8)), 0 < xs.length → 0 < ys.length → Lib.join (xs ++ ys) sep = Lib.join xs sep ++ sep ++ Lib.join ys sep
  | [], _, h, _ => by simp at h
  | [x], [], _, h => by simp at h
  | [x], y :: r, _, _ => by
    rw [List.singleton_append, join_cons2]
    simp [Lib.join]
  | x :: z :: r, ys, _, h => by
    rw [List.cons_append, List.cons_append, join_cons2, ← List.cons_append, join_append2 sep (z :: r) ys (by simp) h, join_cons2]
    simp [List.append_assoc]
theorem ruleL_append (a b : RuleC) (ha : 0 < a.length) (hb : 0 < b.length) : ruleL (a ++ b) = ruleL a ++ [32, 111, 114, 32] ++ ruleL b := by
  unfold ruleL
  rw [List.map_append, join_append2 _ _ _ (by simpa using ha) (by simpa using hb)]
end Go.Proofs.YtkklemhhimcahaaDoor
