/- rule.Parse("n = 1"). -/
import Derived.Test.YtkklemhhimcahaaGreatDoorRuleParse3
namespace Go.Proofs.YtkklemhhimcahaaGreatDoor
open Go.RowKit

set_option maxRecDepth 100000 in
theorem n1_ok : parseOk ⟨#[110, 32, 61, 32, 49]⟩ = true := by kernel_rfl
set_option maxRecDepth 100000 in
theorem n1_len : (parseB ⟨#[110, 32, 61, 32, 49]⟩).length = 1 := by kernel_rfl
/-- rule.Parse("n = 1") -/
theorem parse_n1 (w : World) (hE : RuleEnv w) :
    Calls Tryz.prog 6 #[.string ⟨#[110, 32, 61, 32, 49]⟩] w fun e w' => (∃ A c, e = .returned (.tuple #[.slice A 1 c, .nilIface])) ∧ Below w.heap.size w w' := by
  refine (rule_parse _ w hE (by decide)).mono ?_
  rintro e w' ⟨hp, hb⟩
  refine ⟨?_, hb⟩
  unfold ParsePost at hp
  rw [if_pos n1_ok] at hp
  obtain ⟨A, c, ps, h1, _, _, _, _, h2⟩ := hp
  have hl := congrArg List.length h1
  rw [n1_len] at hl
  have hl2 : ps.length = 1 := by rw [← hl]; unfold ruleC; rw [List.length_map]
  rw [hl2] at h2
  exact ⟨A, c, h2⟩

end Go.Proofs.YtkklemhhimcahaaGreatDoor
