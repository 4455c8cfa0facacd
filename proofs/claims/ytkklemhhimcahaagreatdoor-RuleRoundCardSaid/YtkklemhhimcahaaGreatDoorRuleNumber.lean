/- rule.number; what the library's tables hold. -/
import Derived.Test.YtkklemhhimcahaaGreatDoorSplitIter
import Derived.Test.YtkklemhhimcahaaGreatDoorItoa
import Derived.Lib.AtoiErrMem
import Derived.Lib.AtoiAll
namespace Go.Proofs.YtkklemhhimcahaaGreatDoor
open Go.RowKit

/-- what is asked of the library's own variables -/
structure RuleEnv (w : World) : Prop where
  maxl : MaxL w
  pow : Pow w
  syn : ∃ te pe, w.cell? ⟨7, 0, none⟩ = some (.iface te pe)
  ran : ∃ te pe, w.cell? ⟨8, 0, none⟩ = some (.iface te pe)
theorem MaxL.below {w w' : World} (h : MaxL w) (hb : Below w.heap.size w w') : MaxL w' := by
  obtain ⟨m, hm⟩ := h
  exact ⟨m, carry hb hm⟩
theorem RuleEnv.below {w w' : World} (h : RuleEnv w) (hb : Below w.heap.size w w') : RuleEnv w' := by
  obtain ⟨h1, h2, ⟨t1, p1, h3⟩, ⟨t2, p2, h4⟩⟩ := h
  exact ⟨h1.below hb, h2.below hb, ⟨t1, p1, carry hb h3⟩, ⟨t2, p2, carry hb h4⟩⟩

def numberB (s : ByteArray) : Int := match Lib.atoiAll s.data.toList with | .ok v => v | _ => -1
theorem numberB_bd (s : ByteArray) : -9223372036854775808 ≤ numberB s ∧ numberB s ≤ 9223372036854775807 := by
  unfold numberB
  cases h : Lib.atoiAll s.data.toList with
  | ok v =>
    simp only
    unfold Lib.atoiAll at h
    split at h
    · cases h
    · simp only at h
      split at h
      · cases h
      · cases h
      · split at h
        · cases h
        · split at h
          · cases h
          · injection h with h
            rw [← h]
            split <;> omega
  | range => simp
  | _ => simp

set_option maxHeartbeats 1000000 in
theorem rule_number (s : ByteArray) (w : World) (hE : RuleEnv w) (hs : s.size ≤ 281474976710656) :
    Calls Tryz.prog 48 #[.string s] w fun e w' => e = .returned (.int .i64 (numberB s)) ∧ Below w.heap.size w w' := by
  cases h : Lib.atoiAll s.data.toList with
  | ok v =>
    have hv : numberB s = v := by unfold numberB; rw [h]
    rw [hv]
    have K := Lib.hid (Tryz.strconv_Atoi_ok s (by omega) v h w)
    clear h hE hv
    go_enter Tryz.func48, Tryz.ntmps48
    go_wp2_with fail
    refine K.out.mono ?_
    rintro e w1 ⟨rfl, hw⟩
    have hb : Below w.heap.size w w1 := by
      rcases hw with rfl | ⟨t, rfl⟩
      · exact Below.refl _ _
      · exact Lib.bytesWorld_below w _ t
    clear hw
    go_wp2_with fail
    go_ret
    exact ⟨rfl, hb⟩
  | range =>
    have hv : numberB s = -1 := by unfold numberB; rw [h]
    rw [hv]
    obtain ⟨te, pe, hc⟩ := hE.ran
    have K := Lib.hid (Tryz.strconv_Atoi_range s hs h _ w hc (.inr ⟨te, pe, rfl⟩))
    clear h hE hv hc
    generalize Lib.atoiSat s.data.toList = V at *
    go_enter Tryz.func48, Tryz.ntmps48
    go_wp2_with fail
    refine K.out.mono ?_
    rintro e w1 ⟨N, rfl, _, _, hb⟩
    go_wp2_with fail
    go_ret
    exact ⟨rfl, hb⟩
  | _ =>
    have hv : numberB s = -1 := by unfold numberB; rw [h]
    rw [hv]
    obtain ⟨te, pe, hc⟩ := hE.syn
    have K := Lib.hid (Tryz.strconv_Atoi_syntax s hs h _ w hc (.inr ⟨te, pe, rfl⟩))
    clear h hE hv hc
    go_enter Tryz.func48, Tryz.ntmps48
    go_wp2_with fail
    refine K.out.mono ?_
    rintro e w1 ⟨N, rfl, _, _, hb⟩
    go_wp2_with fail
    go_ret
    exact ⟨rfl, hb⟩
end Go.Proofs.YtkklemhhimcahaaGreatDoor
