/- ArgOf: texts put together. -/
import Derived.Test.YthlcjlmaaaappaaGreatDoorEw3
import Derived.Test.YthlcjlmaaaappaaGreatDoorEw2
set_option linter.unusedVariables false
set_option linter.unusedSimpArgs false
/- The reference's ArgOf. -/
namespace Go.Proofs.YthlcjlmaaaappaaGreatDoor
open Go.RowKit

def hasA (name : ByteArray) (x : ArgC) : Bool := x.name.toList == name.toList
theorem arg_of (A : Option Addr) (c : Nat) (l : List ArgC) (name : ByteArray) (w : World) (hL : ArgsIn w A l) (hc : l.length ≤ c) (hc2 : c ≤ 9223372036854775807) :
    Calls Tryz.prog 17 #[.slice A l.length c, .string name] w fun e w' => (∃ i : Int, e = .returned (.int .i64 i) ∧ decide (0 ≤ i) = l.any (hasA name)) ∧ Below w.heap.size w w' := by
  have HL := Lib.hid hL
  clear hL
  go_enter Tryz.func17, Tryz.ntmps17
  go_wp2_with fail
  go_loopw [5] (fun i wr => ∃ k : Nat, k ≤ l.length ∧ i = .int .i64 k ∧ Hid (∀ y ∈ l.take k, hasA name y = false) ∧ Hid (Below w.heap.size w wr)) (fun i _ => l.length - (intOf i).toNat)
  case atStart => exact ⟨0, Nat.zero_le _, rfl, Lib.hid (by simp), Lib.hid (Below.refl _ _)⟩
  case round =>
    obtain ⟨k, hk, rfl, HF, HB⟩ := hrel
    by_cases hlt : k < l.length
    · obtain ⟨b, o, rfl, hat⟩ := (HL.out.below HB.out).at (by omega)
      obtain ⟨x, hx⟩ : ∃ x, l[k]? = some x := ⟨l[k], List.getElem?_eq_getElem hlt⟩
      obtain ⟨n0, n1, n2, n3, n4⟩ := hat k x hx
      have sB := HB.out.size
      have i0 : (0 : Int) ≤ (k : Int) := by omega
      have i1 : (k : Int) < (l.length : Int) := by omega
      have i2 : (k : Int) ≤ (c : Int) := by omega
      have e1 : IntKind.i64.wrap ((k : Int) + 1) = (k : Int) + 1 := IntWalk.i64_in _ (by omega)
      have HX := Lib.hid hx
      have HQ : Hid (hasA name x = (x.name.toList == name.toList)) := Lib.hid rfl
      clear hat hx
      cases hq : (x.name.toList == name.toList)
      · have HF2 : Hid (∀ y ∈ l.take (k + 1), hasA name y = false) := Lib.hid fun y hy => by
          rw [List.take_add_one, HX.out, Option.toList_some, List.mem_append, List.mem_singleton] at hy
          rcases hy with hy | rfl
          · exact HF.out y hy
          · exact hq
        go_wp2_with fail
        go_roundw
        case rel => exact ⟨k + 1, by omega, by go_num, HF2, HB⟩
        case measure => simp [intOf]; omega
      · have HD : Hid (l.any (hasA name) = true) := Lib.hid (List.any_eq_true.2 ⟨x, List.mem_of_getElem? HX.out, hq⟩)
        have hq2 : x.name.toList = name.toList := by simpa using hq
        go_wp2_with fail
        go_ret
        refine ⟨⟨(k : Int), rfl, ?_⟩, HB.out⟩
        rw [HD.out]
        exact decide_eq_true (by omega)
    · obtain rfl : k = l.length := by omega
      have HD : Hid (l.any (hasA name) = false) := Lib.hid (by
        rw [List.any_eq_false]
        intro x hx
        have := HF.out x (by rw [List.take_length]; exact hx)
        rw [this]; decide)
      go_wp2_with fail
      go_ret
      refine ⟨⟨-1, rfl, ?_⟩, HB.out⟩
      rw [HD.out]
      rfl
end Go.Proofs.YthlcjlmaaaappaaGreatDoor
