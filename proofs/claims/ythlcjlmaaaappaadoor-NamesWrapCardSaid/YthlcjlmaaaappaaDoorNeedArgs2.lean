/- names.Of at a fault; the reference's ArgOf; linguistersame.Args at one list. -/
import Derived.Test.YthlcjlmaaaappaaDoorNeedArgs
namespace Go.Proofs.YthlcjlmaaaappaaDoor
open Go.RowKit

theorem names_Of_no (f : Nat) (v : Value) (ms : List Nd) (w : World) (hE : RuleEnv w) (hK : MKinds w) (hN : NodesIn f w v ms) (h : ¬ namesP f ms = 0) :
    Calls Tryd.prog 7 #[v] w fun e w' => e = .returned (.tuple #[.slice none 0 0, errT (namesP f ms)]) ∧ Below w.heap.size w w' := by
  have K := Lib.hid (names_of_no f v ms w hE hK hN h)
  obtain ⟨A0, d0, rfl, _, _, _⟩ := hN.form
  clear hE hK hN h
  generalize namesP f ms = E at *
  go_enter Tryd.func7, Tryd.ntmps7
  go_wp2_with fail
  refine K.out.mono ?_
  rintro e w1 ⟨rfl, hb1⟩
  go_wp2_with fail
  go_ret2
  exact ⟨rfl, hb1⟩

def hasA (name : ByteArray) (x : ArgC) : Bool := x.name.toList == name.toList
theorem arg_of (A : Option Addr) (c : Nat) (l : List ArgC) (name : ByteArray) (w : World) (hL : ArgsIn w A l) (hc : l.length ≤ c) (hc2 : c ≤ 9223372036854775807) :
    Calls Tryd.prog 8 #[.slice A l.length c, .string name] w fun e w' => (∃ i : Int, e = .returned (.int .i64 i) ∧ decide (0 ≤ i) = l.any (hasA name)) ∧ Below w.heap.size w w' := by
  have HL := Lib.hid hL
  clear hL
  go_enter Tryd.func8, Tryd.ntmps8
  go_wp2_with fail
  go_loopw [5] (fun i wr => ∃ k : Nat, k ≤ l.length ∧ i = .int .i64 k ∧ Hid (∀ y ∈ l.take k, hasA name y = false) ∧ Hid (Below w.heap.size w wr)) (fun i _ => l.length - (intOf i).toNat)
  case atStart => exact ⟨0, Nat.zero_le _, rfl, Lib.hid (by simp), Lib.hid (Below.refl _ _)⟩
  case round =>
    obtain ⟨k, hk, rfl, HF, HB⟩ := hrel
    by_cases hlt : k < l.length
    · obtain ⟨b, o, rfl, hat⟩ := (HL.out.below HB.out).at (by omega)
      obtain ⟨x, hx⟩ : ∃ x, l[k]? = some x := ⟨l[k], List.getElem?_eq_getElem hlt⟩
      obtain ⟨n0, n1, n2, n3, n4⟩ := hat k x hx
      have sB := HB.out.size
      have i0 : (0 : Int) ≤ (k : Int) := by omega
      have i1 : (k : Int) < (l.length : Int) := by omega
      have i2 : (k : Int) ≤ (c : Int) := by omega
      have e1 : IntKind.i64.wrap ((k : Int) + 1) = (k : Int) + 1 := IntWalk.i64_in _ (by omega)
      have HX := Lib.hid hx
      have HQ : Hid (hasA name x = (x.name.toList == name.toList)) := Lib.hid rfl
      clear hat hx
      cases hq : (x.name.toList == name.toList)
      · have HF2 : Hid (∀ y ∈ l.take (k + 1), hasA name y = false) := Lib.hid fun y hy => by
          rw [List.take_add_one, HX.out, Option.toList_some, List.mem_append, List.mem_singleton] at hy
          rcases hy with hy | rfl
          · exact HF.out y hy
          · exact hq
        go_wp2_with fail
        go_roundw
        case rel => exact ⟨k + 1, by omega, by go_num, HF2, HB⟩
        case measure => simp [intOf]; omega
      · have HD : Hid (l.any (hasA name) = true) := Lib.hid (List.any_eq_true.2 ⟨x, List.mem_of_getElem? HX.out, hq⟩)
        have hq2 : x.name.toList = name.toList := by simpa using hq
        go_wp2_with fail
        go_ret
        refine ⟨⟨(k : Int), rfl, ?_⟩, HB.out⟩
        rw [HD.out]
        exact decide_eq_true (by omega)
    · obtain rfl : k = l.length := by omega
      have HD : Hid (l.any (hasA name) = false) := Lib.hid (by
        rw [List.any_eq_false]
        intro x hx
        have := HF.out x (by rw [List.take_length]; exact hx)
        rw [this]; decide)
      go_wp2_with fail
      go_ret
      refine ⟨⟨-1, rfl, ?_⟩, HB.out⟩
      rw [HD.out]
      rfl

theorem same_args (A B : Option Addr) (c d : Nat) (l : List ArgC) (w : World) (hA : ArgsIn w A l) (hB : ArgsIn w B l) (hc : l.length ≤ c) (hc2 : c ≤ 9223372036854775807) (hd : l.length ≤ d) (hd2 : d ≤ 9223372036854775807) :
    Calls Tryd.prog 9 #[.slice A l.length c, .slice B l.length d] w fun e w' => e = .returned (.bool true) ∧ Below w.heap.size w w' := by
  have HA := Lib.hid hA
  have HB := Lib.hid hB
  clear hA hB
  go_enter Tryd.func9, Tryd.ntmps9
  go_wp2_with fail
  go_loopw [5] (fun i wr => ∃ k : Nat, k ≤ l.length ∧ i = .int .i64 k ∧ Hid (Below w.heap.size w wr)) (fun i _ => l.length - (intOf i).toNat)
  case atStart => exact ⟨0, Nat.zero_le _, rfl, Lib.hid (Below.refl _ _)⟩
  case round =>
    obtain ⟨k, hk, rfl, HW⟩ := hrel
    by_cases hlt : k < l.length
    · obtain ⟨b, o, rfl, hat⟩ := (HA.out.below HW.out).at (by omega)
      obtain ⟨b2, o2, rfl, hat2⟩ := (HB.out.below HW.out).at (by omega)
      obtain ⟨x, hx⟩ : ∃ x, l[k]? = some x := ⟨l[k], List.getElem?_eq_getElem hlt⟩
      obtain ⟨n0, n1, n2, n3, n4⟩ := hat k x hx
      obtain ⟨m0, m1, m2, m3, m4⟩ := hat2 k x hx
      have i0 : (0 : Int) ≤ (k : Int) := by omega
      have i1 : (k : Int) < (l.length : Int) := by omega
      have i2 : (k : Int) ≤ (c : Int) := by omega
      have i3 : (k : Int) ≤ (d : Int) := by omega
      have e1 : IntKind.i64.wrap ((k : Int) + 1) = (k : Int) + 1 := IntWalk.i64_in _ (by omega)
      clear hat hat2 hx
      go_wp2_with fail
      go_quiet (fail)
      have HW2 : Hid (Below w.heap.size w (wr.drewN nq)) := Lib.hid (bel_drewN _ HW.out)
      go_wp2_with fail
      go_roundw
      case rel => exact ⟨k + 1, by omega, by go_num, HW2⟩
      case measure => simp [intOf]; omega
    · obtain rfl : k = l.length := by omega
      go_wp2_with fail
      go_ret
      exact ⟨rfl, HW.out⟩
end Go.Proofs.YthlcjlmaaaappaaDoor
