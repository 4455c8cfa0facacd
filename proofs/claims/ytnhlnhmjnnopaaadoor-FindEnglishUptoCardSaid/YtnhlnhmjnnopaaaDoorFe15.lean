/- TextsBase: texts put together. -/
import Derived.Test.YtnhlnhmjnnopaaaDoorFe2
import Derived.Test.YtnhlnhmjnnopaaaDoorShelf
import Derived.Test.YtnhlnhmjnnopaaaDoorFe3
import Derived.Lib.Bytes
import Derived.WalkLawsBesides
set_option linter.unusedVariables false
set_option linter.unusedSimpArgs false
/- linguisterref1.In; texts in memory. -/
namespace Go.Proofs.YtnhlnhmjnnopaaaDoor
open Go.RowKit

theorem bytes_eq {a b : ByteArray} (h : (a.toList == b.toList) = true) : a = b := by
  have h := eq_of_beq h
  rw [Lib.toList_data, Lib.toList_data] at h
  exact ByteArray.ext (Array.ext' h)
theorem bytes_beq (a b : ByteArray) : (a.toList == b.toList) = decide (a = b) := by
  cases h : (a.toList == b.toList) with
  | true => simp [bytes_eq h]
  | false =>
    have : a ≠ b := fun e => by subst e; simp at h
    simp [this]

theorem StrsIn.at {w : World} {bk o : Nat} {xs : List ByteArray} (h : StrsIn w (some ⟨bk, o, none⟩) xs) {j : Nat} {x : ByteArray} (hx : xs[j]? = some x) : w.cell? ⟨bk, o + j, none⟩ = some (.string x) := by
  rcases h with h0 | ⟨b, o', e, hc⟩
  · subst h0; simp at hx
  · cases e
    exact hc j x hx

def inB (xs : List ByteArray) (s : ByteArray) : Bool := xs.any fun x => x.toList == s.toList

theorem in_ok (A : Option Addr) (c : Nat) (xs : List ByteArray) (s : ByteArray) (w : World) (hS : StrsIn w A xs) (hlen : xs.length ≤ 9223372036854775807) :
    Calls Tryd.prog 67 #[.slice A xs.length c, .string s] w fun e w' => e = .returned (.bool (inB xs s)) ∧ w = w' := by
  have HS := Lib.hid hS
  clear hS
  go_enter Tryd.func67, Tryd.ntmps67
  go_wp2_with fail
  go_loop [5] (fun i => ∃ k : Nat, k ≤ xs.length ∧ i = .int .i64 k ∧ Hid (inB (xs.take k) s = false)) (fun i => xs.length - (intOf i).toNat)
  case atStart => exact ⟨0, Nat.zero_le _, rfl, Lib.hid (by simp [inB])⟩
  case round =>
    obtain ⟨k, hk, rfl, hno⟩ := hrel
    by_cases hlt : k < xs.length
    · have hg : xs[k]? = some xs[k] := List.getElem?_eq_getElem hlt
      rcases HS.out with h0 | ⟨bk, o, rfl, hc⟩
      · subst h0; simp at hlt
      have hcell := hc k _ hg
      clear hc
      have ht : inB (xs.take (k + 1)) s = (xs[k].toList == s.toList) := by
        have := hno.out
        unfold inB at *
        rw [List.take_add_one, hg, List.any_append, this]
        simp
      generalize xs[k] = x at *
      have i1 : (0 : Int) ≤ (k : Int) := by omega
      have i2 : (k : Int) < (xs.length : Int) := by omega
      cases he : (x.toList == s.toList) with
      | true =>
        have hr : inB xs s = true := by
          rw [he] at ht
          unfold inB at *
          rw [List.any_eq_true] at *
          obtain ⟨y, hy, h2⟩ := ht
          exact ⟨y, List.mem_of_mem_take hy, h2⟩
        have HR := Lib.hid hr
        clear ht hr hno hg
        go_wp2_with fail
        go_ret
        exact ⟨by rw [HR.out]; rfl, rfl⟩
      | false =>
        have HT := Lib.hid (ht.trans he)
        clear ht hno hg
        go_wp2_with fail
        go_round
        case rel => exact ⟨k + 1, by omega, by go_num, HT⟩
        case measure => simp [intOf]; omega
    · obtain rfl : k = xs.length := by omega
      have HR : Hid (inB xs s = false) := Lib.hid (by have := hno.out; rwa [List.take_length] at this)
      clear hno
      go_wp2_with fail
      go_ret
      exact ⟨by rw [HR.out]; rfl, rfl⟩
end Go.Proofs.YtnhlnhmjnnopaaaDoor
