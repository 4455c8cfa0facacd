/- linguisterref1.In; the letters that linguisterref1.Only asks for. -/
import Derived.Test.YtdpdnanjanceeaaDoorTagCheck
import Derived.Test.YtdpdnanjanceeaaDoorOnlyPlain
namespace Go.Proofs.YtdpdnanjanceeaaDoor
open Go.RowKit

def lowL : List UInt8 := [97, 98, 99, 100, 101, 102, 103, 104, 105, 106, 107, 108, 109, 110, 111, 112, 113, 114, 115, 116, 117, 118, 119, 120, 121, 122]
def highL : List UInt8 := [65, 66, 67, 68, 69, 70, 71, 72, 73, 74, 75, 76, 77, 78, 79, 80, 81, 82, 83, 84, 85, 86, 87, 88, 89, 90]
def numL : List UInt8 := [48, 49, 50, 51, 52, 53, 54, 55, 56, 57]
theorem all_bytes {p q : UInt8 → Bool} (h : ∀ n : Fin 256, p (UInt8.ofNat n.val) = q (UInt8.ofNat n.val)) : p = q := by
  funext c
  have := h ⟨c.toNat, c.toNat_lt⟩
  simpa using this
theorem low_is : (fun c => lowL.contains c) = lowB := all_bytes (by decide +kernel)
theorem high_is : (fun c => highL.contains c) = highB := all_bytes (by decide +kernel)
theorem num_is : (fun c => numL.contains c) = numB := all_bytes (by decide +kernel)
theorem both_is : (fun c => (lowL ++ numL).contains c) = bothB := all_bytes (by decide +kernel)
theorem only_made {of : List UInt8} {p : UInt8 → Bool} (h : (fun c => of.contains c) = p) (s : List UInt8) (a b : Nat) : onlyB s of a b = madeB p s a b := by
  unfold onlyB madeB
  rw [h, Bool.and_assoc]
  congr 2
  · simp
  · simp

set_option maxHeartbeats 1000000 in
theorem ref_in (A : Option Addr) (c k : Nat) (vs : List ByteArray) (x : ByteArray) (w : World) (h : StrsIn w A vs) (hk : k ≤ vs.length) (hkc : k ≤ c) (hn : vs.length ≤ 9223372036854775807) :
    Calls Tryd.prog 78 #[.slice A k c, .string x] w fun e w' => e = .returned (.bool ((listsOf (vs.take k)).contains x.data.toList)) ∧ w = w' := by
  have HX := Lib.hid h
  clear h
  generalize hR : (listsOf (vs.take k)).contains x.data.toList = R
  have HR := Lib.hid hR
  clear hR
  go_enter Tryd.func78, Tryd.ntmps78
  go_wp2_with fail
  go_loop [5] (fun i => ∃ j : Nat, j ≤ k ∧ i = .int .i64 j ∧ Hid ((listsOf (vs.take j)).contains x.data.toList = false)) (fun i => k - (intOf i).toNat)
  case atStart => exact ⟨0, Nat.zero_le _, rfl, Lib.hid rfl⟩
  case round =>
    obtain ⟨j, hj, rfl, HJ⟩ := hrel
    by_cases hlt : j < k
    · obtain ⟨bk, o, rfl, hc⟩ : ∃ bk o, A = some ⟨bk, o, none⟩ ∧ ∀ (j : Nat) y, vs[j]? = some y → w.cell? ⟨bk, o + j, none⟩ = some (.string y) := by
        rcases HX.out with h | h
        · rw [h] at hk; simp at hk; omega
        · exact h
      obtain ⟨v, hv⟩ : ∃ v, vs[j]? = some v := ⟨vs[j]'(by omega), List.getElem?_eq_getElem (by omega)⟩
      have hcv := hc j v hv
      have i0 : (0 : Int) ≤ (j : Int) := by omega
      have i1 : (j : Int) < (k : Int) := by omega
      have i2 : (j : Int) ≤ (c : Int) := by omega
      have e1 : IntKind.i64.wrap ((j : Int) + 1) = (j : Int) + 1 := IntWalk.i64_in _ (by omega)
      have hst : (listsOf (vs.take (j + 1))).contains x.data.toList = ((listsOf (vs.take j)).contains x.data.toList || x.data.toList == v.data.toList) := by
        unfold listsOf
        rw [List.take_add_one, hv, List.map_append, Bool.eq_iff_iff]
        simp [List.contains_iff_mem]
      rw [HJ.out, Bool.false_or] at hst
      by_cases he : v = x
      · subst he
        have hin : R = true := by
          rw [← HR.out]
          have hm : v ∈ vs.take k := by
            have h1 : (vs.take k)[j]? = some v := by rw [List.getElem?_take, if_pos hlt, hv]
            exact List.mem_of_getElem? h1
          rw [List.contains_iff_mem]
          exact List.mem_map_of_mem hm
        subst hin
        clear hst hc
        go_wp2_with fail
        go_ret
        exact ⟨rfl, rfl⟩
      · have hf : (x.data.toList == v.data.toList) = false := by
          rw [beq_eq_false_iff_ne]
          intro hq
          exact he (ByteArray.ext (Array.ext' hq.symm))
        rw [hf] at hst
        have HS := Lib.hid hst
        have n1 : ¬ v.toList = x.toList := fun hq => he (by
          rw [Lib.toList_data, Lib.toList_data] at hq
          exact ByteArray.ext (Array.ext' hq))
        have n2 : (v.toList == x.toList) = false := by rw [beq_eq_false_iff_ne]; exact n1
        clear hst hc hf
        go_wp2_with fail
        go_round
        case rel => exact ⟨j + 1, by omega, by go_num, HS⟩
        case measure => simp [intOf]; omega
    · obtain rfl : j = k := by omega
      have hin : R = false := by rw [← HR.out]; exact HJ.out
      subst hin
      go_wp2_with fail
      go_ret
      exact ⟨rfl, rfl⟩
end Go.Proofs.YtdpdnanjanceeaaDoor
