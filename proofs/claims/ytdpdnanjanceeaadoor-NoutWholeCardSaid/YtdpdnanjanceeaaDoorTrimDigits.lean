/- strings.Trim with the ten digits; group.digits. -/
import Derived.Test.YtdpdnanjanceeaaDoorTrim
import Derived.Deep.WholeRow
namespace Go.Proofs.YtdpdnanjanceeaaDoor
open Go.RowKit

def digs : ByteArray := ⟨#[48, 49, 50, 51, 52, 53, 54, 55, 56, 57]⟩
theorem digs_ascii : ∀ (j : Nat) (b : UInt8), digs.data.toList[j]? = some b → b.toNat < 128 := by
  intro j b h
  have hm := List.mem_of_getElem? h
  have : ∀ x ∈ digs.data.toList, x.toNat < 128 := by decide
  exact this b hm
theorem trim_digits (s : ByteArray) (w : World) (h0 : 0 < s.size) (hs : s.size ≤ 9000000000000000000) :
    Calls Tryd.prog 96 #[.string s, .string digs] w fun e w' => ∃ t u : ByteArray, e = .returned (.string u) ∧ TrimR s t (digs.data.toList.contains ·) ∧ TrimL t u (digs.data.toList.contains ·) ∧ Below w.heap.size w w' := by
  have hv : ∀ w, (zeroValue 150).run Tryd.prog w = .ok (.agg (Array.replicate 256 (.bool false))) w := fun _ => by kernel_rfl
  have hmk := fun w => Tryd.strings_makeASCIISet hv digs w (by decide) digs_ascii
  have n1 : ¬ s.toList = [] := by
    rw [Lib.toList_data]
    intro h
    have : s.data.toList.length = s.size := by simp
    rw [h] at this
    simp at this
    omega
  have n2 : s.toList.isEmpty = false := by cases h : s.toList with | nil => exact absurd h n1 | cons x l => rfl
  have n3 : digs.toList.isEmpty = false := by rw [Lib.toList_data]; rfl
  have n4 : ¬ ((digs.size : Int) = 1) := by decide
  have HM := Lib.hid hmk
  have hz : (Lib.setCells digs.data.toList).size = 256 := Lib.setCells_size _
  have hone : (Lib.setCells digs.data.toList).all (·.oneCell') = true := Lib.setCells_one _
  have hat := Lib.hid (fun x => Lib.setCells_at digs.data.toList x)
  clear hmk
  go_enter Tryd.func96, Tryd.ntmps96
  go_wp2_with fail
  refine (HM.out w).mono ?_
  rintro e w1 ⟨rfl, hw1⟩
  generalize Lib.setCells digs.data.toList = Z at *
  have hin : (Tryd.prog.info? 150).map (·.size) = some Z.size := by rw [hz]; kernel_rfl
  have hst := run_storeCells_new (P := Tryd.prog) w1 150 (Array.replicate 256 (.bool false)) Z hin (by rw [hz]; simp) hone
  subst hw1
  have hsz : (w.alloc (.cells Z 150)).heap.size = w.heap.size + 1 := by simp
  rw [hsz] at hst
  have hS : SetAt ((w.alloc (.cells Z 150)).alloc (.cells Z 150)) (w.heap.size + 1) (digs.data.toList.contains ·) := fun x => by
    have h := heap_alloc_new (w.alloc (.cells Z 150)) (.cells Z 150)
    have h2 := hat.out x
    rw [hsz] at h
    unfold World.cell?
    rw [h]
    exact h2
  have HS := Lib.hid hS
  clear hS hin hone
  go_wp2_with fail
  refine (trim_right s _ _ _ HS.out hs).mono ?_
  rintro e w2 ⟨t, rfl, hR, rfl⟩
  have hts : t.size ≤ s.size := by
    obtain ⟨r, h1, _⟩ := hR
    have := congrArg List.length h1
    simp at this
    omega
  have HR := Lib.hid hR
  clear hR
  go_wp2_with fail
  refine (trim_left t _ _ _ HS.out (by omega)).mono ?_
  rintro e w3 ⟨u, rfl, hL, rfl⟩
  have HL := Lib.hid hL
  clear hL
  go_wp2_with fail
  go_ret
  exact ⟨t, u, rfl, HR.out, HL.out, (by (repeat (first | with_reducible exact Below.refl _ _ | with_reducible refine bel_set ?_ ?_ | with_reducible refine bel_alloc ?_ ?_ | with_reducible refine Below.drew ?_ | with_reducible refine bel_drewN _ ?_ | with_reducible refine bel_call ?_ (by assumption) ?_)); all_goals (first | (simp; done) | omega | (simp; omega)))⟩
end Go.Proofs.YtdpdnanjanceeaaDoor
