/- strings.Trim with a set of ASCII signs, two or more. -/
import Derived.Test.YthlcjlmaaaappaaDoorTrim
import Derived.Deep.WholeRow
namespace Go.Proofs.YthlcjlmaaaappaaDoor
open Go.RowKit

theorem trim_set (cs : ByteArray) (ha : ∀ (j : Nat) (b : UInt8), cs.data.toList[j]? = some b → b.toNat < 128) (hl : 2 ≤ cs.size) (hl2 : cs.size ≤ 100) (s : ByteArray) (w : World) (h0 : 0 < s.size) (hs : s.size ≤ 9000000000000000000) :
    Calls Tryd.prog 28 #[.string s, .string cs] w fun e w' => ∃ t u : ByteArray, e = .returned (.string u) ∧ TrimR s t (cs.data.toList.contains ·) ∧ TrimL t u (cs.data.toList.contains ·) ∧ Below w.heap.size w w' := by
  have hv : ∀ w, (zeroValue 83).run Tryd.prog w = .ok (.agg (Array.replicate 256 (.bool false))) w := fun _ => by kernel_rfl
  have hmk := fun w => Tryd.strings_makeASCIISet hv cs w (by omega) ha
  have ne : ∀ t : ByteArray, 0 < t.size → ¬ t.toList = [] := fun t ht => by
    rw [Lib.toList_data]
    intro h
    have : t.data.toList.length = t.size := by simp
    rw [h] at this
    simp at this
    omega
  have n1 : ¬ s.toList = [] := ne s h0
  have n2 : s.toList.isEmpty = false := by cases h : s.toList with | nil => exact absurd h n1 | cons x l => rfl
  have m1 : ¬ cs.toList = [] := ne cs (by omega)
  have n3 : cs.toList.isEmpty = false := by cases h : cs.toList with | nil => exact absurd h m1 | cons x l => rfl
  have n4 : ¬ ((cs.size : Int) = 1) := by omega
  have HM := Lib.hid hmk
  have hz : (Lib.setCells cs.data.toList).size = 256 := Lib.setCells_size _
  have hone : (Lib.setCells cs.data.toList).all (·.oneCell') = true := Lib.setCells_one _
  have hat := Lib.hid (fun x => Lib.setCells_at cs.data.toList x)
  clear hmk ha ne
  go_enter Tryd.func28, Tryd.ntmps28
  go_wp2_with fail
  refine (HM.out w).mono ?_
  rintro e w1 ⟨rfl, hw1⟩
  generalize Lib.setCells cs.data.toList = Z at *
  have hin : (Tryd.prog.info? 83).map (·.size) = some Z.size := by rw [hz]; kernel_rfl
  have hst := run_storeCells_new (P := Tryd.prog) w1 83 (Array.replicate 256 (.bool false)) Z hin (by rw [hz]; simp) hone
  subst hw1
  have hsz : (w.alloc (.cells Z 83)).heap.size = w.heap.size + 1 := by simp
  rw [hsz] at hst
  have hS : SetAt ((w.alloc (.cells Z 83)).alloc (.cells Z 83)) (w.heap.size + 1) (cs.data.toList.contains ·) := fun x => by
    have h := heap_alloc_new (w.alloc (.cells Z 83)) (.cells Z 83)
    have h2 := hat.out x
    rw [hsz] at h
    unfold World.cell?
    rw [h]
    exact h2
  have HS := Lib.hid hS
  clear hS hin hone
  go_wp2_with fail
  refine (trim_right s _ _ _ HS.out hs).mono ?_
  rintro e w2 ⟨t, rfl, hR, rfl⟩
  have hts : t.size ≤ s.size := by
    obtain ⟨r, h1, _⟩ := hR
    have := congrArg List.length h1
    simp at this
    omega
  have HR := Lib.hid hR
  clear hR
  go_wp2_with fail
  refine (trim_left t _ _ _ HS.out (by omega)).mono ?_
  rintro e w3 ⟨u, rfl, hL, rfl⟩
  have HL := Lib.hid hL
  clear hL
  go_wp2_with fail
  go_ret
  exact ⟨t, u, rfl, HR.out, HL.out, (by (repeat (first | with_reducible exact Below.refl _ _ | with_reducible refine bel_set ?_ ?_ | with_reducible refine bel_alloc ?_ ?_ | with_reducible refine Below.drew ?_ | with_reducible refine bel_drewN _ ?_ | with_reducible refine bel_call ?_ (by assumption) ?_)); all_goals (first | (simp; done) | omega | (simp; omega)))⟩

theorem trim_none (P : UInt8 → Bool) {s t u : ByteArray} (h1 : TrimR s t P) (h2 : TrimL t u P) : (u.data.toList = [] ↔ s.data.toList.all P = true) := by
  obtain ⟨r, e1, r1, c1⟩ := h1
  obtain ⟨q, e2, q1, c2⟩ := h2
  rw [e1, e2]
  constructor
  · intro hu
    rw [hu, List.append_nil, List.all_append, q1, r1]; rfl
  · intro hall
    rcases c2 with h | ⟨c, l, h, hc⟩
    · exact h
    · rw [h] at hall
      simp only [List.all_append, List.all_cons, hc, Bool.false_and, Bool.and_false] at hall
      cases hall
end Go.Proofs.YthlcjlmaaaappaaDoor
