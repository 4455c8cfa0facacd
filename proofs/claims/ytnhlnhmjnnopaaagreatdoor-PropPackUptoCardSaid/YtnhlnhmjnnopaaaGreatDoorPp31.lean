/- RepTop: texts put together. -/
import Derived.Test.YtnhlnhmjnnopaaaGreatDoorPp29
import Derived.Test.YtnhlnhmjnnopaaaGreatDoorPp30
set_option linter.unusedVariables false
set_option linter.unusedSimpArgs false
/- (*strings.Replacer).Replace, the first time and again. -/
namespace Go.Proofs.YtnhlnhmjnnopaaaGreatDoor
open Go.RowKit

theorem rep_fun (fn : Fn) (first cap : Array Value) (w : World) : (Instr.makeFunc fn first cap).run Tryz.prog w = .ok (.func fn first cap) w := rfl
theorem esc_method (a : Addr) (w : World) : (method 368 191 (.pointer (some a)) "Replace").run Tryz.prog w = .ok (211, .pointer (some a)) w := by kernel_rfl
/-- a replacer that is made: the row of its fields behind the first asking -/
theorem esc_made {rb : Nat} {w W w2 w3 : World} {B : Nat} (hT : TyAt w2 rb 122) (h0 : w2.cell? ⟨rb, 0, none⟩ = some (.int .u32 0)) (h1 : w2.cell? ⟨rb, 1, none⟩ = some (.int .i32 1))
    (h3 : ∃ sb, w2.cell? ⟨rb, 3, none⟩ = some (.iface 191 (.pointer (some ⟨sb, 0, none⟩))) ∧ RepAt w2 B sb [13, 10, 92] [13, 10, 92]) (hW : W = w.setCell ⟨rb, 1, none⟩ (.int .i32 1)) (ho : Off [rb] W w2)
    (h : w3 = (w2.drew.setCell ⟨rb, 0, none⟩ (.int .u32 1)).setCell ⟨rb, 1, none⟩ (.int .i32 0)) :
    EscUsed w3 rb ∧ Off [rb] w w3 := by
  subst h hW
  have o1 : Off [rb] w (w.setCell ⟨rb, 1, none⟩ (.int .i32 1)) := (Off.refl [rb] w).setCell _ _ (by simp)
  have o2 : Off [rb] w2 ((w2.drew.setCell ⟨rb, 0, none⟩ (.int .u32 1)).setCell ⟨rb, 1, none⟩ (.int .i32 0)) := (((Off.refl [rb] w2).drewN 1).setCell _ _ (by simp)).setCell _ _ (by simp)
  have hT2 : TyAt w2.drew rb 122 := hT
  obtain ⟨sb, h3, hR⟩ := h3
  refine ⟨⟨(hT2.set _ _ _).set _ _ _, ?_, sb, ?_, (hR.base (Nat.zero_le _)).offR o2 (fun k hk => ?_)⟩, (o1.trans ho).trans o2⟩
  · exact cell_other (cell_same (w := w2.drew) (u := .int .u32 0) h0) (by simp)
  · exact cell_other (cell_other (w := w2.drew) h3 (by simp)) (by simp)
  · simp only [List.mem_singleton] at hk
    subst hk
    exact ⟨_, hT, by decide, by decide⟩
set_option maxHeartbeats 2000000 in
set_option maxRecDepth 100000 in
theorem esc_first (B rb : Nat) (s : ByteArray) (w : World) (h : EscNew w B rb) (hs : s.size ≤ 10000000) :
    Calls Tryz.prog 37 #[.pointer (some ⟨rb, 0, none⟩), .string s] w fun e w' => e = .returned (.string ⟨(escP s.data.toList).toArray⟩) ∧ EscUsed w' rb ∧ Off [rb] w w' := by
  have hmf := rep_fun
  have hme := esc_method
  obtain ⟨W, hW⟩ : ∃ W, W = w.setCell ⟨rb, 1, none⟩ (.int .i32 1) := ⟨_, rfl⟩
  have oW : Off [rb] w W := by rw [hW]; exact (Off.refl [rb] w).setCell _ _ (by simp)
  have hTW : TyAt W rb 122 := by rw [hW]; exact h.ty.set _ _ _
  have c0 : W.cell? ⟨rb, 0, none⟩ = some (.int .u32 0) := by rw [hW]; exact cell_other h.c0 (by simp)
  have c1 : W.cell? ⟨rb, 1, none⟩ = some (.int .i32 1) := by rw [hW]; exact cell_same h.c1
  have c3 : W.cell? ⟨rb, 3, none⟩ = some .nilIface := by rw [hW]; exact cell_other h.c3 (by simp)
  have c4 : ∃ v, W.cell? ⟨rb, 4, none⟩ = some v ∧ OwnsG kTx W B v six := by
    obtain ⟨v, h1, h2⟩ := h.c4
    refine ⟨v, by rw [hW]; exact cell_other h1 (by simp), h2.off oW (fun g hg hm => ?_)⟩
    simp only [List.mem_singleton] at hm
    subst hm
    exact h.ty.not h2 (by decide) (by simp [hg])
  have K := rep_once rb B W hTW c3 c4
  rw [hW] at K
  have HO := Lib.hid (once_first rb w (fun w2 => TyAt w2 rb 122 ∧ w2.cell? ⟨rb, 0, none⟩ = some (.int .u32 0) ∧ w2.cell? ⟨rb, 1, none⟩ = some (.int .i32 1) ∧ (∃ sb, w2.cell? ⟨rb, 3, none⟩ = some (.iface 191 (.pointer (some ⟨sb, 0, none⟩))) ∧ RepAt w2 (w.setCell ⟨rb, 1, none⟩ (.int .i32 1)).heap.size sb [13, 10, 92] [13, 10, 92]) ∧ Off [rb] (w.setCell ⟨rb, 1, none⟩ (.int .i32 1)) w2)
    h.c0 h.c1 (h.ty.frozen 1) (K.mono (by
      rintro e w2 ⟨rfl, k1, k2, k3, k4⟩
      exact ⟨rfl, k1, k2 0 _ (by decide) (by rw [← hW]; exact c0), k2 1 _ (by decide) (by rw [← hW]; exact c1), k3, k4⟩)) (fun w2 ⟨k1, k2, k3, _, _⟩ => ⟨k2, k3, k1.frozen 0, k1.frozen 1⟩))
  clear K oW hTW c0 c1 c3 c4 hW
  have hl := h.ty.lt
  clear h
  go_enter Tryz.func37, Tryz.ntmps37
  go_wp2_with fail
  refine HO.out.mono ?_
  rintro e w3 ⟨rfl, w2, ⟨k1, k2, k3, k4, k5⟩, hw3⟩
  obtain ⟨hU, ho⟩ := esc_made k1 k2 k3 k4 rfl k5 hw3
  obtain ⟨sb, u3, hR⟩ := hU.c3
  have HU := Lib.hid hU
  have HOF := Lib.hid ho
  have HR := Lib.hid (rep_replace 0 sb s w3 hR hs)
  clear k1 k2 k3 k4 k5 hw3 hU ho hR HO
  go_wp2_with fail
  refine HR.out.mono ?_
  rintro e w4 ⟨rfl, hb⟩
  have HU4 := Lib.hid (HU.out.off (m := []) (Off.ofBelowB hb) (Soft.nil w3))
  have HO4 := Lib.hid (HOF.out.below hb HOF.out.size)
  clear hb HR u3
  go_wp2_with fail
  go_ret
  exact ⟨rfl, HU4.out, HO4.out⟩
set_option maxHeartbeats 2000000 in
set_option maxRecDepth 100000 in
theorem esc_again (rb : Nat) (s : ByteArray) (w : World) (h : EscUsed w rb) (hs : s.size ≤ 10000000) :
    Calls Tryz.prog 37 #[.pointer (some ⟨rb, 0, none⟩), .string s] w fun e w' => e = .returned (.string ⟨(escP s.data.toList).toArray⟩) ∧ EscUsed w' rb ∧ Off [rb] w w' := by
  have hmf := rep_fun
  have hme := esc_method
  have HO := Lib.hid (once_done ⟨rb, 0, none⟩ (.func (.func 59) #[.pointer (some ⟨rb, 0, none⟩)] #[]) w h.c0)
  obtain ⟨sb, u3, hR⟩ := h.c3
  have HU := Lib.hid h
  have HR := Lib.hid (rep_replace 0 sb s w hR hs)
  have hl := h.ty.lt
  clear h hR
  go_enter Tryz.func37, Tryz.ntmps37
  go_wp2_with fail
  refine HO.out.mono ?_
  rintro e w3 ⟨rfl, rfl⟩
  go_wp2_with fail
  refine HR.out.mono ?_
  rintro e w4 ⟨rfl, hb⟩
  have HU4 := Lib.hid (HU.out.off (m := []) (Off.ofBelowB hb) (Soft.nil w3))
  have HO4 := Lib.hid ((Off.refl [rb] w3).below hb (Nat.le_refl _))
  clear hb HR u3
  go_wp2_with fail
  go_ret
  exact ⟨rfl, HU4.out, HO4.out⟩
end Go.Proofs.YtnhlnhmjnnopaaaGreatDoor
