/- TagText: texts put together. -/
import Derived.Test.YtnhlnhmjnnopaaaGreatDoorPp5
import Derived.Test.YtnhlnhmjnnopaaaGreatDoorPp15
set_option linter.unusedVariables false
set_option linter.unusedSimpArgs false
/- tag.Text of a right tag. -/
namespace Go.Proofs.YtnhlnhmjnnopaaaGreatDoor
open Go.RowKit

theorem StrsIn.lit3 (w : World) (a b c : ByteArray) (k : Nat) (hk : k = w.heap.size) : StrsIn (w.alloc (.cells #[.string a, .string b, .string c] 9)) (some ⟨k, 0, none⟩) [a, b, c] := by
  subst hk
  refine .inr ⟨_, 0, rfl, fun j x hx => ?_⟩
  rw [World.cell?_alloc_at _ _ _ _ rfl]
  have hj : j < 3 := (List.getElem?_eq_some_iff.1 hx).1
  match j, hj with
  | 0, _ => cases hx; rfl
  | 1, _ => cases hx; rfl
  | 2, _ => cases hx; rfl
theorem parts_map (l s r : ByteArray) (vs : List ByteArray) : (([l, s, r] ++ vs).filter (fun x => !x.data.toList.isEmpty)).map (·.data.toList) = partsL l.data.toList s.data.toList r.data.toList (listsOf vs) := by
  unfold partsL listsOf
  rw [show [l.data.toList, s.data.toList, r.data.toList] ++ vs.map (·.data.toList) = ([l, s, r] ++ vs).map (·.data.toList) by simp, List.filter_map]
  rfl
theorem text_len {l s r : Bs} {vs : List Bs} (h : tagErr l s r vs = 0) : (tagText l s r vs).length ≤ 100 := by
  obtain ⟨h1, h2, h3, h4, h5⟩ := tagErr_ok h
  have hl := madeB_len h1
  have hs : s.length ≤ 4 := by
    rcases h2 with h2 | h2
    · rw [h2]; simp
    · exact Nat.le_of_eq (scriptB_len h2)
  have hr : r.length ≤ 3 := by
    rcases h3 with h3 | h3
    · rw [h3]; simp
    · exact (regionB_len h3).2
  have hv : ∀ vs : List Bs, (∀ v ∈ vs, v.length ≤ 8) → Lib.lens vs ≤ 8 * vs.length := by
    intro vs
    induction vs with
    | nil => intro _; simp [Lib.lens]
    | cons x t ih =>
      intro h
      have e1 := ih (fun v hv => h v (List.mem_cons_of_mem _ hv))
      have e2 := h x List.mem_cons_self
      simp only [Lib.lens, List.map_cons, List.sum_cons, List.length_cons] at *
      omega
  have h8 := hv vs (fun v h => (madeB_len (varErr_len vs [] h4 v h)).2.1)
  have e := parts_ok h
  unfold tagText
  rw [join_len, e]
  have f1 : Lib.lens ([s].filter (fun x => !x.isEmpty)) ≤ 4 ∧ ([s].filter (fun x => !x.isEmpty)).length ≤ 1 := by
    by_cases hh : s.isEmpty <;> simp [List.filter_cons, hh, Lib.lens] <;> omega
  have f2 : Lib.lens ([r].filter (fun x => !x.isEmpty)) ≤ 3 ∧ ([r].filter (fun x => !x.isEmpty)).length ≤ 1 := by
    by_cases hh : r.isEmpty <;> simp [List.filter_cons, hh, Lib.lens] <;> omega
  have la : ∀ a b : List Bs, Lib.lens (a ++ b) = Lib.lens a + Lib.lens b := by
    intro a b; simp [Lib.lens]
  have lc : ∀ (a : Bs) (b : List Bs), Lib.lens (a :: b) = a.length + Lib.lens b := by
    intro a b; simp [Lib.lens]
  rw [lc, la, la]
  generalize [s].filter (fun x => !x.isEmpty) = S at *
  generalize [r].filter (fun x => !x.isEmpty) = R at *
  simp only [List.length_cons, List.length_nil, List.length_append, Nat.zero_add, Nat.one_mul]
  omega

set_option maxHeartbeats 2000000 in
theorem tag_text (l s r : ByteArray) (A : Option Addr) (c : Nat) (vs : List ByteArray) (w : World) (hX : StrsIn w A vs) (hA : A = none → c = 0) (hok : tagErr l.data.toList s.data.toList r.data.toList (listsOf vs) = 0) :
    Calls Tryz.prog 56 #[tagV l s r A vs.length c] w fun e w' => e = .returned (.string ⟨(tagText l.data.toList s.data.toList r.data.toList (listsOf vs)).toArray⟩) ∧ Below w.heap.size w w' := by
  have hn : vs.length ≤ 3 := by
    have := (tagErr_ok hok).2.2.2.2
    simpa using this
  have hlen := text_len hok
  have hpm := parts_map l s r vs
  have hne := parts_ne hok
  unfold tagText at hlen ⊢
  rw [← hpm] at hlen hne ⊢
  generalize hJ : Lib.join ((([l, s, r] ++ vs).filter (fun x => !x.data.toList.isEmpty)).map (·.data.toList)) [45] = J at hlen ⊢
  have HL := Lib.hid hlen
  have HJ := Lib.hid hJ
  have HX := Lib.hid hX
  have HA := Lib.hid hA
  clear hlen hne hX hA hok hpm hJ
  go_enter Tryz.func56, Tryz.ntmps56
  go_wp2_with fail
  have hcc := fun W (e : W = ((w.alloc (.cells #[.string l, .string s, .string r, .slice A vs.length c] 105)).alloc (.cells #[.string l, .string s, .string r] 9)).alloc (.cells #[.slice (some ⟨w.heap.size + 1, 0, none⟩) 3 3, .slice A vs.length c] 30)) =>
    concat2 (w.heap.size + 1 + 1) (some ⟨w.heap.size + 1, 0, none⟩) A 3 c [l, s, r] vs W (by subst e; go_simp) (by subst e; go_simp)
      (by subst e; exact ((StrsIn.lit3 (w.alloc _) l s r _ (by simp)).alloc _)) (by subst e; exact ((HX.out.alloc _).alloc _).alloc _) (fun h => by cases h) HA.out (by simp) (by simp; omega) 2
  refine (hcc _ rfl).mono ?_
  clear hcc
  rintro e w1 ⟨v, rfl, ho, hb1⟩
  have s1 := hb1.size
  obtain ⟨A3, c3, rfl, _, _, _⟩ := ho.form
  have hcap := ho.cap.2
  have hpos : 0 < ([l, s, r] ++ vs).length := by simp
  have hle : ([l, s, r] ++ vs).length ≤ 6 := by simp; omega
  generalize [l, s, r] ++ vs = ps at *
  have hds : w.heap.size < w1.heap.size := by simp at s1; omega
  have KD := Lib.hid (del_empty (A := A3) (c := c3) ps.length w1 rfl ho hpos s1)
  have hfl : (ps.filter (fun x => !x.data.toList.isEmpty)).length ≤ ps.length := List.length_filter_le _ _
  clear ho
  generalize ps.filter (fun x => !x.data.toList.isEmpty) = ys at *
  go_wp2_with fail
  refine KD.out.mono ?_
  rintro e w2 ⟨rfl, hs2, hb2⟩
  have KJ := Lib.hid (strings_joinW (A := A3) (c := c3) _ ⟨#[45]⟩ w2 rfl hs2 (by omega) (by omega) (by rw [show (ByteArray.mk #[45]).data.toList = [45] from rfl, HJ.out]; exact Nat.le_trans HL.out (by decide)))
  clear hs2 KD
  go_wp2_with fail
  refine KJ.out.mono ?_
  rintro e w3 ⟨rfl, hb3⟩
  have s2 := hb2.size
  go_wp2_with fail
  go_ret
  exact ⟨by rw [← HJ.out]; rfl, (by (repeat (first | with_reducible exact Below.refl _ _ | with_reducible refine bel_set ?_ ?_ | with_reducible refine bel_alloc ?_ ?_ | with_reducible refine Below.drew ?_ | with_reducible refine bel_drewN _ ?_ | with_reducible refine bel_call ?_ (by assumption) ?_)); all_goals (first | (simp; done) | omega | (simp; omega)))⟩
end Go.Proofs.YtnhlnhmjnnopaaaGreatDoor
