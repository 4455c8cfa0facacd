/- Bulk: texts put together. -/
import Derived.Test.YtnhlnhmjnnopaaaGreatDoorPp7
set_option linter.unusedVariables false
set_option linter.unusedSimpArgs false
/- The bulk of data; small facts on readings. -/
namespace Go.Proofs.YtnhlnhmjnnopaaaGreatDoor
open Go.RowKit Go.ChangeShapes Go.WideShapes Go.Joins Go.Deep

theorem bulk_pos {H : Type} (d : DataW H) : 1 ≤ Rows.uptoBulk d := by
  cases d with
  | lit l => cases l <;> (unfold Rows.uptoBulk; omega)
  | nil => unfold Rows.uptoBulk; omega
  | ptr d => unfold Rows.uptoBulk; omega
  | slice a b => unfold Rows.uptoBulk; omega
  | agg a => unfold Rows.uptoBulk; omega
  | iface a b => unfold Rows.uptoBulk; omega
  | map a => unfold Rows.uptoBulk; omega
  | held a => unfold Rows.uptoBulk; omega
theorem bulk_mem {H : Type} {d : DataW H} : ∀ {l : List (DataW H)}, d ∈ l → Rows.uptoBulk d ≤ Rows.uptoBulkAll l
  | [], h => by cases h
  | x :: r, h => by
    simp only [Rows.uptoBulkAll]
    rcases List.mem_cons.1 h with rfl | h
    · omega
    · have := bulk_mem h; omega
theorem bulk_len {H : Type} : ∀ (l : List (DataW H)), l.length ≤ Rows.uptoBulkAll l
  | [] => by simp
  | x :: r => by
    have h1 := bulk_pos x
    have h2 := bulk_len r
    simp only [Rows.uptoBulkAll, List.length_cons]
    omega
theorem bulkAll_append {H : Type} : ∀ (a b : List (DataW H)), Rows.uptoBulkAll (a ++ b) = Rows.uptoBulkAll a + Rows.uptoBulkAll b
  | [], b => by simp [Rows.uptoBulkAll]
  | x :: r, b => by simp only [List.cons_append, Rows.uptoBulkAll, bulkAll_append r b]; omega
/-- what each is no more than its data's bulk, all are no more than the list's -/
theorem bulk_sum {H : Type} {α : Type} (f : α → Nat) (D : Nat → DataW H) : ∀ (n : Nat) (ts : List α), ts.length = n → (∀ (i : Nat) t, ts[i]? = some t → f t ≤ Rows.uptoBulk (D i)) → (ts.map f).sum ≤ Rows.uptoBulkAll ((List.range n).map D) := by
  intro n
  induction n with
  | zero => intro ts h _; obtain rfl := List.length_eq_zero_iff.1 h; simp
  | succ n ih =>
    intro ts h hf
    have hne : ts ≠ [] := by intro e; rw [e] at h; simp at h
    obtain ⟨r, t, rfl⟩ : ∃ r t, ts = r ++ [t] := ⟨ts.dropLast, ts.getLast hne, (List.dropLast_concat_getLast hne).symm⟩
    have hr : r.length = n := by simpa using h
    have h1 := ih r hr (fun i u hu => hf i u (by rw [List.getElem?_append_left (List.getElem?_eq_some_iff.1 hu).1]; exact hu))
    have h2 := hf n t (by rw [← hr]; simp)
    rw [List.range_succ, List.map_append (f := D), bulkAll_append, List.map_append, List.sum_append]
    simp only [List.map_cons, List.map_nil, List.sum_cons, List.sum_nil, Rows.uptoBulkAll]
    omega

theorem addr_plain {W : World} {a : Addr} {n : Nat} {v : Value} (h : W.cell? (a.add n) = some v) (hn : n = 0) : ∃ b o, a = ⟨b, o, none⟩ := by
  obtain ⟨b, o, spot⟩ := a
  subst hn
  have hspot : spot = none := World.cell?_spot (show W.cell? ⟨b, o, spot⟩ = some v from h)
  subst hspot
  exact ⟨b, o, rfl⟩
theorem wf_i64 {n : Int} (h : (Lit.int .i64 n).wf = true) : -9223372036854775808 ≤ n ∧ n ≤ 9223372036854775807 := by
  simpa [Lit.wf, IntKind.min, IntKind.max, IntKind.signed, IntKind.bits] using h

end Go.Proofs.YtnhlnhmjnnopaaaGreatDoor
