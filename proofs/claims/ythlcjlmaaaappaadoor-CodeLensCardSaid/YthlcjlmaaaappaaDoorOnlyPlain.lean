/- R.Only, R.In on lists of bytes. No program stands here. -/
namespace Go.Proofs.YthlcjlmaaaappaaDoor

def onlyB (s of : List UInt8) (a b : Int) : Bool := s.all (of.contains ·) && decide (a ≤ s.length) && decide ((s.length : Int) ≤ b)

theorem contains_take_succ (l : List UInt8) (c : UInt8) (j : Nat) (h : j < l.length) : (l.take (j + 1)).contains c = ((l.take j).contains c || c == l[j]) := by
  rw [List.take_succ_eq_append_getElem h, Bool.eq_iff_iff]
  simp only [List.contains_iff_mem, Bool.or_eq_true, List.mem_append, List.mem_singleton, beq_iff_eq]
theorem allp_take_succ (l : List UInt8) (p : UInt8 → Bool) (k : Nat) (h : k < l.length) : (l.take (k + 1)).all p = ((l.take k).all p && p l[k]) := by
  rw [List.take_succ_eq_append_getElem h, List.all_append]
  simp
theorem allp_false_of (l : List UInt8) (p : UInt8 → Bool) (k : Nat) (h : k < l.length) (hp : p l[k] = false) : l.all p = false := by
  rw [List.all_eq_false]
  exact ⟨l[k], List.getElem_mem h, by simp [hp]⟩

end Go.Proofs.YthlcjlmaaaappaaDoor
