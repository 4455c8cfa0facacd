/- rule.Parse: how much may come out. -/
import Derived.Test.YtkklemhhimcahaaGreatDoorRuleParse2
namespace Go.Proofs.YtkklemhhimcahaaGreatDoor
open Go.RowKit Go.Shelf

theorem pieces_sum (sep : ByteArray) (hsep : 0 < sep.size) : ∀ (n : Nat) (s : ByteArray), s.size = n → ((pieces sep s).map (fun x => x.size + 1)).sum ≤ s.size + 1 := by
  intro n
  induction n using Nat.strongRecOn with
  | ind n ih =>
    intro s hs
    rcases index_cases s sep hsep with ⟨_, h⟩ | ⟨i, _, hr, h⟩
    · rw [h]
      simp
    · rw [h, List.map_cons, List.sum_cons]
      have hsz : (s.extract (i + sep.size) s.size).size = s.size - (i + sep.size) := by simp [ByteArray.size_extract]
      have hs0 : (s.extract 0 i).size = i := by simp [ByteArray.size_extract]; omega
      have := ih _ (by rw [hsz]; omega) (s.extract (i + sep.size) s.size) rfl
      rw [hsz] at this
      rw [hs0]
      omega
theorem tail_size (s : ByteArray) : (tailB s).size ≤ s.size := by
  unfold tailB
  split <;> exact (cut_sizes _ _).2
theorem parsed_small (s : ByteArray) : (parsedB s).rs.length ≤ s.size + 1 := by
  have h1 := pieces_len comS (by decide) _ (tailB s) rfl
  have h2 := tail_size s
  unfold parsedB
  simp only [List.length_map]
  omega
theorem parse_small (s : ByteArray) : ∀ p ∈ parseB s, ∀ r ∈ p, r.rs.length ≤ s.size + 1 := by
  intro p hp r hr
  obtain ⟨x, hx, rfl⟩ := List.mem_map.1 hp
  obtain ⟨y, hy, rfl⟩ := List.mem_map.1 hr
  have h1 := pieces_size orS (by decide) _ s rfl x hx
  have h2 := pieces_size andS (by decide) _ x rfl y hy
  have h3 := parsed_small y
  omega
theorem parse_count (s : ByteArray) : ruleCount (parseB s) ≤ s.size + 1 := by
  have h := pieces_sum orS (by decide) _ s rfl
  unfold ruleCount parseB
  rw [List.map_map]
  refine Nat.le_trans ?_ h
  generalize pieces orS s = l
  induction l with
  | nil => simp
  | cons x l ih =>
    rw [List.map_cons, List.map_cons, List.sum_cons, List.sum_cons]
    have := pieces_len andS (by decide) _ x rfl
    have e : (List.length ∘ partB) x = (pieces andS x).length := by simp [partB]
    rw [e]
    omega
/-- what the loops have made, in the words of rule.Text's contract -/
theorem OB.rule {b4 B4 hi : Nat} {A : Option Addr} {n : Nat} {ps : List PartD} {W : World} (h : OB b4 B4 hi (.slice A ps.length n) ps W) : RuleIn W A ps ∧ ps.length ≤ n ∧ n ≤ 9223372036854775807 := by
  obtain ⟨_, h2, _, h4⟩ := h
  obtain ⟨A', c, hv, hc, hc2, _, hcells⟩ := h2.form
  obtain ⟨hA, hn⟩ : A = A' ∧ n = c := by cases hv; exact ⟨rfl, rfl⟩
  refine ⟨⟨?_, fun p hp => (h4 p hp).now⟩, by omega, by omega⟩
  rcases hcells with h0 | ⟨g, hg, _, _, hat⟩
  · exact .inl h0
  · refine .inr ⟨g, 0, by rw [hA, hg], fun j p hp => ?_⟩
    have := hat j p 0 _ hp rfl
    simpa [kPart] using this
theorem small_of {ps : List PartD} {s : ByteArray} (h : ruleC ps = parseB s) (hs : s.size < 4294967281) : RuleSmall ps := by
  intro p hp r hr
  have := parse_small s p.c (by rw [← h]; exact List.mem_map_of_mem hp) r.c (List.mem_map_of_mem hr)
  omega
end Go.Proofs.YtkklemhhimcahaaGreatDoor
