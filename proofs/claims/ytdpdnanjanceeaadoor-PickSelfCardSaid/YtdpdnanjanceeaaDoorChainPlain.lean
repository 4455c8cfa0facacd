/- Chains of tags. No program stands here. -/
import Derived.Test.YtdpdnanjanceeaaDoorTagPlain
namespace Go.Proofs.YtdpdnanjanceeaaDoor
open Go

/-- what a tag says -/
structure TagC where
  l : ByteArray
  s : ByteArray
  r : ByteArray
  vs : List ByteArray

def TagC.err (t : TagC) : Int := tagErr t.l.data.toList t.s.data.toList t.r.data.toList (t.vs.map (·.data.toList))
/-- without its last part -/
def lessC (t : TagC) : Option TagC :=
  if t.vs ≠ [] then some { t with vs := t.vs.dropLast }
  else if t.r.data.toList.isEmpty = false then some { t with r := ⟨#[]⟩ }
  else if t.s.data.toList.isEmpty = false then some { t with s := ⟨#[]⟩ }
  else none
def sizeC (t : TagC) : Nat := t.vs.length + ((if t.r.data.toList.isEmpty then 0 else 1) + (if t.s.data.toList.isEmpty then 0 else 1))
theorem lessC_size {t t' : TagC} (h : lessC t = some t') : sizeC t' + 1 = sizeC t := by
  unfold lessC at h
  split at h
  · rename_i h1
    cases h
    have : 0 < t.vs.length := List.length_pos_iff.2 h1
    simp only [sizeC, List.length_dropLast]
    omega
  · rename_i h1
    have h1 : t.vs = [] := by simpa using h1
    split at h
    · rename_i h2
      cases h
      simp only [sizeC, h2]
      simp
      omega
    · rename_i h2
      split at h
      · rename_i h3
        cases h
        have h2 : t.r.data.toList.isEmpty = true := by simpa using h2
        simp only [sizeC, h2, h3]
        simp
      · cases h
theorem lessC_none {t : TagC} (h : lessC t = none) : sizeC t = 0 := by
  unfold lessC at h
  split at h
  · cases h
  · rename_i h1
    have h1 : t.vs = [] := by simpa using h1
    split at h
    · cases h
    · rename_i h2
      have h2 : t.r.data.toList.isEmpty = true := by simpa using h2
      split at h
      · cases h
      · rename_i h3
        have h3 : t.s.data.toList.isEmpty = true := by simpa using h3
        simp only [sizeC, h1, h2, h3]
        simp
def chainN : Nat → TagC → List TagC
  | 0, t => [t]
  | k + 1, t => match lessC t with
    | none => [t]
    | some t' => t :: chainN k t'
def chainC (t : TagC) : List TagC := chainN (sizeC t) t
theorem chainC_some {t t' : TagC} (h : lessC t = some t') : chainC t = t :: chainC t' := by
  unfold chainC
  rw [← lessC_size h, chainN, h]
theorem chainC_none {t : TagC} (h : lessC t = none) : chainC t = [t] := by
  unfold chainC
  rw [lessC_none h]
  rfl
theorem chainC_len (k : Nat) : ∀ t, sizeC t = k → (chainC t).length = k + 1 := by
  induction k with
  | zero =>
    intro t h
    cases hl : lessC t with
    | none => rw [chainC_none hl]; rfl
    | some t' => have := lessC_size hl; omega
  | succ k ih =>
    intro t h
    cases hl : lessC t with
    | none => have := lessC_none hl; omega
    | some t' =>
      have := lessC_size hl
      rw [chainC_some hl, List.length_cons, ih t' (by omega)]
/-- the chain of one in the chain is its end -/
theorem chainC_drop (i : Nat) : ∀ t u, (chainC t)[i]? = some u → chainC u = (chainC t).drop i := by
  induction i with
  | zero =>
    intro t u h
    cases hl : lessC t with
    | none => rw [chainC_none hl] at h; cases h; rfl
    | some t' => rw [chainC_some hl] at h; cases h; rfl
  | succ i ih =>
    intro t u h
    cases hl : lessC t with
    | none => rw [chainC_none hl] at h; simp at h
    | some t' =>
      rw [chainC_some hl] at h ⊢
      simp only [List.getElem?_cons_succ] at h
      rw [List.drop_succ_cons]
      exact ih t' u h
theorem varErr_front : ∀ (a b seen : List Bs), varErr seen (a ++ b) = 0 → varErr seen a = 0
  | [], _, _, _ => rfl
  | x :: a, b, seen, h => by
    rw [List.cons_append, varErr] at h
    rw [varErr]
    split at h
    · cases h
    · rename_i h1
      rw [if_neg h1]
      split at h
      · cases h
      · rename_i h2
        rw [if_neg h2]
        exact varErr_front a b _ h
theorem tagErr_mk {l s r : Bs} {vs : List Bs} (h1 : madeB lowB l 2 3 = true) (h2 : s = [] ∨ scriptB s = true) (h3 : r = [] ∨ regionB r = true) (h4 : varErr [] vs = 0) (h5 : vs.length ≤ 3) : tagErr l s r vs = 0 := by
  have hh : headB l s r = true := by
    unfold headB
    rw [h1]
    rcases h2 with rfl | h2 <;> rcases h3 with rfl | h3 <;> simp [*]
  unfold tagErr
  rw [if_neg (by rw [hh]; decide), if_pos h4, if_neg (by omega)]
theorem lessC_err {t t' : TagC} (h : lessC t = some t') (he : t.err = 0) : t'.err = 0 := by
  obtain ⟨h1, h2, h3, h4, h5⟩ := tagErr_ok he
  unfold lessC at h
  split at h
  · cases h
    refine tagErr_mk h1 h2 h3 ?_ ?_
    · rename_i hv
      rw [List.map_dropLast]
      have e : t.vs.map (·.data.toList) ≠ [] := by simpa using hv
      have := List.dropLast_concat_getLast e
      rw [← this] at h4
      exact varErr_front _ _ _ h4
    · simp at h5 ⊢; omega
  · rename_i hv
    have hv : t.vs = [] := by simpa using hv
    split at h
    · cases h
      exact tagErr_mk h1 h2 (.inl rfl) h4 h5
    · split at h
      · cases h
        exact tagErr_mk h1 (.inl rfl) h3 h4 h5
      · cases h
theorem chainC_err (k : Nat) : ∀ t, sizeC t = k → t.err = 0 → ∀ u ∈ chainC t, u.err = 0 := by
  induction k with
  | zero =>
    intro t hk he u hu
    cases hl : lessC t with
    | none => rw [chainC_none hl] at hu; simp at hu; exact hu ▸ he
    | some t' => have := lessC_size hl; omega
  | succ k ih =>
    intro t hk he u hu
    cases hl : lessC t with
    | none => rw [chainC_none hl] at hu; simp at hu; exact hu ▸ he
    | some t' =>
      rw [chainC_some hl] at hu
      rcases List.mem_cons.1 hu with rfl | hu
      · exact he
      · exact ih t' (by have := lessC_size hl; omega) (lessC_err hl he) u hu
theorem sizeC_le {t : TagC} (he : t.err = 0) : sizeC t ≤ 5 := by
  have h5 := (tagErr_ok he).2.2.2.2
  simp only [List.length_map] at h5
  unfold sizeC
  split <;> split <;> omega
end Go.Proofs.YtdpdnanjanceeaaDoor
