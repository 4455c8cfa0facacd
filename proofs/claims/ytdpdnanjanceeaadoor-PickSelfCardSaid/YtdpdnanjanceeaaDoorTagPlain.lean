/- Tags: what is right, their parts, their text; the text tells the tag. No program stands here. -/
import Derived.Test.YtdpdnanjanceeaaDoorStrsPlain
namespace Go.Proofs.YtdpdnanjanceeaaDoor
open Go

abbrev Bs := List UInt8
def lowB (c : UInt8) : Bool := decide (97 ≤ c.toNat) && decide (c.toNat ≤ 122)
def highB (c : UInt8) : Bool := decide (65 ≤ c.toNat) && decide (c.toNat ≤ 90)
def numB (c : UInt8) : Bool := decide (48 ≤ c.toNat) && decide (c.toNat ≤ 57)
def bothB (c : UInt8) : Bool := lowB c || numB c
/-- a part of so many signs of a kind -/
def madeB (p : UInt8 → Bool) (s : Bs) (a b : Nat) : Bool := s.all p && (decide (a ≤ s.length) && decide (s.length ≤ b))
def scriptB (s : Bs) : Bool := decide (s.length = 4) && (highB (s.getD 0 0) && madeB lowB (s.drop 1) 3 3)
def regionB (s : Bs) : Bool := madeB highB s 2 2 || madeB numB s 3 3
/-- is the head of a tag right? -/
def headB (l s r : Bs) : Bool := madeB lowB l 2 3 && ((s.isEmpty || scriptB s) && (r.isEmpty || regionB r))
/-- what is wrong with the variants: 0 nothing -/
def varErr : List Bs → List Bs → Int
  | _, [] => 0
  | seen, v :: vs => if madeB bothB v 5 8 = false then 3 else if seen.contains v then 5 else varErr (seen ++ [v]) vs
def tagErr (l s r : Bs) (vs : List Bs) : Int :=
  if headB l s r = false then 3 else if varErr [] vs = 0 then (if 3 < vs.length then 4 else 0) else varErr [] vs
def partsL (l s r : Bs) (vs : List Bs) : List Bs := ([l, s, r] ++ vs).filter (fun x => !x.isEmpty)
def tagText (l s r : Bs) (vs : List Bs) : Bs := Lib.join (partsL l s r vs) [45]

theorem madeB_len {p : UInt8 → Bool} {s : Bs} {a b : Nat} (h : madeB p s a b = true) : a ≤ s.length ∧ s.length ≤ b ∧ s.all p = true := by
  unfold madeB at h
  simp only [Bool.and_eq_true, decide_eq_true_eq] at h
  exact ⟨h.2.1, h.2.2, h.1⟩
theorem scriptB_len {s : Bs} (h : scriptB s = true) : s.length = 4 := by
  unfold scriptB at h
  simp only [Bool.and_eq_true, decide_eq_true_eq] at h
  exact h.1
theorem regionB_len {s : Bs} (h : regionB s = true) : 2 ≤ s.length ∧ s.length ≤ 3 := by
  unfold regionB at h
  rw [Bool.or_eq_true] at h
  rcases h with h | h
  · have := madeB_len h; omega
  · have := madeB_len h; omega
theorem varErr_len : ∀ (vs seen : List Bs), varErr seen vs = 0 → ∀ v ∈ vs, madeB bothB v 5 8 = true
  | [], _, _, v, hv => by cases hv
  | x :: vs, seen, h, v, hv => by
    unfold varErr at h
    split at h
    · cases h
    · rename_i h1
      split at h
      · cases h
      · rcases List.mem_cons.1 hv with rfl | hv
        · simpa using h1
        · exact varErr_len vs _ h v hv
theorem tagErr_ok {l s r : Bs} {vs : List Bs} (h : tagErr l s r vs = 0) : madeB lowB l 2 3 = true ∧ (s = [] ∨ scriptB s = true) ∧ (r = [] ∨ regionB r = true) ∧ varErr [] vs = 0 ∧ vs.length ≤ 3 := by
  unfold tagErr at h
  split at h
  · cases h
  · rename_i h1
    split at h
    · rename_i h2
      split at h
      · cases h
      · rename_i h3
        have h4 : headB l s r = true := by simpa using h1
        unfold headB at h4
        simp only [Bool.and_eq_true, Bool.or_eq_true, List.isEmpty_iff] at h4
        exact ⟨h4.1, h4.2.1, h4.2.2, h2, by omega⟩
    · rename_i h2
      exact absurd h h2

/-- the parts of a right tag, one behind the other -/
theorem parts_ok {l s r : Bs} {vs : List Bs} (h : tagErr l s r vs = 0) : partsL l s r vs = l :: ([s].filter (fun x => !x.isEmpty) ++ ([r].filter (fun x => !x.isEmpty) ++ vs)) := by
  obtain ⟨h1, _, _, h4, _⟩ := tagErr_ok h
  have hl := madeB_len h1
  have e1 : l.isEmpty = false := by cases l with | nil => simp at hl | cons => rfl
  have e2 : vs.filter (fun x => !x.isEmpty) = vs := List.filter_eq_self.2 fun v hv => by
    have := madeB_len (varErr_len vs [] h4 v hv)
    cases v with | nil => simp at this | cons => rfl
  unfold partsL
  rw [List.filter_append, e2]
  simp [List.filter_cons, e1]
  split <;> split <;> simp

/-! cutting at the sign between -/
def splitD : Bs → List Bs
  | [] => [[]]
  | c :: r => if c = 45 then [] :: splitD r else match splitD r with
    | [] => [[c]]
    | x :: xs => (c :: x) :: xs
theorem splitD_front : ∀ (x rest : Bs) (y : Bs) (ys : List Bs), 45 ∉ x → splitD rest = y :: ys → splitD (x ++ rest) = (x ++ y) :: ys
  | [], _, _, _, _, h => h
  | c :: x, rest, y, ys, hn, h => by
    have h1 := splitD_front x rest y ys (fun hm => hn (List.mem_cons_of_mem _ hm)) h
    have hc : c ≠ 45 := fun e => hn (e ▸ List.mem_cons_self)
    rw [List.cons_append, splitD, if_neg hc, h1]
    rfl
theorem splitD_tail : ∀ (r : List Bs) (x : Bs), 45 ∉ x → (∀ y ∈ r, 45 ∉ y) → splitD (x ++ Lib.joinTail [45] r) = x :: r
  | [], x, hx, _ => by
    have := splitD_front x [] [] [] hx rfl
    simpa [Lib.joinTail] using this
  | y :: r, x, hx, hr => by
    have ih := splitD_tail r y (hr y List.mem_cons_self) (fun z hz => hr z (List.mem_cons_of_mem _ hz))
    have e : Lib.joinTail [45] (y :: r) = 45 :: (y ++ Lib.joinTail [45] r) := by simp [Lib.joinTail]
    have h2 : splitD (45 :: (y ++ Lib.joinTail [45] r)) = [] :: y :: r := by rw [splitD, if_pos rfl, ih]
    rw [e]
    have := splitD_front x _ _ _ hx h2
    simpa using this
theorem splitD_join (xs : List Bs) (h : xs ≠ []) (hn : ∀ x ∈ xs, 45 ∉ x) : splitD (Lib.join xs [45]) = xs := by
  obtain ⟨x, r, rfl⟩ := List.exists_cons_of_ne_nil h
  rw [Lib.join_cons]
  exact splitD_tail r x (hn x List.mem_cons_self) (fun y hy => hn y (List.mem_cons_of_mem _ hy))

theorem made_nodash {p : UInt8 → Bool} {s : Bs} {a b : Nat} (hp : p 45 = false) (h : madeB p s a b = true) : 45 ∉ s := fun hm => by
  have := List.all_eq_true.1 (madeB_len h).2.2 45 hm
  rw [hp] at this
  cases this
theorem script_nodash {s : Bs} (h : scriptB s = true) : 45 ∉ s := fun hm => by
  unfold scriptB at h
  simp only [Bool.and_eq_true, decide_eq_true_eq] at h
  cases s with
  | nil => simp at hm
  | cons c r =>
    rcases List.mem_cons.1 hm with e | hm
    · subst e
      simp [highB] at h
    · exact made_nodash (p := lowB) (by decide) h.2.2 (by simpa using hm)
theorem region_nodash {s : Bs} (h : regionB s = true) : 45 ∉ s := by
  unfold regionB at h
  rw [Bool.or_eq_true] at h
  rcases h with h | h
  · exact made_nodash (by decide) h
  · exact made_nodash (by decide) h
theorem parts_nodash {l s r : Bs} {vs : List Bs} (h : tagErr l s r vs = 0) : ∀ x ∈ partsL l s r vs, 45 ∉ x := by
  intro x hx
  obtain ⟨h1, h2, h3, h4, _⟩ := tagErr_ok h
  unfold partsL at hx
  have hm := (List.mem_filter.1 hx).1
  have hne := (List.mem_filter.1 hx).2
  simp only [List.mem_append, List.mem_cons, List.mem_nil_iff, or_false] at hm
  rcases hm with (rfl | rfl | rfl) | hv
  · exact made_nodash (by decide) h1
  · rcases h2 with h2 | h2
    · rw [h2]; simp
    · exact script_nodash h2
  · rcases h3 with h3 | h3
    · rw [h3]; simp
    · exact region_nodash h3
  · exact made_nodash (by decide) (varErr_len vs [] h4 x hv)
theorem parts_ne {l s r : Bs} {vs : List Bs} (h : tagErr l s r vs = 0) : partsL l s r vs ≠ [] := by
  rw [parts_ok h]; simp

/-- by the lengths each part is known -/
theorem parts_tell {l s r l' s' r' : Bs} {vs vs' : List Bs} (h : tagErr l s r vs = 0) (h' : tagErr l' s' r' vs' = 0) (e : partsL l s r vs = partsL l' s' r' vs') : l = l' ∧ s = s' ∧ r = r' ∧ vs = vs' := by
  rw [parts_ok h, parts_ok h'] at e
  obtain ⟨_, a2, a3, a4, _⟩ := tagErr_ok h
  obtain ⟨_, b2, b3, b4, _⟩ := tagErr_ok h'
  have key : ∀ {s r : Bs} {vs : List Bs}, (s = [] ∨ scriptB s = true) → (r = [] ∨ regionB r = true) → varErr [] vs = 0 →
      (([s].filter (fun x => !x.isEmpty) ++ ([r].filter (fun x => !x.isEmpty) ++ vs)).filter (fun x => decide (x.length = 4)) = [s].filter (fun x => !x.isEmpty)) ∧
      (([s].filter (fun x => !x.isEmpty) ++ ([r].filter (fun x => !x.isEmpty) ++ vs)).filter (fun x => decide (x.length ≤ 3)) = [r].filter (fun x => !x.isEmpty)) ∧
      (([s].filter (fun x => !x.isEmpty) ++ ([r].filter (fun x => !x.isEmpty) ++ vs)).filter (fun x => decide (5 ≤ x.length)) = vs) := by
    intro s r vs hs hr hv
    have v4 : vs.filter (fun x => decide (x.length = 4)) = [] := List.filter_eq_nil_iff.2 fun v h => by
      have := madeB_len (varErr_len vs [] hv v h); simp; omega
    have v3 : vs.filter (fun x => decide (x.length ≤ 3)) = [] := List.filter_eq_nil_iff.2 fun v h => by
      have := madeB_len (varErr_len vs [] hv v h); simp; omega
    have v5 : vs.filter (fun x => decide (5 ≤ x.length)) = vs := List.filter_eq_self.2 fun v h => by
      have := madeB_len (varErr_len vs [] hv v h); simp; omega
    have S : (s = [] ∧ [s].filter (fun x => !x.isEmpty) = []) ∨ (s.length = 4 ∧ [s].filter (fun x => !x.isEmpty) = [s]) := by
      rcases hs with rfl | hs
      · exact .inl ⟨rfl, rfl⟩
      · have := scriptB_len hs
        refine .inr ⟨this, ?_⟩
        cases s with | nil => simp at this | cons => rfl
    have R : (r = [] ∧ [r].filter (fun x => !x.isEmpty) = []) ∨ ((2 ≤ r.length ∧ r.length ≤ 3) ∧ [r].filter (fun x => !x.isEmpty) = [r]) := by
      rcases hr with rfl | hr
      · exact .inl ⟨rfl, rfl⟩
      · have := regionB_len hr
        refine .inr ⟨this, ?_⟩
        cases r with | nil => simp at this | cons => rfl
    rw [List.filter_append, List.filter_append, List.filter_append, List.filter_append, List.filter_append, List.filter_append, v4, v3, v5]
    rcases S with ⟨_, e1⟩ | ⟨s4, e1⟩ <;> rcases R with ⟨_, e2⟩ | ⟨r3, e2⟩ <;> rw [e1, e2]
    · simp
    · simp [List.filter_cons, show ¬ r.length = 4 by omega, show r.length ≤ 3 by omega, show ¬ 5 ≤ r.length by omega]
    · simp [List.filter_cons, s4]
    · simp [List.filter_cons, s4, show ¬ r.length = 4 by omega, show r.length ≤ 3 by omega, show ¬ 5 ≤ r.length by omega]
  obtain ⟨k1, k2, k3⟩ := key a2 a3 a4
  obtain ⟨m1, m2, m3⟩ := key b2 b3 b4
  injection e with el er
  rw [er] at k1 k2 k3
  have one : ∀ x y : Bs, [x].filter (fun x => !x.isEmpty) = [y].filter (fun x => !x.isEmpty) → x = y := by
    intro x y hxy
    cases x <;> cases y <;> simp_all [List.filter_cons]
  exact ⟨el, one _ _ (k1.symm.trans m1), one _ _ (k2.symm.trans m2), k3.symm.trans m3⟩

theorem text_tells {l s r l' s' r' : Bs} {vs vs' : List Bs} (h : tagErr l s r vs = 0) (h' : tagErr l' s' r' vs' = 0) (e : tagText l s r vs = tagText l' s' r' vs') : l = l' ∧ s = s' ∧ r = r' ∧ vs = vs' := by
  refine parts_tell h h' ?_
  have h1 := splitD_join _ (parts_ne h) (parts_nodash h)
  have h2 := splitD_join _ (parts_ne h') (parts_nodash h')
  unfold tagText at e
  rw [← h1, ← h2, e]

end Go.Proofs.YtdpdnanjanceeaaDoor
