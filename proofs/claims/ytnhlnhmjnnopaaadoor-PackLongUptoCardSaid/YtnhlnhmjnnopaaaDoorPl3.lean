/- StrsPlain, TagPlain, TagSpec, TagRefPlain, BundlePlain, EntIn, RowsS, HeldMapW, Trim, TrimCut, PropKey, JoinW, AddLet: texts put together. -/
import Derived.Test.YtnhlnhmjnnopaaaDoorPl2
import Derived.Lib.Join
import Derived.Lib.SplitLaws
import Derived.Test.YtnhlnhmjnnopaaaDoorProg
import Derived.Test.YtnhlnhmjnnopaaaDoorShelf
import Derived.Laws.AppendOwn
import Derived.Laws.OwnMore
import Derived.OwnWalk
import Derived.WideShapes
import Derived.Test.YtnhlnhmjnnopaaaDoorPl1
import Derived.Carry
import Derived.WalkLawsBesides
import Derived.Lib.Strings
import Derived.Deep.WholeRow
set_option linter.unusedVariables false
set_option linter.unusedSimpArgs false
/- Lists of texts in memory, and what joining makes of them. -/
namespace Go.Proofs.YtnhlnhmjnnopaaaDoor
open Go.RowKit

/-- The slice at A reads as these texts. -/
def StrsIn (w : World) (A : Option Addr) (xs : List ByteArray) : Prop :=
  xs = [] ∨ ∃ bk o, A = some ⟨bk, o, none⟩ ∧ ∀ (j : Nat) x, xs[j]? = some x → w.cell? ⟨bk, o + j, none⟩ = some (.string x)
theorem StrsIn.below {w w' : World} {A : Option Addr} {xs : List ByteArray} (h : StrsIn w A xs) (hb : Below w.heap.size w w') : StrsIn w' A xs := by
  rcases h with h | ⟨bk, o, hA, hc⟩
  · exact .inl h
  · exact .inr ⟨bk, o, hA, fun j x hx => carry hb (hc j x hx)⟩
theorem StrsIn.drewN {w : World} {A : Option Addr} {xs : List ByteArray} (h : StrsIn w A xs) (n : Nat) : StrsIn (w.drewN n) A xs := h

abbrev strsL (xs : List ByteArray) : List (List UInt8) := xs.map (·.data.toList)
theorem mk_append3 (a b c : ByteArray) : a ++ b ++ c = ⟨(a.data.toList ++ b.data.toList ++ c.data.toList).toArray⟩ := by
  apply ByteArray.ext
  apply Array.ext'
  simp
/-- what list.Join tells -/
def listJoin (xs : List (List UInt8)) (two sep last : List UInt8) : List UInt8 :=
  if xs.length < 2 then Lib.join xs []
  else if xs.length = 2 then xs.getD 0 [] ++ two ++ xs.getD 1 []
  else Lib.join (xs.take (xs.length - 1)) sep ++ last ++ xs.getD (xs.length - 1) []
def lensB (xs : List ByteArray) : Nat := (xs.map (·.size)).sum
theorem lens_map (xs : List ByteArray) : Lib.lens (xs.map (·.data.toList)) = lensB xs := by
  induction xs with
  | nil => rfl
  | cons x r ih =>
    simp only [List.map_cons, lensB, Lib.lens, List.sum_cons] at *
    rw [ih]
    simp
theorem join_len (xs : List (List UInt8)) (sep : List UInt8) : (Lib.join xs sep).length = sep.length * (xs.length - 1) + Lib.lens xs := by
  cases xs with
  | nil => rfl
  | cons x r => rw [Lib.join_length]; simp

theorem join_take_succ (xs : List (List UInt8)) (sep : List UInt8) (k : Nat) (y : List UInt8) (h : xs[k]? = some y) : Lib.join (xs.take (k + 1)) sep = if k = 0 then y else Lib.join (xs.take k) sep ++ sep ++ y := by
  cases xs with
  | nil => simp at h
  | cons x r =>
    cases k with
    | zero => simp at h; subst h; simp [Lib.join_one]
    | succ k =>
      simp only [List.getElem?_cons_succ] at h
      rw [if_neg (by omega), List.take_succ_cons, List.take_succ_cons, Lib.join_cons, Lib.join_cons, Lib.joinTail_take_succ _ _ _ _ h]
      simp [List.append_assoc]
theorem lensB_take_le (xs : List ByteArray) (k : Nat) : lensB (xs.take k) ≤ lensB xs := by
  rw [← lens_map, ← lens_map, List.map_take]
  exact Lib.lens_take_le _ _
theorem lensB_take_succ (xs : List ByteArray) (k : Nat) (y : ByteArray) (h : xs[k]? = some y) : lensB (xs.take (k + 1)) = lensB (xs.take k) + y.size := by
  rw [List.take_add_one, h]
  simp [lensB]
theorem size_le_lensB (xs : List ByteArray) (k : Nat) (y : ByteArray) (h : xs[k]? = some y) : y.size ≤ lensB xs := by
  have h1 := lensB_take_succ xs k y h
  have h2 := lensB_take_le xs (k + 1)
  omega
theorem listJoin_plain (xs : List (List UInt8)) : listJoin xs [] [] [] = Lib.join xs [] := by
  have flat : ∀ l : List (List UInt8), Lib.join l [] = l.flatten := by
    intro l
    cases l with
    | nil => rfl
    | cons x r => rw [Lib.join_cons]; simp [Lib.joinTail]
  unfold listJoin
  split
  · rfl
  · rename_i h
    split
    · rename_i h2
      match xs, h2 with
      | [a, b], _ => simp [flat]
    · rw [flat, flat, List.append_nil]
      have h3 : xs.length - 1 < xs.length := by omega
      have e : xs.getD (xs.length - 1) [] = xs[xs.length - 1] := by simp [List.getD_eq_getElem?_getD, List.getElem?_eq_getElem h3]
      rw [e]
      have := List.take_append_getElem h3
      rw [show xs.length - 1 + 1 = xs.length by omega, List.take_length] at this
      have t2 := congrArg List.flatten this
      rw [List.flatten_append] at t2
      rw [← t2]
      simp only [List.flatten_cons, List.flatten_nil, List.append_nil]
/-- as many bytes -/
def joinN (n : Nat) (sum two sep last : Nat) : Nat := sum + (if n = 2 then two else 0) + (if 2 < n then (n - 2) * sep + last else 0)
theorem listJoin_length (xs : List (List UInt8)) (two sep last : List UInt8) : (listJoin xs two sep last).length = joinN xs.length (Lib.lens xs) two.length sep.length last.length := by
  unfold listJoin joinN
  split
  · rename_i h
    rw [join_len, if_neg (by omega), if_neg (by omega)]
    simp
  · rename_i h
    split
    · rename_i h2
      match xs, h2 with
      | [a, b], _ => simp [Lib.lens]; omega
    · rename_i h2
      have h3 : xs.length - 1 < xs.length := by omega
      have hs := Lib.lens_take_succ xs (xs.length - 1) xs[xs.length - 1] (List.getElem?_eq_getElem h3)
      rw [show xs.length - 1 + 1 = xs.length by omega, List.take_length] at hs
      have e : xs.getD (xs.length - 1) [] = xs[xs.length - 1] := by simp [List.getD_eq_getElem?_getD, List.getElem?_eq_getElem h3]
      rw [e, if_pos (by omega), List.length_append, List.length_append, join_len, List.length_take, hs, Nat.min_eq_left (by omega), show xs.length - 1 - 1 = xs.length - 2 by omega, Nat.mul_comm]
      omega

end Go.Proofs.YtnhlnhmjnnopaaaDoor

/- Tags: what is right, their parts, their text; the text tells the tag. No program stands here. -/
namespace Go.Proofs.YtnhlnhmjnnopaaaDoor
open Go

abbrev Bs := List UInt8
def lowB (c : UInt8) : Bool := decide (97 ≤ c.toNat) && decide (c.toNat ≤ 122)
def highB (c : UInt8) : Bool := decide (65 ≤ c.toNat) && decide (c.toNat ≤ 90)
def numB (c : UInt8) : Bool := decide (48 ≤ c.toNat) && decide (c.toNat ≤ 57)
def bothB (c : UInt8) : Bool := lowB c || numB c
/-- a part of so many signs of a kind -/
def madeB (p : UInt8 → Bool) (s : Bs) (a b : Nat) : Bool := s.all p && (decide (a ≤ s.length) && decide (s.length ≤ b))
def scriptB (s : Bs) : Bool := decide (s.length = 4) && (highB (s.getD 0 0) && madeB lowB (s.drop 1) 3 3)
def regionB (s : Bs) : Bool := madeB highB s 2 2 || madeB numB s 3 3
/-- is the head of a tag right? -/
def headB (l s r : Bs) : Bool := madeB lowB l 2 3 && ((s.isEmpty || scriptB s) && (r.isEmpty || regionB r))
/-- what is wrong with the variants: 0 nothing -/
def varErr : List Bs → List Bs → Int
  | _, [] => 0
  | seen, v :: vs => if madeB bothB v 5 8 = false then 3 else if seen.contains v then 5 else varErr (seen ++ [v]) vs
def tagErr (l s r : Bs) (vs : List Bs) : Int :=
  if headB l s r = false then 3 else if varErr [] vs = 0 then (if 3 < vs.length then 4 else 0) else varErr [] vs
def partsL (l s r : Bs) (vs : List Bs) : List Bs := ([l, s, r] ++ vs).filter (fun x => !x.isEmpty)
def tagText (l s r : Bs) (vs : List Bs) : Bs := Lib.join (partsL l s r vs) [45]

theorem madeB_len {p : UInt8 → Bool} {s : Bs} {a b : Nat} (h : madeB p s a b = true) : a ≤ s.length ∧ s.length ≤ b ∧ s.all p = true := by
  unfold madeB at h
  simp only [Bool.and_eq_true, decide_eq_true_eq] at h
  exact ⟨h.2.1, h.2.2, h.1⟩
theorem scriptB_len {s : Bs} (h : scriptB s = true) : s.length = 4 := by
  unfold scriptB at h
  simp only [Bool.and_eq_true, decide_eq_true_eq] at h
  exact h.1
theorem regionB_len {s : Bs} (h : regionB s = true) : 2 ≤ s.length ∧ s.length ≤ 3 := by
  unfold regionB at h
  rw [Bool.or_eq_true] at h
  rcases h with h | h
  · have := madeB_len h; omega
  · have := madeB_len h; omega
theorem varErr_len : ∀ (vs seen : List Bs), varErr seen vs = 0 → ∀ v ∈ vs, madeB bothB v 5 8 = true
  | [], _, _, v, hv => by cases hv
  | x :: vs, seen, h, v, hv => by
    unfold varErr at h
    split at h
    · cases h
    · rename_i h1
      split at h
      · cases h
      · rcases List.mem_cons.1 hv with rfl | hv
        · simpa using h1
        · exact varErr_len vs _ h v hv
theorem tagErr_ok {l s r : Bs} {vs : List Bs} (h : tagErr l s r vs = 0) : madeB lowB l 2 3 = true ∧ (s = [] ∨ scriptB s = true) ∧ (r = [] ∨ regionB r = true) ∧ varErr [] vs = 0 ∧ vs.length ≤ 3 := by
  unfold tagErr at h
  split at h
  · cases h
  · rename_i h1
    split at h
    · rename_i h2
      split at h
      · cases h
      · rename_i h3
        have h4 : headB l s r = true := by simpa using h1
        unfold headB at h4
        simp only [Bool.and_eq_true, Bool.or_eq_true, List.isEmpty_iff] at h4
        exact ⟨h4.1, h4.2.1, h4.2.2, h2, by omega⟩
    · rename_i h2
      exact absurd h h2

/-- the parts of a right tag, one behind the other -/
theorem parts_ok {l s r : Bs} {vs : List Bs} (h : tagErr l s r vs = 0) : partsL l s r vs = l :: ([s].filter (fun x => !x.isEmpty) ++ ([r].filter (fun x => !x.isEmpty) ++ vs)) := by
  obtain ⟨h1, _, _, h4, _⟩ := tagErr_ok h
  have hl := madeB_len h1
  have e1 : l.isEmpty = false := by cases l with | nil => simp at hl | cons => rfl
  have e2 : vs.filter (fun x => !x.isEmpty) = vs := List.filter_eq_self.2 fun v hv => by
    have := madeB_len (varErr_len vs [] h4 v hv)
    cases v with | nil => simp at this | cons => rfl
  unfold partsL
  rw [List.filter_append, e2]
  simp [List.filter_cons, e1]
  split <;> split <;> simp

/-! cutting at the sign between -/
def splitD : Bs → List Bs
  | [] => [[]]
  | c :: r => if c = 45 then [] :: splitD r else match splitD r with
    | [] => [[c]]
    | x :: xs => (c :: x) :: xs
theorem splitD_front : ∀ (x rest : Bs) (y : Bs) (ys : List Bs), 45 ∉ x → splitD rest = y :: ys → splitD (x ++ rest) = (x ++ y) :: ys
  | [], _, _, _, _, h => h
  | c :: x, rest, y, ys, hn, h => by
    have h1 := splitD_front x rest y ys (fun hm => hn (List.mem_cons_of_mem _ hm)) h
    have hc : c ≠ 45 := fun e => hn (e ▸ List.mem_cons_self)
    rw [List.cons_append, splitD, if_neg hc, h1]
    rfl
theorem splitD_tail : ∀ (r : List Bs) (x : Bs), 45 ∉ x → (∀ y ∈ r, 45 ∉ y) → splitD (x ++ Lib.joinTail [45] r) = x :: r
  | [], x, hx, _ => by
    have := splitD_front x [] [] [] hx rfl
    simpa [Lib.joinTail] using this
  | y :: r, x, hx, hr => by
    have ih := splitD_tail r y (hr y List.mem_cons_self) (fun z hz => hr z (List.mem_cons_of_mem _ hz))
    have e : Lib.joinTail [45] (y :: r) = 45 :: (y ++ Lib.joinTail [45] r) := by simp [Lib.joinTail]
    have h2 : splitD (45 :: (y ++ Lib.joinTail [45] r)) = [] :: y :: r := by rw [splitD, if_pos rfl, ih]
    rw [e]
    have := splitD_front x _ _ _ hx h2
    simpa using this
theorem splitD_join (xs : List Bs) (h : xs ≠ []) (hn : ∀ x ∈ xs, 45 ∉ x) : splitD (Lib.join xs [45]) = xs := by
  obtain ⟨x, r, rfl⟩ := List.exists_cons_of_ne_nil h
  rw [Lib.join_cons]
  exact splitD_tail r x (hn x List.mem_cons_self) (fun y hy => hn y (List.mem_cons_of_mem _ hy))

theorem made_nodash {p : UInt8 → Bool} {s : Bs} {a b : Nat} (hp : p 45 = false) (h : madeB p s a b = true) : 45 ∉ s := fun hm => by
  have := List.all_eq_true.1 (madeB_len h).2.2 45 hm
  rw [hp] at this
  cases this
theorem script_nodash {s : Bs} (h : scriptB s = true) : 45 ∉ s := fun hm => by
  unfold scriptB at h
  simp only [Bool.and_eq_true, decide_eq_true_eq] at h
  cases s with
  | nil => simp at hm
  | cons c r =>
    rcases List.mem_cons.1 hm with e | hm
    · subst e
      simp [highB] at h
    · exact made_nodash (p := lowB) (by decide) h.2.2 (by simpa using hm)
theorem region_nodash {s : Bs} (h : regionB s = true) : 45 ∉ s := by
  unfold regionB at h
  rw [Bool.or_eq_true] at h
  rcases h with h | h
  · exact made_nodash (by decide) h
  · exact made_nodash (by decide) h
theorem parts_nodash {l s r : Bs} {vs : List Bs} (h : tagErr l s r vs = 0) : ∀ x ∈ partsL l s r vs, 45 ∉ x := by
  intro x hx
  obtain ⟨h1, h2, h3, h4, _⟩ := tagErr_ok h
  unfold partsL at hx
  have hm := (List.mem_filter.1 hx).1
  have hne := (List.mem_filter.1 hx).2
  simp only [List.mem_append, List.mem_cons, List.mem_nil_iff, or_false] at hm
  rcases hm with (rfl | rfl | rfl) | hv
  · exact made_nodash (by decide) h1
  · rcases h2 with h2 | h2
    · rw [h2]; simp
    · exact script_nodash h2
  · rcases h3 with h3 | h3
    · rw [h3]; simp
    · exact region_nodash h3
  · exact made_nodash (by decide) (varErr_len vs [] h4 x hv)
theorem parts_ne {l s r : Bs} {vs : List Bs} (h : tagErr l s r vs = 0) : partsL l s r vs ≠ [] := by
  rw [parts_ok h]; simp

/-- by the lengths each part is known -/
theorem parts_tell {l s r l' s' r' : Bs} {vs vs' : List Bs} (h : tagErr l s r vs = 0) (h' : tagErr l' s' r' vs' = 0) (e : partsL l s r vs = partsL l' s' r' vs') : l = l' ∧ s = s' ∧ r = r' ∧ vs = vs' := by
  rw [parts_ok h, parts_ok h'] at e
  obtain ⟨_, a2, a3, a4, _⟩ := tagErr_ok h
  obtain ⟨_, b2, b3, b4, _⟩ := tagErr_ok h'
  have key : ∀ {s r : Bs} {vs : List Bs}, (s = [] ∨ scriptB s = true) → (r = [] ∨ regionB r = true) → varErr [] vs = 0 →
      (([s].filter (fun x => !x.isEmpty) ++ ([r].filter (fun x => !x.isEmpty) ++ vs)).filter (fun x => decide (x.length = 4)) = [s].filter (fun x => !x.isEmpty)) ∧
      (([s].filter (fun x => !x.isEmpty) ++ ([r].filter (fun x => !x.isEmpty) ++ vs)).filter (fun x => decide (x.length ≤ 3)) = [r].filter (fun x => !x.isEmpty)) ∧
      (([s].filter (fun x => !x.isEmpty) ++ ([r].filter (fun x => !x.isEmpty) ++ vs)).filter (fun x => decide (5 ≤ x.length)) = vs) := by
    intro s r vs hs hr hv
    have v4 : vs.filter (fun x => decide (x.length = 4)) = [] := List.filter_eq_nil_iff.2 fun v h => by
      have := madeB_len (varErr_len vs [] hv v h); simp; omega
    have v3 : vs.filter (fun x => decide (x.length ≤ 3)) = [] := List.filter_eq_nil_iff.2 fun v h => by
      have := madeB_len (varErr_len vs [] hv v h); simp; omega
    have v5 : vs.filter (fun x => decide (5 ≤ x.length)) = vs := List.filter_eq_self.2 fun v h => by
      have := madeB_len (varErr_len vs [] hv v h); simp; omega
    have S : (s = [] ∧ [s].filter (fun x => !x.isEmpty) = []) ∨ (s.length = 4 ∧ [s].filter (fun x => !x.isEmpty) = [s]) := by
      rcases hs with rfl | hs
      · exact .inl ⟨rfl, rfl⟩
      · have := scriptB_len hs
        refine .inr ⟨this, ?_⟩
        cases s with | nil => simp at this | cons => rfl
    have R : (r = [] ∧ [r].filter (fun x => !x.isEmpty) = []) ∨ ((2 ≤ r.length ∧ r.length ≤ 3) ∧ [r].filter (fun x => !x.isEmpty) = [r]) := by
      rcases hr with rfl | hr
      · exact .inl ⟨rfl, rfl⟩
      · have := regionB_len hr
        refine .inr ⟨this, ?_⟩
        cases r with | nil => simp at this | cons => rfl
    rw [List.filter_append, List.filter_append, List.filter_append, List.filter_append, List.filter_append, List.filter_append, v4, v3, v5]
    rcases S with ⟨_, e1⟩ | ⟨s4, e1⟩ <;> rcases R with ⟨_, e2⟩ | ⟨r3, e2⟩ <;> rw [e1, e2]
    · simp
    · simp [List.filter_cons, show ¬ r.length = 4 by omega, show r.length ≤ 3 by omega, show ¬ 5 ≤ r.length by omega]
    · simp [List.filter_cons, s4]
    · simp [List.filter_cons, s4, show ¬ r.length = 4 by omega, show r.length ≤ 3 by omega, show ¬ 5 ≤ r.length by omega]
  obtain ⟨k1, k2, k3⟩ := key a2 a3 a4
  obtain ⟨m1, m2, m3⟩ := key b2 b3 b4
  injection e with el er
  rw [er] at k1 k2 k3
  have one : ∀ x y : Bs, [x].filter (fun x => !x.isEmpty) = [y].filter (fun x => !x.isEmpty) → x = y := by
    intro x y hxy
    cases x <;> cases y <;> simp_all [List.filter_cons]
  exact ⟨el, one _ _ (k1.symm.trans m1), one _ _ (k2.symm.trans m2), k3.symm.trans m3⟩

theorem text_tells {l s r l' s' r' : Bs} {vs vs' : List Bs} (h : tagErr l s r vs = 0) (h' : tagErr l' s' r' vs' = 0) (e : tagText l s r vs = tagText l' s' r' vs') : l = l' ∧ s = s' ∧ r = r' ∧ vs = vs' := by
  refine parts_tell h h' ?_
  have h1 := splitD_join _ (parts_ne h) (parts_nodash h)
  have h2 := splitD_join _ (parts_ne h') (parts_nodash h')
  unfold tagText at e
  rw [← h1, ← h2, e]

end Go.Proofs.YtnhlnhmjnnopaaaDoor

/- What tag.Parse tells, whatever the text. No program stands here. -/
namespace Go.Proofs.YtnhlnhmjnnopaaaDoor

def mapc (P : UInt8 → Bool) (c : UInt8) : UInt8 := if P c then c ^^^ 32 else c
def lowerL (l : List UInt8) : List UInt8 := l.map (mapc highB)
def upperL (l : List UInt8) : List UInt8 := l.map (mapc lowB)

theorem split_dash : ∀ s : Bs, Lib.split s [45] = splitD s
  | [] => rfl
  | b :: l => by
    have ih := split_dash l
    by_cases h : b = 45
    · subst h
      have hix : Lib.index ((45 : UInt8) :: l) [45] = ((0 : Nat) : Int) := by rw [Lib.index]; simp [List.isPrefixOf]
      unfold Lib.split at ih ⊢
      rw [Lib.count_cons_eq, Nat.add_comm 1, Lib.splitK, hix, splitD, if_pos rfl]
      simp [ih]
    · rw [splitD, if_neg h, ← ih]
      unfold Lib.split
      rw [Lib.count_cons_ne b 45 l h]
      have hp : ([45] : Bs).isPrefixOf (b :: l) = false := by simp [List.isPrefixOf, Ne.symm h]
      have hix : Lib.index (b :: l) [45] = if Lib.index l [45] == -1 then -1 else Lib.index l [45] + 1 := by rw [Lib.index, hp]; simp
      by_cases hm : Lib.index l [45] = -1
      · rw [Lib.count_miss hm]
        rfl
      · have hge := Lib.index_ge l [45]
        obtain ⟨j, hj⟩ : ∃ j : Nat, Lib.index l [45] = j := ⟨(Lib.index l [45]).toNat, by omega⟩
        rw [Lib.count_hit (by simp) hj, Nat.add_comm 1, Lib.splitK, Lib.splitK, hix, hj]
        have e1 : ((j : Int) == -1) = false := by rw [beq_eq_false_iff_ne]; omega
        have e2 : (((j : Int) + 1) == -1) = false := by rw [beq_eq_false_iff_ne]; omega
        have e3 : ((j : Int) + 1).toNat = j + 1 := by omega
        simp [e1, e2, e3]
theorem splitB_dash (s : ByteArray) : (Lib.splitB ⟨#[45]⟩ 0 (Lib.countB s ⟨#[45]⟩) s).map (·.data.toList) = splitD s.data.toList := by
  rw [Lib.splitB_data, ← split_dash]
  rfl

/-- the script, if there is one, and what is left -/
def scrP : List Bs → Bs × List Bs
  | [] => ([], [])
  | p :: r => if madeB lowB p 4 4 then (upperL (p.take 1) ++ p.drop 1, r) else ([], p :: r)
def regP : List Bs → Bs × List Bs
  | [] => ([], [])
  | p :: r => if regionB (upperL p) then (upperL p, r) else ([], p :: r)
structure TagS where
  l : Bs
  s : Bs
  r : Bs
  vs : List Bs
def TagS.err (t : TagS) : Int := tagErr t.l t.s t.r t.vs
def TagS.text (t : TagS) : Bs := tagText t.l t.s t.r t.vs
def madeT (s : Bs) : TagS :=
  let ps := splitD (lowerL s)
  let a := scrP ps.tail
  let b := regP a.2
  ⟨ps.headD [], a.1, b.1, b.2⟩
/-- is it one? -/
def isTag (s : Bs) : Bool := (madeT s).err == 0 && lowerL (madeT s).text == lowerL s
/-- is it the tag's own text? -/
def ownTag (s : Bs) : Bool := isTag s && (madeT s).text == s

theorem splitD_ne (s : Bs) : splitD s ≠ [] := by
  cases s with
  | nil => simp [splitD]
  | cons c r =>
    unfold splitD
    split
    · simp
    · split <;> simp
theorem splitD_cons (s : Bs) : ∃ x r, splitD s = x :: r := List.exists_cons_of_ne_nil (splitD_ne s)
theorem splitD_len : ∀ (s x : Bs), x ∈ splitD s → x.length ≤ s.length
  | [], x, h => by
    simp [splitD] at h
    subst h
    exact Nat.le_refl _
  | c :: r, x, h => by
    unfold splitD at h
    split at h
    · rcases List.mem_cons.1 h with rfl | h
      · simp
      · have := splitD_len r x h; simp; omega
    · obtain ⟨y, ys, hy⟩ := splitD_cons r
      rw [hy] at h
      rcases List.mem_cons.1 h with rfl | h
      · have := splitD_len r y (by rw [hy]; exact List.mem_cons_self)
        simp
        omega
      · have := splitD_len r x (by rw [hy]; exact List.mem_cons_of_mem _ h)
        simp
        omega
theorem splitD_cnt : ∀ (s : Bs), (splitD s).length ≤ s.length + 1
  | [] => by simp [splitD]
  | c :: r => by
    have ih := splitD_cnt r
    unfold splitD
    split
    · simp; omega
    · obtain ⟨y, ys, hy⟩ := splitD_cons r
      rw [hy] at ih ⊢
      simp at ih ⊢
      omega
theorem splitD_mem : ∀ (s x : Bs), x ∈ splitD s → ∀ c ∈ x, c ∈ s
  | [], x, h => by
    simp [splitD] at h
    subst h
    intro c hc
    cases hc
  | c :: r, x, h => by
    unfold splitD at h
    intro d hd
    split at h
    · rcases List.mem_cons.1 h with rfl | h
      · cases hd
      · exact List.mem_cons_of_mem _ (splitD_mem r x h d hd)
    · obtain ⟨y, ys, hy⟩ := splitD_cons r
      rw [hy] at h
      rcases List.mem_cons.1 h with rfl | h
      · rcases List.mem_cons.1 hd with rfl | hd
        · exact List.mem_cons_self
        · exact List.mem_cons_of_mem _ (splitD_mem r y (by rw [hy]; exact List.mem_cons_self) d hd)
      · exact List.mem_cons_of_mem _ (splitD_mem r x (by rw [hy]; exact List.mem_cons_of_mem _ h) d hd)
end Go.Proofs.YtnhlnhmjnnopaaaDoor

/- The document's tag of a text is the program's. No program stands here. -/
namespace Go.Proofs.YtnhlnhmjnnopaaaDoor

def scrR : List Bs → Bs × List Bs
  | [] => ([], [])
  | p :: r => if p.length = 4 then (upperL (p.take 1) ++ p.drop 1, r) else ([], p :: r)
def regR : List Bs → Bs × List Bs
  | [] => ([], [])
  | p :: r => if p.length < 4 then (upperL p, r) else ([], p :: r)
def madeR (s : Bs) : TagS :=
  let ps := splitD (lowerL s)
  let a := scrR ps.tail
  let b := regR a.2
  ⟨ps.headD [], a.1, b.1, b.2⟩
def isTagR (s : Bs) : Bool := (madeR s).err == 0 && lowerL (madeR s).text == lowerL s

theorem scrR_c (p : Bs) (r : List Bs) : scrR (p :: r) = if p.length = 4 then (upperL (p.take 1) ++ p.drop 1, r) else ([], p :: r) := rfl
theorem regR_c (p : Bs) (r : List Bs) : regR (p :: r) = if p.length < 4 then (upperL p, r) else ([], p :: r) := rfl
theorem scrP_c (p : Bs) (r : List Bs) : scrP (p :: r) = if madeB lowB p 4 4 then (upperL (p.take 1) ++ p.drop 1, r) else ([], p :: r) := rfl
theorem regP_c (p : Bs) (r : List Bs) : regP (p :: r) = if regionB (upperL p) then (upperL p, r) else ([], p :: r) := rfl
theorem map_not_high (c : UInt8) : highB (mapc highB c) = false := by
  have h : ∀ n : Fin 256, highB (mapc highB (UInt8.ofNat n)) = false := by decide +kernel
  have := h ⟨c.toNat, c.toNat_lt⟩
  simpa using this
theorem low_of_up (c : UInt8) (h1 : highB c = false) (h2 : highB (mapc lowB c) = true) : lowB c = true := by
  have h : ∀ n : Fin 256, highB (UInt8.ofNat n) = false → highB (mapc lowB (UInt8.ofNat n)) = true → lowB (UInt8.ofNat n) = true := by decide +kernel
  have := h ⟨c.toNat, c.toNat_lt⟩
  simp only [UInt8.ofNat_toNat] at this
  exact this h1 h2
theorem lower_not_high (s x : Bs) (hx : x ∈ splitD (lowerL s)) : ∀ c ∈ x, highB c = false := fun c hc => by
  have := splitD_mem _ x hx c hc
  unfold lowerL at this
  obtain ⟨d, _, rfl⟩ := List.mem_map.1 this
  exact map_not_high d
theorem upper_len (x : Bs) : (upperL x).length = x.length := by unfold upperL; simp
theorem lower_len (x : Bs) : (lowerL x).length = x.length := by unfold lowerL; simp
/-- a script that is one in its place was one of small letters -/
theorem script_low {p : Bs} (hp : ∀ c ∈ p, highB c = false) (h4 : p.length = 4) (h : scriptB (upperL (p.take 1) ++ p.drop 1) = true) : madeB lowB p 4 4 = true := by
  match p, h4 with
  | [a, b, c, d], _ =>
    simp only [upperL, List.take_succ_cons, List.take_zero, List.map_cons, List.map_nil, List.drop_succ_cons, List.drop_zero, List.cons_append, List.nil_append, scriptB, List.length_cons, List.length_nil, List.getD_cons_zero, madeB, List.all_cons, List.all_nil, Bool.and_true, Bool.and_eq_true, decide_eq_true_eq] at h ⊢
    obtain ⟨_, h1, h2, _⟩ := h
    have ha := low_of_up a (hp a (by simp)) h1
    simp [ha, h2]
theorem varErr_ne {x : Bs} {vs seen : List Bs} (hx : x ∈ vs) (h : madeB bothB x 5 8 = false) : varErr seen vs ≠ 0 := fun h0 => by
  have := varErr_len vs seen h0 x hx
  rw [h] at this
  cases this
theorem made_short {x : Bs} (h : x.length < 5) : madeB bothB x 5 8 = false := by
  unfold madeB
  have : decide (5 ≤ x.length) = false := decide_eq_false (by omega)
  rw [this]
  simp
theorem err_vars {l s r : Bs} {vs : List Bs} {x : Bs} (hx : x ∈ vs) (h : x.length < 5) : tagErr l s r vs ≠ 0 := fun h0 => varErr_ne hx (made_short h) (tagErr_ok h0).2.2.2.1
theorem err_script {l s r : Bs} {vs : List Bs} (h1 : s ≠ []) (h2 : scriptB s = false) : tagErr l s r vs ≠ 0 := fun h0 => by
  rcases (tagErr_ok h0).2.1 with h | h
  · exact h1 h
  · rw [h2] at h; cases h
theorem err_region {l s r : Bs} {vs : List Bs} (h1 : r ≠ []) (h2 : regionB r = false) : tagErr l s r vs ≠ 0 := fun h0 => by
  rcases (tagErr_ok h0).2.2.1 with h | h
  · exact h1 h
  · rw [h2] at h; cases h
theorem lower_dash {x : Bs} (h : 45 ∉ x) : 45 ∉ lowerL x := fun hm => by
  unfold lowerL at hm
  obtain ⟨d, hd, e⟩ := List.mem_map.1 hm
  have h0 : ∀ n : Fin 256, mapc highB (UInt8.ofNat n) = 45 → UInt8.ofNat n = 45 := by decide +kernel
  have := h0 ⟨d.toNat, d.toNat_lt⟩
  simp only [UInt8.ofNat_toNat] at this
  exact h (this e ▸ hd)
theorem lower_join (xs : List Bs) : lowerL (Lib.join xs [45]) = Lib.join (xs.map lowerL) [45] := by
  have tail : ∀ r : List Bs, lowerL (Lib.joinTail [45] r) = Lib.joinTail [45] (r.map lowerL) := by
    intro r
    induction r with
    | nil => rfl
    | cons y r ih =>
      have e : Lib.joinTail [45] (y :: r) = 45 :: (y ++ Lib.joinTail [45] r) := by simp [Lib.joinTail]
      have e2 : Lib.joinTail [45] ((y :: r).map lowerL) = 45 :: (lowerL y ++ Lib.joinTail [45] (r.map lowerL)) := by simp [Lib.joinTail]
      rw [e, e2, ← ih]
      unfold lowerL
      rw [List.map_cons, List.map_append]
      rfl
  cases xs with
  | nil => rfl
  | cons x r =>
    rw [List.map_cons, Lib.join_cons, Lib.join_cons, ← tail]
    unfold lowerL
    rw [List.map_append]
/-- where the text is its own, no piece of it is empty -/
theorem no_empty {t : TagS} {s : Bs} (h : t.err = 0) (e : lowerL t.text = lowerL s) : [] ∉ splitD (lowerL s) := by
  have hp := parts_ne h
  have hd := parts_nodash h
  rw [← e]
  unfold TagS.text tagText
  rw [lower_join, splitD_join _ (by simpa using hp) (fun x hx => by
    obtain ⟨y, hy, rfl⟩ := List.mem_map.1 hx
    exact lower_dash (hd y hy))]
  intro hm
  obtain ⟨y, hy, e2⟩ := List.mem_map.1 hm
  have hy2 : y = [] := by
    have := congrArg List.length e2
    rw [lower_len] at this
    exact List.length_eq_zero_iff.1 this
  subst hy2
  unfold partsL at hy
  simp at hy
theorem ref_tag (s : Bs) : isTagR s = isTag s ∧ (isTag s = true → madeR s = madeT s) := by
  obtain ⟨x, ps, hps⟩ := splitD_cons (lowerL s)
  have hlow : ∀ p ∈ ps, ∀ c ∈ p, highB c = false := fun p hp => lower_not_high s p (by rw [hps]; exact List.mem_cons_of_mem _ hp)
  -- the region, once the script is the same
  have reg : ∀ (sc : Bs) (qs : List Bs), (∀ q ∈ qs, q ∈ ps) →
      (tagErr x sc (regR qs).1 (regR qs).2 = 0 ∧ lowerL (tagText x sc (regR qs).1 (regR qs).2) = lowerL s ∨ tagErr x sc (regP qs).1 (regP qs).2 = 0 ∧ lowerL (tagText x sc (regP qs).1 (regP qs).2) = lowerL s) → regR qs = regP qs := by
    intro sc qs hq h
    cases qs with
    | nil => rfl
    | cons q r =>
      rw [regR_c, regP_c] at h ⊢
      by_cases h1 : regionB (upperL q) = true
      · have hl : q.length < 4 := by have := regionB_len h1; rw [upper_len] at this; omega
        rw [if_pos h1, if_pos hl]
      · rw [if_neg h1] at h ⊢
        by_cases h2 : q.length < 4
        · rw [if_pos h2] at h ⊢
          exfalso
          rcases h with ⟨h3, h4⟩ | ⟨h3, h4⟩
          · have hq0 : q = [] := by
              rcases (tagErr_ok h3).2.2.1 with h5 | h5
              · have := congrArg List.length h5
                rw [upper_len] at this
                exact List.length_eq_zero_iff.1 this
              · exact absurd h5 h1
            have := no_empty (t := ⟨x, sc, upperL q, r⟩) h3 h4
            rw [hps] at this
            exact this (List.mem_cons_of_mem _ (hq0 ▸ hq q List.mem_cons_self))
          · exact err_vars (List.mem_cons_self) (by omega) h3
        · rw [if_neg h2]
  have scr : (madeR s).err = 0 ∨ (madeT s).err = 0 → scrR ps = scrP ps := by
    intro h
    unfold madeR madeT TagS.err at h
    rw [hps] at h
    simp only [List.tail_cons, List.headD_cons] at h
    cases ps with
    | nil => rfl
    | cons p r =>
      have hp := hlow p List.mem_cons_self
      rw [scrR_c, scrP_c] at h ⊢
      by_cases h1 : madeB lowB p 4 4 = true
      · have hl : p.length = 4 := by have := madeB_len h1; omega
        rw [if_pos h1, if_pos hl]
      · rw [if_neg h1] at h ⊢
        by_cases h2 : p.length = 4
        · rw [if_pos h2] at h ⊢
          exfalso
          rcases h with h | h
          · refine err_script ?_ ?_ h
            · intro e
              have := congrArg List.length e
              rw [List.length_append, upper_len, ← List.length_append, List.take_append_drop, h2] at this
              cases this
            · cases hb : scriptB (upperL (p.take 1) ++ p.drop 1)
              · rfl
              · exact absurd (script_low hp h2 hb) h1
          · have hr : regP (p :: r) = ([], p :: r) := by
              rw [regP_c, if_neg]
              intro h5
              have := regionB_len h5
              rw [upper_len] at this
              omega
            simp only [hr] at h
            exact err_vars List.mem_cons_self (by omega) h
        · rw [if_neg h2]
  have sub : ∀ q ∈ (scrP ps).2, q ∈ ps := by
    cases ps with
    | nil => intro q hq; simp [scrP] at hq
    | cons p r =>
      intro q hq
      rw [scrP_c] at hq
      split at hq
      · exact List.mem_cons_of_mem _ hq
      · exact hq
  have both : isTagR s = true ∨ isTag s = true → madeR s = madeT s := by
    intro h
    unfold isTagR isTag at h
    simp only [Bool.and_eq_true, beq_iff_eq] at h
    have hs := scr (h.imp And.left And.left)
    unfold madeR madeT TagS.err TagS.text at h
    unfold madeR madeT
    rw [hps] at h ⊢
    simp only [List.tail_cons, List.headD_cons] at h ⊢
    rw [hs] at h ⊢
    rw [reg (scrP ps).1 (scrP ps).2 sub h]
  refine ⟨?_, fun h => both (.inr h)⟩
  rw [Bool.eq_iff_iff]
  constructor
  · intro h
    have := both (.inl h)
    unfold isTagR at h
    unfold isTag
    rw [← this]
    exact h
  · intro h
    have := both (.inr h)
    unfold isTagR
    unfold isTag at h
    rw [this]
    exact h
end Go.Proofs.YtnhlnhmjnnopaaaDoor

/- What prop.Check tells of a bundle. No program stands here. -/
namespace Go.Proofs.YtnhlnhmjnnopaaaDoor

structure EntC where
  key : ByteArray
  text : ByteArray
structure BunC where
  tag : ByteArray
  es : List EntC
def keyC (c : UInt8) : Bool := lowB c || (numB c || (c == 46 || c == 95))
def keyOk (k : ByteArray) : Bool := decide (k.size ≠ 0) && (decide (k.size ≤ 40) && k.data.toList.all keyC)
def memB (l : List ByteArray) (k : ByteArray) : Bool := l.any (fun y => decide (y = k))
theorem memB_iff {l : List ByteArray} {k : ByteArray} : memB l k = true ↔ k ∈ l := by
  unfold memB
  rw [List.any_eq_true]
  exact ⟨fun ⟨x, hx, e⟩ => (of_decide_eq_true e) ▸ hx, fun h => ⟨k, h, decide_eq_true rfl⟩⟩
theorem memB_not {l : List ByteArray} {k : ByteArray} (h : k ∉ l) : memB l k = false := by
  cases hm : memB l k
  · rfl
  · exact absurd (memB_iff.1 hm) h
def entErr : List ByteArray → List EntC → Int
  | _, [] => 0
  | seen, e :: r => if keyOk e.key = false then 3 else if memB seen e.key = true then 5 else if 2000 < e.text.size then 4 else entErr (seen ++ [e.key]) r
def BunC.err (b : BunC) : Int := if ownTag b.tag.data.toList = false then 3 else if 100 < b.es.length then 4 else entErr [] b.es

theorem entErr_ok : ∀ (es : List EntC) (seen : List ByteArray), entErr seen es = 0 → (∀ e ∈ es, keyOk e.key = true ∧ e.text.size ≤ 2000 ∧ e.key ∉ seen) ∧ (es.map (·.key)).Nodup
  | [], _, _ => ⟨by simp, List.nodup_nil⟩
  | e :: r, seen, h => by
    unfold entErr at h
    split at h
    · cases h
    · rename_i h1
      split at h
      · cases h
      · rename_i h2
        split at h
        · cases h
        · rename_i h3
          obtain ⟨k1, k2⟩ := entErr_ok r (seen ++ [e.key]) h
          have hs : e.key ∉ seen := fun hm => h2 (memB_iff.2 hm)
          refine ⟨fun x hx => ?_, ?_⟩
          · rcases List.mem_cons.1 hx with rfl | hx
            · exact ⟨by simpa using h1, by omega, hs⟩
            · obtain ⟨a, b, c⟩ := k1 x hx
              exact ⟨a, b, fun hm => c (List.mem_append_left _ hm)⟩
          · rw [List.map_cons, List.nodup_cons]
            refine ⟨fun hm => ?_, k2⟩
            obtain ⟨x, hx, e2⟩ := List.mem_map.1 hm
            exact (k1 x hx).2.2 (by rw [e2]; simp)
theorem entErr_of : ∀ (es : List EntC) (seen : List ByteArray), (∀ e ∈ es, keyOk e.key = true ∧ e.text.size ≤ 2000 ∧ e.key ∉ seen) → (es.map (·.key)).Nodup → entErr seen es = 0
  | [], _, _, _ => rfl
  | e :: r, seen, h, hn => by
    rw [List.map_cons, List.nodup_cons] at hn
    obtain ⟨a, b, c⟩ := h e List.mem_cons_self
    unfold entErr
    rw [if_neg (by rw [a]; decide), if_neg (by rw [memB_not c]; decide), if_neg (by omega)]
    refine entErr_of r _ (fun x hx => ?_) hn.2
    obtain ⟨a, b, c⟩ := h x (List.mem_cons_of_mem _ hx)
    refine ⟨a, b, fun hm => ?_⟩
    rcases List.mem_append.1 hm with hm | hm
    · exact c hm
    · exact hn.1 (List.mem_map.2 ⟨x, hx, List.mem_singleton.1 hm⟩)
/-- one step of the round: entry k -/
theorem entErr_step (es : List EntC) (k : Nat) (e : EntC) (h : es[k]? = some e) :
    entErr ((es.take k).map (·.key)) (es.drop k) = if keyOk e.key = false then 3 else if memB ((es.take k).map (·.key)) e.key = true then 5 else if 2000 < e.text.size then 4 else entErr ((es.take (k + 1)).map (·.key)) (es.drop (k + 1)) := by
  obtain ⟨hk, rfl⟩ := List.getElem?_eq_some_iff.1 h
  rw [List.drop_eq_getElem_cons hk, entErr, List.take_succ_eq_append_getElem hk, List.map_append]
  rfl
theorem bun_ok {b : BunC} (h : b.err = 0) : ownTag b.tag.data.toList = true ∧ b.es.length ≤ 100 ∧ (∀ e ∈ b.es, keyOk e.key = true ∧ e.text.size ≤ 2000) ∧ (b.es.map (·.key)).Nodup := by
  unfold BunC.err at h
  split at h
  · cases h
  · rename_i h1
    split at h
    · cases h
    · rename_i h2
      obtain ⟨k1, k2⟩ := entErr_ok _ _ h
      exact ⟨by simpa using h1, by omega, fun e he => ⟨(k1 e he).1, (k1 e he).2.1⟩, k2⟩
theorem bun_of {b : BunC} (h1 : ownTag b.tag.data.toList = true) (h2 : b.es.length ≤ 100) (h3 : ∀ e ∈ b.es, keyOk e.key = true ∧ e.text.size ≤ 2000) (h4 : (b.es.map (·.key)).Nodup) : b.err = 0 := by
  unfold BunC.err
  rw [if_neg (by rw [h1]; decide), if_neg (by omega)]
  exact entErr_of _ _ (fun e he => ⟨(h3 e he).1, (h3 e he).2, by simp⟩) h4
end Go.Proofs.YtnhlnhmjnnopaaaDoor

/- Entries, bundles in memory. -/
namespace Go.Proofs.YtnhlnhmjnnopaaaDoor
open Go.RowKit

/-- an entry lies at a place -/
def EntAt (w : World) (b o : Nat) (x : EntC) : Prop := w.cell? ⟨b, o, none⟩ = some (.string x.key) ∧ w.cell? ⟨b, o + 1, none⟩ = some (.string x.text)
theorem EntAt.below {w w' : World} {b o : Nat} {x : EntC} (h : EntAt w b o x) (hb : Below w.heap.size w w') : EntAt w' b o x := ⟨carry hb h.1, carry hb h.2⟩
/-- entries lie there -/
def EntsIn (w : World) (A : Option Addr) (l : List EntC) : Prop :=
  l = [] ∨ ∃ b o, A = some ⟨b, o, none⟩ ∧ ∀ (j : Nat) x, l[j]? = some x → EntAt w b (o + j * 2) x
theorem EntsIn.below {w w' : World} {A : Option Addr} {l : List EntC} (h : EntsIn w A l) (hb : Below w.heap.size w w') : EntsIn w' A l := by
  rcases h with h | ⟨b, o, h1, h2⟩
  · exact .inl h
  · exact .inr ⟨b, o, h1, fun j x hx => (h2 j x hx).below hb⟩
theorem EntsIn.at {w : World} {A : Option Addr} {l : List EntC} (h : EntsIn w A l) (hp : 0 < l.length) : ∃ b o, A = some ⟨b, o, none⟩ ∧ ∀ (j : Nat) x, l[j]? = some x → EntAt w b (o + j * 2) x := by
  rcases h with h | h
  · rw [h] at hp; simp at hp
  · exact h
/-- a bundle's value, what lies behind it -/
abbrev bunV (b : BunC) (A : Option Addr) (c : Nat) : Value := .agg #[.string b.tag, .slice A b.es.length c]
def BunFine (w : World) (b : BunC) (A : Option Addr) (c : Nat) : Prop := EntsIn w A b.es ∧ b.es.length ≤ c ∧ c ≤ 9223372036854775807 ∧ (A = none → c = 0)
theorem BunFine.below {w w' : World} {b : BunC} {A : Option Addr} {c : Nat} (h : BunFine w b A c) (hb : Below w.heap.size w w') : BunFine w' b A c := ⟨h.1.below hb, h.2⟩
def BunC.small (b : BunC) : Prop := b.tag.size ≤ 1048576 ∧ b.es.length ≤ 1048576 ∧ ∀ e ∈ b.es, e.key.size ≤ 1048576 ∧ e.text.size ≤ 1048576
def BunAt (w : World) (b o : Nat) (x : BunC) : Prop := ∃ A c, w.cell? ⟨b, o, none⟩ = some (.string x.tag) ∧ w.cell? ⟨b, o + 1, none⟩ = some (.slice A x.es.length c) ∧ BunFine w x A c
theorem BunAt.below {w w' : World} {b o : Nat} {x : BunC} (h : BunAt w b o x) (hb : Below w.heap.size w w') : BunAt w' b o x := by
  obtain ⟨A, c, h1, h2, h3⟩ := h
  exact ⟨A, c, carry hb h1, carry hb h2, h3.below hb⟩
def BunsIn (w : World) (A : Option Addr) (l : List BunC) : Prop :=
  l = [] ∨ ∃ b o, A = some ⟨b, o, none⟩ ∧ ∀ (j : Nat) x, l[j]? = some x → BunAt w b (o + j * 2) x
theorem BunsIn.below {w w' : World} {A : Option Addr} {l : List BunC} (h : BunsIn w A l) (hb : Below w.heap.size w w') : BunsIn w' A l := by
  rcases h with h | ⟨b, o, h1, h2⟩
  · exact .inl h
  · exact .inr ⟨b, o, h1, fun j x hx => (h2 j x hx).below hb⟩
theorem BunsIn.at {w : World} {A : Option Addr} {l : List BunC} (h : BunsIn w A l) (hp : 0 < l.length) : ∃ b o, A = some ⟨b, o, none⟩ ∧ ∀ (j : Nat) x, l[j]? = some x → BunAt w b (o + j * 2) x := by
  rcases h with h | h
  · rw [h] at hp; simp at hp
  · exact h
end Go.Proofs.YtnhlnhmjnnopaaaDoor

/- Rows of texts that are the call's own; 'append' to them. -/
namespace Go.Proofs.YtnhlnhmjnnopaaaDoor
open Go.RowKit

theorem infoStr : ∃ i, Tryd.prog.info? 9 = some i ∧ i.zero = some (.string ⟨#[]⟩) ∧ i.size = 1 ∧ i.bytes = 16 := by
  have h : (Tryd.prog.info? 9).map (fun i => (i.zero, i.size, i.bytes)) = some (some (.string ⟨#[]⟩), 1, 16) := by kernel_rfl
  obtain ⟨i, hi, h2⟩ := Option.map_eq_some_iff.1 h
  simp only [Prod.mk.injEq] at h2
  exact ⟨i, hi, h2.1, h2.2.1, h2.2.2⟩

/-- A row of texts that is the call's own. -/
def OwnsS (w : World) (base : Nat) (v : Value) (xs : List ByteArray) : Prop := w.ownsRow base 9 1 v xs.length (xs.map .string)

theorem OwnsS.nil (w : World) (base : Nat) : OwnsS w base (.slice none 0 0) [] := World.ownsRow_nil w base _ 1
theorem OwnsS.alloc {w : World} {base : Nat} {v : Value} {xs : List ByteArray} (h : OwnsS w base v xs) (o : Obj) : OwnsS (w.alloc o) base v xs := World.ownsRow.alloc h o
theorem OwnsS.drewN {w : World} {base : Nat} {v : Value} {xs : List ByteArray} (h : OwnsS w base v xs) (k : Nat) : OwnsS (w.drewN k) base v xs := h
theorem OwnsS.off {w w' : World} {base : Nat} {v : Value} {xs : List ByteArray} {l : List Nat} (h : OwnsS w base v xs) (hb : Off l w w') (hl : ∀ k, v.ownBlock = some k → k ∉ l) : OwnsS w' base v xs := by
  refine ⟨h.1, ?_⟩
  rcases h.2 with h2 | ⟨g, cap, cur, rfl, h3, h4, h5⟩
  · exact .inl h2
  · refine .inr ⟨g, cap, cur, rfl, h3, ?_, h5⟩
    rw [hb.block g (by have := (Array.getElem?_eq_some_iff.1 h4).1; omega) (hl g rfl)]
    exact h4
theorem OwnsS.below {w w' : World} {base : Nat} {v : Value} {xs : List ByteArray} (h : OwnsS w base v xs) (hb : Below w.heap.size w w') : OwnsS w' base v xs :=
  h.off ((Off.refl [] w).below hb (Nat.le_refl _)) (fun k _ => by simp)
theorem OwnsS.base {w : World} {base b' : Nat} {v : Value} {xs : List ByteArray} (h : OwnsS w base v xs) (hb : b' ≤ base) : OwnsS w b' v xs := by
  refine ⟨h.1, ?_⟩
  rcases h.2 with h2 | ⟨g, cap, cur, h1, h3, h4⟩
  · exact .inl h2
  · exact .inr ⟨g, cap, cur, h1, by omega, h4⟩
/-- Its form, and its texts to be read. -/
theorem OwnsS.form {w : World} {base : Nat} {v : Value} {xs : List ByteArray} (h : OwnsS w base v xs) : ∃ A c, v = .slice A xs.length c ∧ (A = none → c = 0) ∧ StrsIn w A xs ∧ (∀ g, v.ownBlock = some g → base ≤ g ∧ g < w.heap.size) := by
  refine h.2.elim (fun ⟨h1, h2⟩ => ?_) (fun ⟨g, cap, cur, h1, h3, h4, h5⟩ => ?_)
  · obtain rfl : xs = [] := List.length_eq_zero_iff.1 h2
    exact ⟨none, 0, h1, fun _ => rfl, .inl rfl, fun g hg => by rw [h1] at hg; cases hg⟩
  · refine ⟨some ⟨g, 0, none⟩, cap, h1, (fun h => by cases h), .inr ⟨g, 0, rfl, fun j x hx => ?_⟩, fun g' hg => ?_⟩
    · have := World.ownsRow.cells h (g := g) (by rw [h1]; rfl) j (.string x) (by rw [List.getElem?_map, hx]; rfl)
      rw [Go.WideShapes.add_plain] at this
      exact this
    · rw [h1] at hg
      cases hg
      exact ⟨h3, (Array.getElem?_eq_some_iff.1 h4).1⟩

theorem OwnsS.strs {w : World} {base : Nat} {A : Option Addr} {n c : Nat} {xs : List ByteArray} (h : OwnsS w base (.slice A n c) xs) : StrsIn w A xs := by
  obtain ⟨A', c', h1, _, h2, _⟩ := h.form
  cases h1
  exact h2
theorem OwnsS.lit (w : World) {base : Nat} (hb : base ≤ w.heap.size) : OwnsS (w.alloc (.cells #[] 9)) base (.slice (some ⟨w.heap.size, 0, none⟩) 0 0) [] :=
  World.ownsRow_lit w #[] 0 hb (by simp [maxLen]) rfl

theorem grown_off {w w' : World} {row : Option Nat} {l : List Nat} (h : w.grownBy w' row) (hl : ∀ k, row = some k → k ∈ l) : Off l w w' :=
  ⟨h.os, h.tape, h.output, h.size, fun k hk hn => h.block k hk (fun e => hn (hl k e.symm))⟩

theorem StrsIn.one {w : World} {b : Nat} {x : ByteArray} (h : w.cell? ⟨b, 0, none⟩ = some (.string x)) : StrsIn w (some ⟨b, 0, none⟩) [x] :=
  .inr ⟨b, 0, rfl, fun j y hj => by
    cases j with
    | zero => simp at hj; subst hj; exact h
    | succ j => simp at hj⟩

/-- A row of texts behind them. -/
theorem append_many {w : World} {base : Nat} {v : Value} {xs ys : List ByteArray} {A : Option Addr} {c : Nat} (h : OwnsS w base v xs) (hy : StrsIn w A ys) (hA : A = none → c = 0) (ty : TypeId) (hb : base ≤ w.heap.size) (hn : xs.length + ys.length ≤ 8000000000000) :
    ∃ v' w', (Builtin.append_ #[45, 45] ty #[v, .slice A ys.length c]).run Tryd.prog w = .ok v' w' ∧
      OwnsS w' base v' (xs ++ ys) ∧ Off v.ownBlock.toList w w' := by
  obtain ⟨i, hi, hz, hsz, hby⟩ := infoStr
  cases A with
  | none =>
    obtain rfl := hA rfl
    obtain rfl : ys = [] := by
      rcases hy with h1 | ⟨b, o, h1, _⟩
      · exact h1
      · cases h1
    exact ⟨v, w, run_append_owned_none w base 45 ty 9 i 1 Tryd.underlying45 hi v xs.length _ h, by rw [List.append_nil]; exact h, Off.refl _ _⟩
  | some a =>
    obtain ⟨v', w', h1, h2, h3, _⟩ := run_append_own (P := Tryd.prog) w base 45 ty 9 i (.string ⟨#[]⟩) 1 16 Tryd.underlying45 hi hz hsz hby rfl (by omega) v xs.length _ h
      a ys.length c (ys.map .string) (by simp) (fun j u hj => by
        rcases hy with h1 | ⟨b, o, h1, h2⟩
        · subst h1; simp at hj
        · cases h1
          rw [List.getElem?_map, Option.map_eq_some_iff] at hj
          obtain ⟨x, hx, rfl⟩ := hj
          rw [Go.WideShapes.add_plain]
          exact h2 j x hx) (by simp [Value.oneCell']) (by simp [maxLen]; omega) (by omega) hb
    refine ⟨v', w', h1, ?_, grown_off h3 fun k hk => by simp [hk]⟩
    unfold OwnsS
    rw [List.map_append, List.length_append]
    exact h2

theorem OwnsS.grown {wa wb : World} {base : Nat} {v : Value} {xs : List ByteArray} (h : OwnsS wa base v xs) (hoff : Off v.ownBlock.toList wa wb) (hb : base ≤ wa.heap.size) : Below base wa wb := by
  obtain ⟨A, c, _, _, _, hl⟩ := h.form
  exact hoff.toBelow (fun k hk => (hl k (by simpa using hk)).1) hb

/-- An 'append' of a row of texts, in a walk. -/
theorem wpList_append_many {w : World} {ops : Array Oper} {rest : List Oper} {o : Oper} {a : Act} {Q : Exit → Act → World → Prop} (hgd : o.guard = none) (s x : Operand)
    (ho : o.op = .call { callee := .builtin .append, args := #[s, x], argTypes := #[45, 45] }) {base : Nat} {v : Value} {xs ys : List ByteArray} {A : Option Addr} {c : Nat}
    (hs : a.eval s = v) (hx : a.eval x = .slice A ys.length c) (hown : OwnsS w base v xs) (hy : StrsIn w A ys) (hA : A = none → c = 0) (hb : base ≤ w.heap.size) (hn : xs.length + ys.length ≤ 8000000000000)
    (h : ∀ v' w', OwnsS w' base v' (xs ++ ys) → Off v.ownBlock.toList w w' → wpList Tryd.prog ops Q rest (a.put o.dst v') w') : wpList Tryd.prog ops Q (o :: rest) a w := by
  refine wpList_plain hgd fun K hK => ?_
  obtain ⟨v', w', hr, h2, h3⟩ := append_many hown hy hA o.type hb hn
  unfold Oper.wp execOp
  simp only [ho, resolve, invoke, builtin, Sem.run_bind, Sem.run_pure, Result.andThen_ok, List.map_toArray, List.map_cons, List.map_nil, hs, hx, hr]
  exact hK _ _ (h v' w' h2 h3)
theorem wpList_append_one {w : World} {ops : Array Oper} {rest : List Oper} {o : Oper} {a : Act} {Q : Exit → Act → World → Prop} (hgd : o.guard = none) (s x : Operand)
    (ho : o.op = .call { callee := .builtin .append, args := #[s, x], argTypes := #[45, 45] }) {base : Nat} {v : Value} {xs : List ByteArray} {b : Nat} (y : ByteArray)
    (hs : a.eval s = v) (hx : a.eval x = .slice (some ⟨b, 0, none⟩) 1 1) (hown : OwnsS w base v xs) (hy : w.cell? ⟨b, 0, none⟩ = some (.string y)) (hb : base ≤ w.heap.size) (hn : xs.length ≤ 7000000000000)
    (h : ∀ v' w', OwnsS w' base v' (xs ++ [y]) → Off v.ownBlock.toList w w' → wpList Tryd.prog ops Q rest (a.put o.dst v') w') : wpList Tryd.prog ops Q (o :: rest) a w :=
  wpList_append_many hgd s x ho (ys := [y]) hs hx hown (StrsIn.one hy) (fun h => by cases h) hb (by simp; omega) h

end Go.Proofs.YtnhlnhmjnnopaaaDoor

/- Maps from texts to values, in a walk. -/
namespace Go.Proofs.YtnhlnhmjnnopaaaDoor
open Go.RowKit Go.Maps

section
variable {W : World} {mb n : Nat} {l : HL} {s : ByteArray} {v z : Value} {t e : TypeId}
/-- a map of the call's own -/
abbrev HMap (W : World) (mb n : Nat) (l : HL) : Prop := W.ownsMap Tryd.prog 9 heldE mb n (hmap l)
theorem HMap.off {W' : World} {L : List Nat} (h : HMap W mb n l) (hf : Off L W W') (hm : mb ∉ L) : HMap W' mb n l := by
  obtain ⟨es, clock, h1, h2, h3, h4⟩ := h
  exact ⟨es, clock, (hf.block mb (Array.getElem?_eq_some_iff.1 h1).1 hm).trans h1, h2, h3, h4⟩
theorem HMap.below {W' : World} (h : HMap W mb n l) (hb : Below W.heap.size W W') : HMap W' mb n l := h.off ((Off.refl [] W).below hb (Nat.le_refl _)) (by simp)
theorem HMap.kept {W' : World} (h : HMap W mb n l) (hk : ∀ (k : Nat) es c, W.heap[k]? = some (Obj.map es c) → W'.heap[k]? = W.heap[k]?) : HMap W' mb n l := by
  obtain ⟨es, clock, h1, h2, h3, h4⟩ := h
  exact ⟨es, clock, (hk _ _ _ h1).trans h1, h2, h3, h4⟩
theorem HMap.blk (h : HMap W mb n l) : ∃ es c, W.heap[mb]? = some (Obj.map es c) := by
  obtain ⟨es, clock, h1, _⟩ := h
  exact ⟨es, clock, h1⟩
theorem hm_some (h : HMap W mb n l) (ht : Tryd.prog.underlying t = some (.map 9 e)) (hz : (zeroValue e).run Tryd.prog W = .ok z W) (hs : s.size ≤ maxLen) (hn : (l.map (·.1)).Nodup) (hk : hlook l s.data.toList = some v) :
    (Instr.lookup t (.map (some mb)) (.string s) true).run Tryd.prog W = .ok (.tuple #[v, .bool true]) W := by
  obtain ⟨u, ps, hr, hu⟩ := World.ownsMap.look_ok h (string_keyed Tryd.underlying9) ht hz (show heldE z = some (.held z, []) from rfl) (strK s hs)
  obtain ⟨h1, h2⟩ := hmap_some hn hk (.held z)
  rw [h2] at hr
  rw [h1] at hu
  simp only [heldE, Option.some.injEq, Prod.mk.injEq, DataW.held.injEq] at hu
  obtain ⟨rfl, _⟩ := hu
  exact hr
theorem hm_none (h : HMap W mb n l) (ht : Tryd.prog.underlying t = some (.map 9 e)) (hz : (zeroValue e).run Tryd.prog W = .ok z W) (hs : s.size ≤ maxLen) (hk : hlook l s.data.toList = none) :
    (Instr.lookup t (.map (some mb)) (.string s) true).run Tryd.prog W = .ok (.tuple #[z, .bool false]) W := by
  obtain ⟨u, ps, hr, hu⟩ := World.ownsMap.look_ok h (string_keyed Tryd.underlying9) ht hz (show heldE z = some (.held z, []) from rfl) (strK s hs)
  obtain ⟨h1, h2⟩ := hmap_none hk (.held z)
  rw [h2] at hr
  rw [h1] at hu
  simp only [heldE, Option.some.injEq, Prod.mk.injEq, DataW.held.injEq] at hu
  obtain ⟨rfl, _⟩ := hu
  exact hr
theorem hm_some1 (h : HMap W mb n l) (ht : Tryd.prog.underlying t = some (.map 9 e)) (hz : (zeroValue e).run Tryd.prog W = .ok z W) (hs : s.size ≤ maxLen) (hn : (l.map (·.1)).Nodup) (hk : hlook l s.data.toList = some v) :
    (Instr.lookup t (.map (some mb)) (.string s) false).run Tryd.prog W = .ok v W := by
  obtain ⟨u, ps, hr, hu⟩ := World.ownsMap.lookup h (string_keyed Tryd.underlying9) ht hz (show heldE z = some (.held z, []) from rfl) (strK s hs)
  obtain ⟨h1, h2⟩ := hmap_some hn hk (.held z)
  rw [h1] at hu
  simp only [heldE, Option.some.injEq, Prod.mk.injEq, DataW.held.injEq] at hu
  obtain ⟨rfl, _⟩ := hu
  exact hr
theorem hm_none1 (h : HMap W mb n l) (ht : Tryd.prog.underlying t = some (.map 9 e)) (hz : (zeroValue e).run Tryd.prog W = .ok z W) (hs : s.size ≤ maxLen) (hk : hlook l s.data.toList = none) :
    (Instr.lookup t (.map (some mb)) (.string s) false).run Tryd.prog W = .ok z W := by
  obtain ⟨u, ps, hr, hu⟩ := World.ownsMap.lookup h (string_keyed Tryd.underlying9) ht hz (show heldE z = some (.held z, []) from rfl) (strK s hs)
  obtain ⟨h1, h2⟩ := hmap_none hk (.held z)
  rw [h1] at hu
  simp only [heldE, Option.some.injEq, Prod.mk.injEq, DataW.held.injEq] at hu
  obtain ⟨rfl, _⟩ := hu
  exact hr
theorem hm_put (h : HMap W mb n l) (ht : Tryd.prog.underlying t = some (.map 9 e)) (hn : n < maxLen) (hs : s.size ≤ maxLen) (v : Value) :
    ∃ W', (Instr.mapUpdate t (.map (some mb)) (.string s) v).run Tryd.prog W = .ok () W' ∧ HMap W' mb (n + 1) (l ++ [(s.data.toList, v)]) ∧ Off [mb] W W' := by
  obtain ⟨W', h1, h2, h3⟩ := World.ownsMap.update h (string_keyed Tryd.underlying9) ht hn (strK s hs) (show heldE v = some (.held v, []) from rfl)
  rw [hmap_snoc] at h2
  exact ⟨W', h1, h2, grown_off h3 (fun k hk => by cases hk; simp)⟩
theorem hm_made (W : World) : HMap (W.alloc (.map #[] 0)) W.heap.size 0 [] := World.ownsMap_made W Tryd.prog 9 heldE
end
end Go.Proofs.YtnhlnhmjnnopaaaDoor

/- strings.trimRightASCII, trimLeftASCII, strings.Trim with a set of ASCII signs. -/
namespace Go.Proofs.YtnhlnhmjnnopaaaDoor
open Go.RowKit

/-- The set at block b holds just what P tells. -/
def SetAt (w : World) (b : Nat) (P : UInt8 → Bool) : Prop := ∀ x : UInt8, w.cell? ⟨b, x.toNat, none⟩ = some (.bool (P x))

def sizeOfV : Value → Nat
  | .string t => t.size
  | _ => 0

def TrimR (s t : ByteArray) (P : UInt8 → Bool) : Prop := ∃ r : List UInt8, s.data.toList = t.data.toList ++ r ∧ r.all P = true ∧ (t.data.toList = [] ∨ ∃ l c, t.data.toList = l ++ [c] ∧ P c = false)
def HeadR (s t : ByteArray) (P : UInt8 → Bool) : Prop := ∃ r : List UInt8, s.data.toList = t.data.toList ++ r ∧ r.all P = true
theorem last_split (t : ByteArray) (h : 0 < t.size) (hi : t.size - 1 < t.size) : t.data.toList = (t.extract 0 (t.size - 1)).data.toList ++ [t[t.size - 1]] := by
  have hl : t.data.toList.length = t.size := by simp
  have e : (t.extract 0 (t.size - 1)).data.toList = t.data.toList.take (t.size - 1) := by rw [Lib.extract_data, List.drop_zero, Nat.sub_zero]
  rw [e]
  have hg : t.data.toList[t.size - 1]? = some t[t.size - 1] := by
    rw [List.getElem?_eq_getElem (by omega)]
    rfl
  have h2 := List.take_add_one (l := t.data.toList) (i := t.size - 1)
  rw [hg, show t.size - 1 + 1 = t.size by omega, List.take_of_length_le (by omega)] at h2
  exact h2

theorem trim_right (s : ByteArray) (b : Nat) (P : UInt8 → Bool) (w : World) (hS : SetAt w b P) (hs : s.size ≤ 9000000000000000000) :
    Calls Tryd.prog 76 #[.string s, .pointer (some ⟨b, 0, none⟩)] w fun e w' =>
      ∃ t : ByteArray, e = .returned (.string t) ∧ TrimR s t P ∧ w' = w := by
  have HS := Lib.hid hS
  clear hS
  go_enter Tryd.func76, Tryd.ntmps76
  go_wp2_with fail
  go_loop [0] (fun v => ∃ t : ByteArray, v = .string t ∧ t.size ≤ s.size ∧ Hid (HeadR s t P)) (fun v => sizeOfV v)
  case atStart => exact ⟨s, rfl, Nat.le_refl _, Lib.hid ⟨[], by simp, rfl⟩⟩
  case round =>
    obtain ⟨t, rfl, hle, hall⟩ := hrel
    by_cases h0 : t.size = 0
    · have he : t = ⟨#[]⟩ := by
        apply ByteArray.ext
        exact Array.eq_empty_of_size_eq_zero h0
      subst he
      go_wp2_with fail
      go_ret
      obtain ⟨r, h1, h2⟩ := hall.out
      exact ⟨⟨#[]⟩, rfl, ⟨r, h1, h2, .inl rfl⟩, rfl⟩
    · have hi : t.size - 1 < t.size := by omega
      have hc := HS.out t[t.size - 1]
      have e1 : IntKind.i64.wrap ((t.size : Int) - 1) = (t.size : Int) - 1 := IntWalk.i64_in _ (by omega)
      have e2 : ((t.size : Int) - 1).toNat = t.size - 1 := by omega
      have i0 : (0 : Int) ≤ (t.size : Int) - 1 := by omega
      have i1 : (t.size : Int) - 1 < (t.size : Int) := by omega
      have i2 : (0 : Int) < (t.size : Int) := by omega
      have hsp := Lib.hid (last_split t (by omega) hi)
      cases hp : P t[t.size - 1]
      · rw [hp] at hc
        go_wp2_with fail
        refine (Tryd.asciiSet_contains b _ false w hc).mono ?_
        rintro e w1 ⟨rfl, rfl⟩
        go_wp2_with fail
        go_ret
        obtain ⟨r, h1, h2⟩ := hall.out
        exact ⟨t, rfl, ⟨r, h1, h2, .inr ⟨_, _, hsp.out, hp⟩⟩, rfl⟩
      · rw [hp] at hc
        go_wp2_with fail
        refine (Tryd.asciiSet_contains b _ true w hc).mono ?_
        rintro e w1 ⟨rfl, rfl⟩
        go_wp2_with fail
        go_round
        case rel =>
          refine ⟨_, rfl, ?_, ?_⟩
          · simp; omega
          · obtain ⟨r, h1, h2⟩ := hall.out
            refine Lib.hid ⟨t[t.size - 1] :: r, ?_, by simp [hp]; simpa using h2⟩
            rw [h1, hsp.out, List.append_assoc]
            rfl
        case measure => simp [sizeOfV]; omega

def TrimL (s t : ByteArray) (P : UInt8 → Bool) : Prop := ∃ r : List UInt8, s.data.toList = r ++ t.data.toList ∧ r.all P = true ∧ (t.data.toList = [] ∨ ∃ c l, t.data.toList = c :: l ∧ P c = false)
def HeadL (s t : ByteArray) (P : UInt8 → Bool) : Prop := ∃ r : List UInt8, s.data.toList = r ++ t.data.toList ∧ r.all P = true
theorem first_split (t : ByteArray) (h : 0 < t.size) : t.data.toList = t[0] :: (t.extract 1 t.size).data.toList := by
  have hl : t.data.toList.length = t.size := by simp
  rw [Lib.extract_data, List.take_of_length_le (by rw [List.length_drop]; omega)]
  have hg : t.data.toList[0]? = some t[0] := by
    rw [List.getElem?_eq_getElem (by omega)]
    rfl
  generalize t.data.toList = L at *
  cases L with
  | nil => simp at hg
  | cons x L => simp at hg; simp [hg]

theorem trim_left (s : ByteArray) (b : Nat) (P : UInt8 → Bool) (w : World) (hS : SetAt w b P) (hs : s.size ≤ 9000000000000000000) :
    Calls Tryd.prog 75 #[.string s, .pointer (some ⟨b, 0, none⟩)] w fun e w' =>
      ∃ t : ByteArray, e = .returned (.string t) ∧ TrimL s t P ∧ w' = w := by
  have HS := Lib.hid hS
  clear hS
  go_enter Tryd.func75, Tryd.ntmps75
  go_wp2_with fail
  go_loop [0] (fun v => ∃ t : ByteArray, v = .string t ∧ t.size ≤ s.size ∧ Hid (HeadL s t P)) (fun v => sizeOfV v)
  case atStart => exact ⟨s, rfl, Nat.le_refl _, Lib.hid ⟨[], by simp, rfl⟩⟩
  case round =>
    obtain ⟨t, rfl, hle, hall⟩ := hrel
    by_cases h0 : t.size = 0
    · have he : t = ⟨#[]⟩ := by
        apply ByteArray.ext
        exact Array.eq_empty_of_size_eq_zero h0
      subst he
      go_wp2_with fail
      go_ret
      obtain ⟨r, h1, h2⟩ := hall.out
      exact ⟨⟨#[]⟩, rfl, ⟨r, h1, h2, .inl rfl⟩, rfl⟩
    · have hi : 0 < t.size := by omega
      have hc := HS.out t[0]
      have i2 : (0 : Int) < (t.size : Int) := by omega
      have i3 : (1 : Int) ≤ (t.size : Int) := by omega
      have hsp := Lib.hid (first_split t hi)
      cases hp : P t[0]
      · rw [hp] at hc
        go_wp2_with fail
        refine (Tryd.asciiSet_contains b _ false w hc).mono ?_
        rintro e w1 ⟨rfl, rfl⟩
        go_wp2_with fail
        go_ret
        obtain ⟨r, h1, h2⟩ := hall.out
        exact ⟨t, rfl, ⟨r, h1, h2, .inr ⟨_, _, hsp.out, hp⟩⟩, rfl⟩
      · rw [hp] at hc
        go_wp2_with fail
        refine (Tryd.asciiSet_contains b _ true w hc).mono ?_
        rintro e w1 ⟨rfl, rfl⟩
        go_wp2_with fail
        go_round
        case rel =>
          refine ⟨_, rfl, ?_, ?_⟩
          · simp; omega
          · obtain ⟨r, h1, h2⟩ := hall.out
            refine Lib.hid ⟨r ++ [t[0]], ?_, by rw [List.all_append, h2]; simp [hp]⟩
            rw [h1, hsp.out, List.append_assoc]
            rfl
        case measure => simp [sizeOfV]; omega
end Go.Proofs.YtnhlnhmjnnopaaaDoor

/- strings.Trim with a set of ASCII signs, two or more. -/
namespace Go.Proofs.YtnhlnhmjnnopaaaDoor
open Go.RowKit

theorem trim_set (cs : ByteArray) (ha : ∀ (j : Nat) (b : UInt8), cs.data.toList[j]? = some b → b.toNat < 128) (hl : 2 ≤ cs.size) (hl2 : cs.size ≤ 100) (s : ByteArray) (w : World) (h0 : 0 < s.size) (hs : s.size ≤ 9000000000000000000) :
    Calls Tryd.prog 54 #[.string s, .string cs] w fun e w' => ∃ t u : ByteArray, e = .returned (.string u) ∧ TrimR s t (cs.data.toList.contains ·) ∧ TrimL t u (cs.data.toList.contains ·) ∧ Below w.heap.size w w' := by
  have hv : ∀ w, (zeroValue 112).run Tryd.prog w = .ok (.agg (Array.replicate 256 (.bool false))) w := fun _ => by kernel_rfl
  have hmk := fun w => Tryd.strings_makeASCIISet hv cs w (by omega) ha
  have ne : ∀ t : ByteArray, 0 < t.size → ¬ t.toList = [] := fun t ht => by
    rw [Lib.toList_data]
    intro h
    have : t.data.toList.length = t.size := by simp
    rw [h] at this
    simp at this
    omega
  have n1 : ¬ s.toList = [] := ne s h0
  have n2 : s.toList.isEmpty = false := by cases h : s.toList with | nil => exact absurd h n1 | cons x l => rfl
  have m1 : ¬ cs.toList = [] := ne cs (by omega)
  have n3 : cs.toList.isEmpty = false := by cases h : cs.toList with | nil => exact absurd h m1 | cons x l => rfl
  have n4 : ¬ ((cs.size : Int) = 1) := by omega
  have HM := Lib.hid hmk
  have hz : (Lib.setCells cs.data.toList).size = 256 := Lib.setCells_size _
  have hone : (Lib.setCells cs.data.toList).all (·.oneCell') = true := Lib.setCells_one _
  have hat := Lib.hid (fun x => Lib.setCells_at cs.data.toList x)
  clear hmk ha ne
  go_enter Tryd.func54, Tryd.ntmps54
  go_wp2_with fail
  refine (HM.out w).mono ?_
  rintro e w1 ⟨rfl, hw1⟩
  generalize Lib.setCells cs.data.toList = Z at *
  have hin : (Tryd.prog.info? 112).map (·.size) = some Z.size := by rw [hz]; kernel_rfl
  have hst := run_storeCells_new (P := Tryd.prog) w1 112 (Array.replicate 256 (.bool false)) Z hin (by rw [hz]; simp) hone
  subst hw1
  have hsz : (w.alloc (.cells Z 112)).heap.size = w.heap.size + 1 := by simp
  rw [hsz] at hst
  have hS : SetAt ((w.alloc (.cells Z 112)).alloc (.cells Z 112)) (w.heap.size + 1) (cs.data.toList.contains ·) := fun x => by
    have h := heap_alloc_new (w.alloc (.cells Z 112)) (.cells Z 112)
    have h2 := hat.out x
    rw [hsz] at h
    unfold World.cell?
    rw [h]
    exact h2
  have HS := Lib.hid hS
  clear hS hin hone
  go_wp2_with fail
  refine (trim_right s _ _ _ HS.out hs).mono ?_
  rintro e w2 ⟨t, rfl, hR, rfl⟩
  have hts : t.size ≤ s.size := by
    obtain ⟨r, h1, _⟩ := hR
    have := congrArg List.length h1
    simp at this
    omega
  have HR := Lib.hid hR
  clear hR
  go_wp2_with fail
  refine (trim_left t _ _ _ HS.out (by omega)).mono ?_
  rintro e w3 ⟨u, rfl, hL, rfl⟩
  have HL := Lib.hid hL
  clear hL
  go_wp2_with fail
  go_ret
  exact ⟨t, u, rfl, HR.out, HL.out, (by (repeat (first | with_reducible exact Below.refl _ _ | with_reducible refine bel_set ?_ ?_ | with_reducible refine bel_alloc ?_ ?_ | with_reducible refine Below.drew ?_ | with_reducible refine bel_drewN _ ?_ | with_reducible refine bel_call ?_ (by assumption) ?_)); all_goals (first | (simp; done) | omega | (simp; omega)))⟩

theorem trim_none (P : UInt8 → Bool) {s t u : ByteArray} (h1 : TrimR s t P) (h2 : TrimL t u P) : (u.data.toList = [] ↔ s.data.toList.all P = true) := by
  obtain ⟨r, e1, r1, c1⟩ := h1
  obtain ⟨q, e2, q1, c2⟩ := h2
  rw [e1, e2]
  constructor
  · intro hu
    rw [hu, List.append_nil, List.all_append, q1, r1]; rfl
  · intro hall
    rcases c2 with h | ⟨c, l, h, hc⟩
    · exact h
    · rw [h] at hall
      simp only [List.all_append, List.all_cons, hc, Bool.false_and, Bool.and_false] at hall
      cases hall
end Go.Proofs.YtnhlnhmjnnopaaaDoor

/- prop.key. -/
namespace Go.Proofs.YtnhlnhmjnnopaaaDoor
open Go.RowKit

def keySet : ByteArray := ⟨#[97, 98, 99, 100, 101, 102, 103, 104, 105, 106, 107, 108, 109, 110, 111, 112, 113, 114, 115, 116, 117, 118, 119, 120, 121, 122, 48, 49, 50, 51, 52, 53, 54, 55, 56, 57, 46, 95]⟩
theorem keySet_ascii : ∀ (j : Nat) (b : UInt8), keySet.data.toList[j]? = some b → b.toNat < 128 := by
  intro j b h
  have hm := List.mem_of_getElem? h
  have : ∀ x ∈ keySet.data.toList, x.toNat < 128 := by decide
  exact this b hm
theorem keySet_is (c : UInt8) : keySet.data.toList.contains c = keyC c := by
  have h : ∀ n : Fin 256, keySet.data.toList.contains (UInt8.ofNat n) = keyC (UInt8.ofNat n) := by decide +kernel
  have := h ⟨c.toNat, c.toNat_lt⟩
  simpa using this
theorem keySet_all (s : List UInt8) : s.all (keySet.data.toList.contains ·) = s.all keyC := by
  congr 1
  funext c
  exact keySet_is c

set_option maxHeartbeats 1000000 in
theorem prop_key (s : ByteArray) (w : World) (hs : s.size ≤ 9223372036854775807) :
    Calls Tryd.prog 27 #[.string s] w fun e w' => e = .returned (.bool (keyOk s)) ∧ Below w.heap.size w w' := by
  go_enter Tryd.func27, Tryd.ntmps27
  by_cases h0 : s.size = 0
  · have he : s = ⟨#[]⟩ := ByteArray.ext (Array.eq_empty_of_size_eq_zero h0)
    subst he
    have HD : Hid (keyOk ⟨#[]⟩ = false) := Lib.hid (by decide)
    go_wp2_with fail
    go_ret
    exact ⟨ret_bool HD.out.symm, (by (repeat (first | with_reducible exact Below.refl _ _ | with_reducible refine bel_set ?_ ?_ | with_reducible refine bel_alloc ?_ ?_ | with_reducible refine Below.drew ?_ | with_reducible refine bel_drewN _ ?_ | with_reducible refine bel_call ?_ (by assumption) ?_)); all_goals (first | (simp; done) | omega | (simp; omega)))⟩
  · have n1 : ¬ s.toList = [] := by
      rw [Lib.toList_data]
      intro h
      exact h0 (by have h2 := congrArg List.length h; rw [Array.length_toList] at h2; exact h2)
    have n2 : s.toList.isEmpty = false := by cases h : s.toList with | nil => exact absurd h n1 | cons x l => rfl
    by_cases h5 : s.size ≤ 40
    · have i5 : (s.size : Int) ≤ 40 := by omega
      go_wp2_with fail
      refine (trim_set keySet keySet_ascii (by decide) (by decide) s w (by omega) (by omega)).mono ?_
      rintro e w1 ⟨t, u, rfl, hR, hL, hb1⟩
      have hiff := trim_none _ hR hL
      have hd : keyOk s = s.data.toList.all (keySet.data.toList.contains ·) := by
        unfold keyOk
        rw [decide_eq_true h5, decide_eq_true h0, Bool.true_and, Bool.true_and, keySet_all]
      cases hA : s.data.toList.all (keySet.data.toList.contains ·)
      · have m1 : ¬ u.toList = [] := by
          rw [Lib.toList_data]
          intro h
          rw [hiff.1 h] at hA
          cases hA
        have m2 : u.toList.isEmpty = false := by cases h : u.toList with | nil => exact absurd h m1 | cons x l => rfl
        have HD := Lib.hid (hd.trans hA)
        clear hR hL hiff hA hd
        go_wp2_with fail
        go_ret
        exact ⟨ret_bool HD.out.symm, (by (repeat (first | with_reducible exact Below.refl _ _ | with_reducible refine bel_set ?_ ?_ | with_reducible refine bel_alloc ?_ ?_ | with_reducible refine Below.drew ?_ | with_reducible refine bel_drewN _ ?_ | with_reducible refine bel_call ?_ (by assumption) ?_)); all_goals (first | (simp; done) | omega | (simp; omega)))⟩
      · have m1 : u.toList = [] := by rw [Lib.toList_data]; exact hiff.2 hA
        have HD := Lib.hid (hd.trans hA)
        clear hR hL hiff hA hd
        go_wp2_with fail
        go_ret
        exact ⟨ret_bool HD.out.symm, (by (repeat (first | with_reducible exact Below.refl _ _ | with_reducible refine bel_set ?_ ?_ | with_reducible refine bel_alloc ?_ ?_ | with_reducible refine Below.drew ?_ | with_reducible refine bel_drewN _ ?_ | with_reducible refine bel_call ?_ (by assumption) ?_)); all_goals (first | (simp; done) | omega | (simp; omega)))⟩
    · have i5 : ¬ (s.size : Int) ≤ 40 := by omega
      have HD : Hid (keyOk s = false) := Lib.hid (by unfold keyOk; rw [decide_eq_false h5, Bool.false_and, Bool.and_false])
      go_wp2_with fail
      go_ret
      exact ⟨ret_bool HD.out.symm, (by (repeat (first | with_reducible exact Below.refl _ _ | with_reducible refine bel_set ?_ ?_ | with_reducible refine bel_alloc ?_ ?_ | with_reducible refine Below.drew ?_ | with_reducible refine bel_drewN _ ?_ | with_reducible refine bel_call ?_ (by assumption) ?_)); all_goals (first | (simp; done) | omega | (simp; omega)))⟩
end Go.Proofs.YtnhlnhmjnnopaaaDoor

/- strings.Join of a row of texts that lie there. -/
namespace Go.Proofs.YtnhlnhmjnnopaaaDoor
open Go.RowKit

theorem OwnsS.cap {w : World} {base : Nat} {A : Option Addr} {n c : Nat} {xs : List ByteArray} (h : OwnsS w base (.slice A n c) xs) : n = xs.length ∧ n ≤ c := by
  rcases h.2 with ⟨h1, h2⟩ | ⟨g, cap, cur, h1, h3, h4, h5, _⟩
  · cases h1
    exact ⟨h2.symm, Nat.le_refl _⟩
  · cases h1
    exact ⟨rfl, h5⟩
theorem strings_joinW {A : Option Addr} {c : Nat} {xs : List ByteArray} (n : Nat) (sep : ByteArray) (w : World) (hn : xs.length = n) (h : StrsIn w A xs) (hc : n ≤ c) (hN : n ≤ 140737488355328) (hlen : (Lib.join (xs.map (·.data.toList)) sep.data.toList).length ≤ 140737488355328) :
    Calls Tryd.prog 39 #[.slice A n c, .string sep] w fun e w' => e = .returned (.string ⟨(Lib.join (xs.map (·.data.toList)) sep.data.toList).toArray⟩) ∧ Below w.heap.size w w' := by
  subst hn
  by_cases h0 : xs = []
  · subst h0
    refine (Tryd.strings_Join_none _ c sep w).mono ?_
    rintro e w' ⟨rfl, rfl⟩
    exact ⟨rfl, Below.refl _ _⟩
  · rcases h with h | ⟨bk, o, rfl, hcell⟩
    · exact absurd h h0
    · obtain ⟨x, r, rfl⟩ := List.exists_cons_of_ne_nil h0
      exact Tryd.strings_Join bk o c (x :: r) sep w hcell (lt_of_cell (hcell 0 x rfl)) (by omega) hc hlen
end Go.Proofs.YtnhlnhmjnnopaaaDoor

/- Two texts, one behind the other, by a name of its own. -/
namespace Go.Proofs.YtnhlnhmjnnopaaaDoor
open Go.RowKit

theorem add_let (x y : ByteArray) (h : x.size + y.size ≤ 100000) : ∃ z : ByteArray, z = x ++ y ∧ ∀ W : World, (Op.stringOp .add x y).run Tryd.prog W = .ok (.string z) W :=
  ⟨x ++ y, rfl, fun W => run_string_add_sum W _ _ (by omega)⟩
end Go.Proofs.YtnhlnhmjnnopaaaDoor
