/- StrsPlain, TagPlain, TagSpec, TagRefPlain, BundlePlain, EntIn, RowsS, RowG, AppendG, RowSet, TyAt, PackRow, PackPlain, Ent, HeldBase, HeldMap, HeldMapW, Trim, TrimCut, PropKey, JoinW, AddLet, PutRow, PropLines, TagSigns, PropRead, Rep, RepPlain: texts put together. -/
import Derived.Test.YtnhlnhmjnnopaaaGreatDoorPp1
import Derived.Lib.Join
import Derived.Lib.SplitLaws
import Derived.Test.YtnhlnhmjnnopaaaGreatDoorProg
import Derived.Test.YtnhlnhmjnnopaaaGreatDoorShelf
import Derived.Laws.AppendOwn
import Derived.Laws.OwnMore
import Derived.OwnWalk
import Derived.WideShapes
import Derived.OwnWalkIn
import Derived.TacticsInMore
import Derived.LoopNIn
import Derived.LoopIn
import Derived.Maps.AppendAt
import Derived.Laws.Rows
import Derived.Lib.AppendStr
import Derived.Lib.Bytealg
import GoSem.Op.String
import Derived.Laws.Entries
import Derived.IntWalk
import Derived.Maps.Views
import Derived.Maps.OwnSet
import Derived.Maps.Keyed
import Derived.Carry
import Derived.WalkLawsBesides
import Derived.Lib.Strings
import Derived.Deep.WholeRow
import Derived.Lib.IndexBytes
import Derived.Lib.IndexLaws
import Derived.Laws.IdiomStrings
set_option linter.unusedVariables false
set_option linter.unusedSimpArgs false
/- Lists of texts in memory, and what joining makes of them. -/
namespace Go.Proofs.YtnhlnhmjnnopaaaGreatDoor
open Go.RowKit

/-- The slice at A reads as these texts. -/
def StrsIn (w : World) (A : Option Addr) (xs : List ByteArray) : Prop :=
  xs = [] ∨ ∃ bk o, A = some ⟨bk, o, none⟩ ∧ ∀ (j : Nat) x, xs[j]? = some x → w.cell? ⟨bk, o + j, none⟩ = some (.string x)
theorem StrsIn.below {w w' : World} {A : Option Addr} {xs : List ByteArray} (h : StrsIn w A xs) (hb : Below w.heap.size w w') : StrsIn w' A xs := by
  rcases h with h | ⟨bk, o, hA, hc⟩
  · exact .inl h
  · exact .inr ⟨bk, o, hA, fun j x hx => carry hb (hc j x hx)⟩
theorem StrsIn.drewN {w : World} {A : Option Addr} {xs : List ByteArray} (h : StrsIn w A xs) (n : Nat) : StrsIn (w.drewN n) A xs := h

abbrev strsL (xs : List ByteArray) : List (List UInt8) := xs.map (·.data.toList)
theorem mk_append3 (a b c : ByteArray) : a ++ b ++ c = ⟨(a.data.toList ++ b.data.toList ++ c.data.toList).toArray⟩ := by
  apply ByteArray.ext
  apply Array.ext'
  simp
/-- what list.Join tells -/
def listJoin (xs : List (List UInt8)) (two sep last : List UInt8) : List UInt8 :=
  if xs.length < 2 then Lib.join xs []
  else if xs.length = 2 then xs.getD 0 [] ++ two ++ xs.getD 1 []
  else Lib.join (xs.take (xs.length - 1)) sep ++ last ++ xs.getD (xs.length - 1) []
def lensB (xs : List ByteArray) : Nat := (xs.map (·.size)).sum
theorem lens_map (xs : List ByteArray) : Lib.lens (xs.map (·.data.toList)) = lensB xs := by
  induction xs with
  | nil => rfl
  | cons x r ih =>
    simp only [List.map_cons, lensB, Lib.lens, List.sum_cons] at *
    rw [ih]
    simp
theorem join_len (xs : List (List UInt8)) (sep : List UInt8) : (Lib.join xs sep).length = sep.length * (xs.length - 1) + Lib.lens xs := by
  cases xs with
  | nil => rfl
  | cons x r => rw [Lib.join_length]; simp

theorem join_take_succ (xs : List (List UInt8)) (sep : List UInt8) (k : Nat) (y : List UInt8) (h : xs[k]? = some y) : Lib.join (xs.take (k + 1)) sep = if k = 0 then y else Lib.join (xs.take k) sep ++ sep ++ y := by
  cases xs with
  | nil => simp at h
  | cons x r =>
    cases k with
    | zero => simp at h; subst h; simp [Lib.join_one]
    | succ k =>
      simp only [List.getElem?_cons_succ] at h
      rw [if_neg (by omega), List.take_succ_cons, List.take_succ_cons, Lib.join_cons, Lib.join_cons, Lib.joinTail_take_succ _ _ _ _ h]
      simp [List.append_assoc]
theorem lensB_take_le (xs : List ByteArray) (k : Nat) : lensB (xs.take k) ≤ lensB xs := by
  rw [← lens_map, ← lens_map, List.map_take]
  exact Lib.lens_take_le _ _
theorem lensB_take_succ (xs : List ByteArray) (k : Nat) (y : ByteArray) (h : xs[k]? = some y) : lensB (xs.take (k + 1)) = lensB (xs.take k) + y.size := by
  rw [List.take_add_one, h]
  simp [lensB]
theorem size_le_lensB (xs : List ByteArray) (k : Nat) (y : ByteArray) (h : xs[k]? = some y) : y.size ≤ lensB xs := by
  have h1 := lensB_take_succ xs k y h
  have h2 := lensB_take_le xs (k + 1)
  omega
theorem listJoin_plain (xs : List (List UInt8)) : listJoin xs [] [] [] = Lib.join xs [] := by
  have flat : ∀ l : List (List UInt8), Lib.join l [] = l.flatten := by
    intro l
    cases l with
    | nil => rfl
    | cons x r => rw [Lib.join_cons]; simp [Lib.joinTail]
  unfold listJoin
  split
  · rfl
  · rename_i h
    split
    · rename_i h2
      match xs, h2 with
      | [a, b], _ => simp [flat]
    · rw [flat, flat, List.append_nil]
      have h3 : xs.length - 1 < xs.length := by omega
      have e : xs.getD (xs.length - 1) [] = xs[xs.length - 1] := by simp [List.getD_eq_getElem?_getD, List.getElem?_eq_getElem h3]
      rw [e]
      have := List.take_append_getElem h3
      rw [show xs.length - 1 + 1 = xs.length by omega, List.take_length] at this
      have t2 := congrArg List.flatten this
      rw [List.flatten_append] at t2
      rw [← t2]
      simp only [List.flatten_cons, List.flatten_nil, List.append_nil]
/-- as many bytes -/
def joinN (n : Nat) (sum two sep last : Nat) : Nat := sum + (if n = 2 then two else 0) + (if 2 < n then (n - 2) * sep + last else 0)
theorem listJoin_length (xs : List (List UInt8)) (two sep last : List UInt8) : (listJoin xs two sep last).length = joinN xs.length (Lib.lens xs) two.length sep.length last.length := by
  unfold listJoin joinN
  split
  · rename_i h
    rw [join_len, if_neg (by omega), if_neg (by omega)]
    simp
  · rename_i h
    split
    · rename_i h2
      match xs, h2 with
      | [a, b], _ => simp [Lib.lens]; omega
    · rename_i h2
      have h3 : xs.length - 1 < xs.length := by omega
      have hs := Lib.lens_take_succ xs (xs.length - 1) xs[xs.length - 1] (List.getElem?_eq_getElem h3)
      rw [show xs.length - 1 + 1 = xs.length by omega, List.take_length] at hs
      have e : xs.getD (xs.length - 1) [] = xs[xs.length - 1] := by simp [List.getD_eq_getElem?_getD, List.getElem?_eq_getElem h3]
      rw [e, if_pos (by omega), List.length_append, List.length_append, join_len, List.length_take, hs, Nat.min_eq_left (by omega), show xs.length - 1 - 1 = xs.length - 2 by omega, Nat.mul_comm]
      omega

end Go.Proofs.YtnhlnhmjnnopaaaGreatDoor

/- Tags: what is right, their parts, their text; the text tells the tag. No program stands here. -/
namespace Go.Proofs.YtnhlnhmjnnopaaaGreatDoor
open Go

abbrev Bs := List UInt8
def lowB (c : UInt8) : Bool := decide (97 ≤ c.toNat) && decide (c.toNat ≤ 122)
def highB (c : UInt8) : Bool := decide (65 ≤ c.toNat) && decide (c.toNat ≤ 90)
def numB (c : UInt8) : Bool := decide (48 ≤ c.toNat) && decide (c.toNat ≤ 57)
def bothB (c : UInt8) : Bool := lowB c || numB c
/-- a part of so many signs of a kind -/
def madeB (p : UInt8 → Bool) (s : Bs) (a b : Nat) : Bool := s.all p && (decide (a ≤ s.length) && decide (s.length ≤ b))
def scriptB (s : Bs) : Bool := decide (s.length = 4) && (highB (s.getD 0 0) && madeB lowB (s.drop 1) 3 3)
def regionB (s : Bs) : Bool := madeB highB s 2 2 || madeB numB s 3 3
/-- is the head of a tag right? -/
def headB (l s r : Bs) : Bool := madeB lowB l 2 3 && ((s.isEmpty || scriptB s) && (r.isEmpty || regionB r))
/-- what is wrong with the variants: 0 nothing -/
def varErr : List Bs → List Bs → Int
  | _, [] => 0
  | seen, v :: vs => if madeB bothB v 5 8 = false then 3 else if seen.contains v then 5 else varErr (seen ++ [v]) vs
def tagErr (l s r : Bs) (vs : List Bs) : Int :=
  if headB l s r = false then 3 else if varErr [] vs = 0 then (if 3 < vs.length then 4 else 0) else varErr [] vs
def partsL (l s r : Bs) (vs : List Bs) : List Bs := ([l, s, r] ++ vs).filter (fun x => !x.isEmpty)
def tagText (l s r : Bs) (vs : List Bs) : Bs := Lib.join (partsL l s r vs) [45]

theorem madeB_len {p : UInt8 → Bool} {s : Bs} {a b : Nat} (h : madeB p s a b = true) : a ≤ s.length ∧ s.length ≤ b ∧ s.all p = true := by
  unfold madeB at h
  simp only [Bool.and_eq_true, decide_eq_true_eq] at h
  exact ⟨h.2.1, h.2.2, h.1⟩
theorem scriptB_len {s : Bs} (h : scriptB s = true) : s.length = 4 := by
  unfold scriptB at h
  simp only [Bool.and_eq_true, decide_eq_true_eq] at h
  exact h.1
theorem regionB_len {s : Bs} (h : regionB s = true) : 2 ≤ s.length ∧ s.length ≤ 3 := by
  unfold regionB at h
  rw [Bool.or_eq_true] at h
  rcases h with h | h
  · have := madeB_len h; omega
  · have := madeB_len h; omega
theorem varErr_len : ∀ (vs seen : List Bs), varErr seen vs = 0 → ∀ v ∈ vs, madeB bothB v 5 8 = true
  | [], _, _, v, hv => by cases hv
  | x :: vs, seen, h, v, hv => by
    unfold varErr at h
    split at h
    · cases h
    · rename_i h1
      split at h
      · cases h
      · rcases List.mem_cons.1 hv with rfl | hv
        · simpa using h1
        · exact varErr_len vs _ h v hv
theorem tagErr_ok {l s r : Bs} {vs : List Bs} (h : tagErr l s r vs = 0) : madeB lowB l 2 3 = true ∧ (s = [] ∨ scriptB s = true) ∧ (r = [] ∨ regionB r = true) ∧ varErr [] vs = 0 ∧ vs.length ≤ 3 := by
  unfold tagErr at h
  split at h
  · cases h
  · rename_i h1
    split at h
    · rename_i h2
      split at h
      · cases h
      · rename_i h3
        have h4 : headB l s r = true := by simpa using h1
        unfold headB at h4
        simp only [Bool.and_eq_true, Bool.or_eq_true, List.isEmpty_iff] at h4
        exact ⟨h4.1, h4.2.1, h4.2.2, h2, by omega⟩
    · rename_i h2
      exact absurd h h2

/-- the parts of a right tag, one behind the other -/
theorem parts_ok {l s r : Bs} {vs : List Bs} (h : tagErr l s r vs = 0) : partsL l s r vs = l :: ([s].filter (fun x => !x.isEmpty) ++ ([r].filter (fun x => !x.isEmpty) ++ vs)) := by
  obtain ⟨h1, _, _, h4, _⟩ := tagErr_ok h
  have hl := madeB_len h1
  have e1 : l.isEmpty = false := by cases l with | nil => simp at hl | cons => rfl
  have e2 : vs.filter (fun x => !x.isEmpty) = vs := List.filter_eq_self.2 fun v hv => by
    have := madeB_len (varErr_len vs [] h4 v hv)
    cases v with | nil => simp at this | cons => rfl
  unfold partsL
  rw [List.filter_append, e2]
  simp [List.filter_cons, e1]
  split <;> split <;> simp

/-! cutting at the sign between -/
def splitD : Bs → List Bs
  | [] => [[]]
  | c :: r => if c = 45 then [] :: splitD r else match splitD r with
    | [] => [[c]]
    | x :: xs => (c :: x) :: xs
theorem splitD_front : ∀ (x rest : Bs) (y : Bs) (ys : List Bs), 45 ∉ x → splitD rest = y :: ys → splitD (x ++ rest) = (x ++ y) :: ys
  | [], _, _, _, _, h => h
  | c :: x, rest, y, ys, hn, h => by
    have h1 := splitD_front x rest y ys (fun hm => hn (List.mem_cons_of_mem _ hm)) h
    have hc : c ≠ 45 := fun e => hn (e ▸ List.mem_cons_self)
    rw [List.cons_append, splitD, if_neg hc, h1]
    rfl
theorem splitD_tail : ∀ (r : List Bs) (x : Bs), 45 ∉ x → (∀ y ∈ r, 45 ∉ y) → splitD (x ++ Lib.joinTail [45] r) = x :: r
  | [], x, hx, _ => by
    have := splitD_front x [] [] [] hx rfl
    simpa [Lib.joinTail] using this
  | y :: r, x, hx, hr => by
    have ih := splitD_tail r y (hr y List.mem_cons_self) (fun z hz => hr z (List.mem_cons_of_mem _ hz))
    have e : Lib.joinTail [45] (y :: r) = 45 :: (y ++ Lib.joinTail [45] r) := by simp [Lib.joinTail]
    have h2 : splitD (45 :: (y ++ Lib.joinTail [45] r)) = [] :: y :: r := by rw [splitD, if_pos rfl, ih]
    rw [e]
    have := splitD_front x _ _ _ hx h2
    simpa using this
theorem splitD_join (xs : List Bs) (h : xs ≠ []) (hn : ∀ x ∈ xs, 45 ∉ x) : splitD (Lib.join xs [45]) = xs := by
  obtain ⟨x, r, rfl⟩ := List.exists_cons_of_ne_nil h
  rw [Lib.join_cons]
  exact splitD_tail r x (hn x List.mem_cons_self) (fun y hy => hn y (List.mem_cons_of_mem _ hy))

theorem made_nodash {p : UInt8 → Bool} {s : Bs} {a b : Nat} (hp : p 45 = false) (h : madeB p s a b = true) : 45 ∉ s := fun hm => by
  have := List.all_eq_true.1 (madeB_len h).2.2 45 hm
  rw [hp] at this
  cases this
theorem script_nodash {s : Bs} (h : scriptB s = true) : 45 ∉ s := fun hm => by
  unfold scriptB at h
  simp only [Bool.and_eq_true, decide_eq_true_eq] at h
  cases s with
  | nil => simp at hm
  | cons c r =>
    rcases List.mem_cons.1 hm with e | hm
    · subst e
      simp [highB] at h
    · exact made_nodash (p := lowB) (by decide) h.2.2 (by simpa using hm)
theorem region_nodash {s : Bs} (h : regionB s = true) : 45 ∉ s := by
  unfold regionB at h
  rw [Bool.or_eq_true] at h
  rcases h with h | h
  · exact made_nodash (by decide) h
  · exact made_nodash (by decide) h
theorem parts_nodash {l s r : Bs} {vs : List Bs} (h : tagErr l s r vs = 0) : ∀ x ∈ partsL l s r vs, 45 ∉ x := by
  intro x hx
  obtain ⟨h1, h2, h3, h4, _⟩ := tagErr_ok h
  unfold partsL at hx
  have hm := (List.mem_filter.1 hx).1
  have hne := (List.mem_filter.1 hx).2
  simp only [List.mem_append, List.mem_cons, List.mem_nil_iff, or_false] at hm
  rcases hm with (rfl | rfl | rfl) | hv
  · exact made_nodash (by decide) h1
  · rcases h2 with h2 | h2
    · rw [h2]; simp
    · exact script_nodash h2
  · rcases h3 with h3 | h3
    · rw [h3]; simp
    · exact region_nodash h3
  · exact made_nodash (by decide) (varErr_len vs [] h4 x hv)
theorem parts_ne {l s r : Bs} {vs : List Bs} (h : tagErr l s r vs = 0) : partsL l s r vs ≠ [] := by
  rw [parts_ok h]; simp

/-- by the lengths each part is known -/
theorem parts_tell {l s r l' s' r' : Bs} {vs vs' : List Bs} (h : tagErr l s r vs = 0) (h' : tagErr l' s' r' vs' = 0) (e : partsL l s r vs = partsL l' s' r' vs') : l = l' ∧ s = s' ∧ r = r' ∧ vs = vs' := by
  rw [parts_ok h, parts_ok h'] at e
  obtain ⟨_, a2, a3, a4, _⟩ := tagErr_ok h
  obtain ⟨_, b2, b3, b4, _⟩ := tagErr_ok h'
  have key : ∀ {s r : Bs} {vs : List Bs}, (s = [] ∨ scriptB s = true) → (r = [] ∨ regionB r = true) → varErr [] vs = 0 →
      (([s].filter (fun x => !x.isEmpty) ++ ([r].filter (fun x => !x.isEmpty) ++ vs)).filter (fun x => decide (x.length = 4)) = [s].filter (fun x => !x.isEmpty)) ∧
      (([s].filter (fun x => !x.isEmpty) ++ ([r].filter (fun x => !x.isEmpty) ++ vs)).filter (fun x => decide (x.length ≤ 3)) = [r].filter (fun x => !x.isEmpty)) ∧
      (([s].filter (fun x => !x.isEmpty) ++ ([r].filter (fun x => !x.isEmpty) ++ vs)).filter (fun x => decide (5 ≤ x.length)) = vs) := by
    intro s r vs hs hr hv
    have v4 : vs.filter (fun x => decide (x.length = 4)) = [] := List.filter_eq_nil_iff.2 fun v h => by
      have := madeB_len (varErr_len vs [] hv v h); simp; omega
    have v3 : vs.filter (fun x => decide (x.length ≤ 3)) = [] := List.filter_eq_nil_iff.2 fun v h => by
      have := madeB_len (varErr_len vs [] hv v h); simp; omega
    have v5 : vs.filter (fun x => decide (5 ≤ x.length)) = vs := List.filter_eq_self.2 fun v h => by
      have := madeB_len (varErr_len vs [] hv v h); simp; omega
    have S : (s = [] ∧ [s].filter (fun x => !x.isEmpty) = []) ∨ (s.length = 4 ∧ [s].filter (fun x => !x.isEmpty) = [s]) := by
      rcases hs with rfl | hs
      · exact .inl ⟨rfl, rfl⟩
      · have := scriptB_len hs
        refine .inr ⟨this, ?_⟩
        cases s with | nil => simp at this | cons => rfl
    have R : (r = [] ∧ [r].filter (fun x => !x.isEmpty) = []) ∨ ((2 ≤ r.length ∧ r.length ≤ 3) ∧ [r].filter (fun x => !x.isEmpty) = [r]) := by
      rcases hr with rfl | hr
      · exact .inl ⟨rfl, rfl⟩
      · have := regionB_len hr
        refine .inr ⟨this, ?_⟩
        cases r with | nil => simp at this | cons => rfl
    rw [List.filter_append, List.filter_append, List.filter_append, List.filter_append, List.filter_append, List.filter_append, v4, v3, v5]
    rcases S with ⟨_, e1⟩ | ⟨s4, e1⟩ <;> rcases R with ⟨_, e2⟩ | ⟨r3, e2⟩ <;> rw [e1, e2]
    · simp
    · simp [List.filter_cons, show ¬ r.length = 4 by omega, show r.length ≤ 3 by omega, show ¬ 5 ≤ r.length by omega]
    · simp [List.filter_cons, s4]
    · simp [List.filter_cons, s4, show ¬ r.length = 4 by omega, show r.length ≤ 3 by omega, show ¬ 5 ≤ r.length by omega]
  obtain ⟨k1, k2, k3⟩ := key a2 a3 a4
  obtain ⟨m1, m2, m3⟩ := key b2 b3 b4
  injection e with el er
  rw [er] at k1 k2 k3
  have one : ∀ x y : Bs, [x].filter (fun x => !x.isEmpty) = [y].filter (fun x => !x.isEmpty) → x = y := by
    intro x y hxy
    cases x <;> cases y <;> simp_all [List.filter_cons]
  exact ⟨el, one _ _ (k1.symm.trans m1), one _ _ (k2.symm.trans m2), k3.symm.trans m3⟩

theorem text_tells {l s r l' s' r' : Bs} {vs vs' : List Bs} (h : tagErr l s r vs = 0) (h' : tagErr l' s' r' vs' = 0) (e : tagText l s r vs = tagText l' s' r' vs') : l = l' ∧ s = s' ∧ r = r' ∧ vs = vs' := by
  refine parts_tell h h' ?_
  have h1 := splitD_join _ (parts_ne h) (parts_nodash h)
  have h2 := splitD_join _ (parts_ne h') (parts_nodash h')
  unfold tagText at e
  rw [← h1, ← h2, e]

end Go.Proofs.YtnhlnhmjnnopaaaGreatDoor

/- What tag.Parse tells, whatever the text. No program stands here. -/
namespace Go.Proofs.YtnhlnhmjnnopaaaGreatDoor

def mapc (P : UInt8 → Bool) (c : UInt8) : UInt8 := if P c then c ^^^ 32 else c
def lowerL (l : List UInt8) : List UInt8 := l.map (mapc highB)
def upperL (l : List UInt8) : List UInt8 := l.map (mapc lowB)

theorem split_dash : ∀ s : Bs, Lib.split s [45] = splitD s
  | [] => rfl
  | b :: l => by
    have ih := split_dash l
    by_cases h : b = 45
    · subst h
      have hix : Lib.index ((45 : UInt8) :: l) [45] = ((0 : Nat) : Int) := by rw [Lib.index]; simp [List.isPrefixOf]
      unfold Lib.split at ih ⊢
      rw [Lib.count_cons_eq, Nat.add_comm 1, Lib.splitK, hix, splitD, if_pos rfl]
      simp [ih]
    · rw [splitD, if_neg h, ← ih]
      unfold Lib.split
      rw [Lib.count_cons_ne b 45 l h]
      have hp : ([45] : Bs).isPrefixOf (b :: l) = false := by simp [List.isPrefixOf, Ne.symm h]
      have hix : Lib.index (b :: l) [45] = if Lib.index l [45] == -1 then -1 else Lib.index l [45] + 1 := by rw [Lib.index, hp]; simp
      by_cases hm : Lib.index l [45] = -1
      · rw [Lib.count_miss hm]
        rfl
      · have hge := Lib.index_ge l [45]
        obtain ⟨j, hj⟩ : ∃ j : Nat, Lib.index l [45] = j := ⟨(Lib.index l [45]).toNat, by omega⟩
        rw [Lib.count_hit (by simp) hj, Nat.add_comm 1, Lib.splitK, Lib.splitK, hix, hj]
        have e1 : ((j : Int) == -1) = false := by rw [beq_eq_false_iff_ne]; omega
        have e2 : (((j : Int) + 1) == -1) = false := by rw [beq_eq_false_iff_ne]; omega
        have e3 : ((j : Int) + 1).toNat = j + 1 := by omega
        simp [e1, e2, e3]
theorem splitB_dash (s : ByteArray) : (Lib.splitB ⟨#[45]⟩ 0 (Lib.countB s ⟨#[45]⟩) s).map (·.data.toList) = splitD s.data.toList := by
  rw [Lib.splitB_data, ← split_dash]
  rfl

/-- the script, if there is one, and what is left -/
def scrP : List Bs → Bs × List Bs
  | [] => ([], [])
  | p :: r => if madeB lowB p 4 4 then (upperL (p.take 1) ++ p.drop 1, r) else ([], p :: r)
def regP : List Bs → Bs × List Bs
  | [] => ([], [])
  | p :: r => if regionB (upperL p) then (upperL p, r) else ([], p :: r)
structure TagS where
  l : Bs
  s : Bs
  r : Bs
  vs : List Bs
def TagS.err (t : TagS) : Int := tagErr t.l t.s t.r t.vs
def TagS.text (t : TagS) : Bs := tagText t.l t.s t.r t.vs
def madeT (s : Bs) : TagS :=
  let ps := splitD (lowerL s)
  let a := scrP ps.tail
  let b := regP a.2
  ⟨ps.headD [], a.1, b.1, b.2⟩
/-- is it one? -/
def isTag (s : Bs) : Bool := (madeT s).err == 0 && lowerL (madeT s).text == lowerL s
/-- is it the tag's own text? -/
def ownTag (s : Bs) : Bool := isTag s && (madeT s).text == s

theorem splitD_ne (s : Bs) : splitD s ≠ [] := by
  cases s with
  | nil => simp [splitD]
  | cons c r =>
    unfold splitD
    split
    · simp
    · split <;> simp
theorem splitD_cons (s : Bs) : ∃ x r, splitD s = x :: r := List.exists_cons_of_ne_nil (splitD_ne s)
theorem splitD_len : ∀ (s x : Bs), x ∈ splitD s → x.length ≤ s.length
  | [], x, h => by
    simp [splitD] at h
    subst h
    exact Nat.le_refl _
  | c :: r, x, h => by
    unfold splitD at h
    split at h
    · rcases List.mem_cons.1 h with rfl | h
      · simp
      · have := splitD_len r x h; simp; omega
    · obtain ⟨y, ys, hy⟩ := splitD_cons r
      rw [hy] at h
      rcases List.mem_cons.1 h with rfl | h
      · have := splitD_len r y (by rw [hy]; exact List.mem_cons_self)
        simp
        omega
      · have := splitD_len r x (by rw [hy]; exact List.mem_cons_of_mem _ h)
        simp
        omega
theorem splitD_cnt : ∀ (s : Bs), (splitD s).length ≤ s.length + 1
  | [] => by simp [splitD]
  | c :: r => by
    have ih := splitD_cnt r
    unfold splitD
    split
    · simp; omega
    · obtain ⟨y, ys, hy⟩ := splitD_cons r
      rw [hy] at ih ⊢
      simp at ih ⊢
      omega
theorem splitD_mem : ∀ (s x : Bs), x ∈ splitD s → ∀ c ∈ x, c ∈ s
  | [], x, h => by
    simp [splitD] at h
    subst h
    intro c hc
    cases hc
  | c :: r, x, h => by
    unfold splitD at h
    intro d hd
    split at h
    · rcases List.mem_cons.1 h with rfl | h
      · cases hd
      · exact List.mem_cons_of_mem _ (splitD_mem r x h d hd)
    · obtain ⟨y, ys, hy⟩ := splitD_cons r
      rw [hy] at h
      rcases List.mem_cons.1 h with rfl | h
      · rcases List.mem_cons.1 hd with rfl | hd
        · exact List.mem_cons_self
        · exact List.mem_cons_of_mem _ (splitD_mem r y (by rw [hy]; exact List.mem_cons_self) d hd)
      · exact List.mem_cons_of_mem _ (splitD_mem r x (by rw [hy]; exact List.mem_cons_of_mem _ h) d hd)
end Go.Proofs.YtnhlnhmjnnopaaaGreatDoor

/- The document's tag of a text is the program's. No program stands here. -/
namespace Go.Proofs.YtnhlnhmjnnopaaaGreatDoor

def scrR : List Bs → Bs × List Bs
  | [] => ([], [])
  | p :: r => if p.length = 4 then (upperL (p.take 1) ++ p.drop 1, r) else ([], p :: r)
def regR : List Bs → Bs × List Bs
  | [] => ([], [])
  | p :: r => if p.length < 4 then (upperL p, r) else ([], p :: r)
def madeR (s : Bs) : TagS :=
  let ps := splitD (lowerL s)
  let a := scrR ps.tail
  let b := regR a.2
  ⟨ps.headD [], a.1, b.1, b.2⟩
def isTagR (s : Bs) : Bool := (madeR s).err == 0 && lowerL (madeR s).text == lowerL s

theorem scrR_c (p : Bs) (r : List Bs) : scrR (p :: r) = if p.length = 4 then (upperL (p.take 1) ++ p.drop 1, r) else ([], p :: r) := rfl
theorem regR_c (p : Bs) (r : List Bs) : regR (p :: r) = if p.length < 4 then (upperL p, r) else ([], p :: r) := rfl
theorem scrP_c (p : Bs) (r : List Bs) : scrP (p :: r) = if madeB lowB p 4 4 then (upperL (p.take 1) ++ p.drop 1, r) else ([], p :: r) := rfl
theorem regP_c (p : Bs) (r : List Bs) : regP (p :: r) = if regionB (upperL p) then (upperL p, r) else ([], p :: r) := rfl
theorem map_not_high (c : UInt8) : highB (mapc highB c) = false := by
  have h : ∀ n : Fin 256, highB (mapc highB (UInt8.ofNat n)) = false := by decide +kernel
  have := h ⟨c.toNat, c.toNat_lt⟩
  simpa using this
theorem low_of_up (c : UInt8) (h1 : highB c = false) (h2 : highB (mapc lowB c) = true) : lowB c = true := by
  have h : ∀ n : Fin 256, highB (UInt8.ofNat n) = false → highB (mapc lowB (UInt8.ofNat n)) = true → lowB (UInt8.ofNat n) = true := by decide +kernel
  have := h ⟨c.toNat, c.toNat_lt⟩
  simp only [UInt8.ofNat_toNat] at this
  exact this h1 h2
theorem lower_not_high (s x : Bs) (hx : x ∈ splitD (lowerL s)) : ∀ c ∈ x, highB c = false := fun c hc => by
  have := splitD_mem _ x hx c hc
  unfold lowerL at this
  obtain ⟨d, _, rfl⟩ := List.mem_map.1 this
  exact map_not_high d
theorem upper_len (x : Bs) : (upperL x).length = x.length := by unfold upperL; simp
theorem lower_len (x : Bs) : (lowerL x).length = x.length := by unfold lowerL; simp
/-- a script that is one in its place was one of small letters -/
theorem script_low {p : Bs} (hp : ∀ c ∈ p, highB c = false) (h4 : p.length = 4) (h : scriptB (upperL (p.take 1) ++ p.drop 1) = true) : madeB lowB p 4 4 = true := by
  match p, h4 with
  | [a, b, c, d], _ =>
    simp only [upperL, List.take_succ_cons, List.take_zero, List.map_cons, List.map_nil, List.drop_succ_cons, List.drop_zero, List.cons_append, List.nil_append, scriptB, List.length_cons, List.length_nil, List.getD_cons_zero, madeB, List.all_cons, List.all_nil, Bool.and_true, Bool.and_eq_true, decide_eq_true_eq] at h ⊢
    obtain ⟨_, h1, h2, _⟩ := h
    have ha := low_of_up a (hp a (by simp)) h1
    simp [ha, h2]
theorem varErr_ne {x : Bs} {vs seen : List Bs} (hx : x ∈ vs) (h : madeB bothB x 5 8 = false) : varErr seen vs ≠ 0 := fun h0 => by
  have := varErr_len vs seen h0 x hx
  rw [h] at this
  cases this
theorem made_short {x : Bs} (h : x.length < 5) : madeB bothB x 5 8 = false := by
  unfold madeB
  have : decide (5 ≤ x.length) = false := decide_eq_false (by omega)
  rw [this]
  simp
theorem err_vars {l s r : Bs} {vs : List Bs} {x : Bs} (hx : x ∈ vs) (h : x.length < 5) : tagErr l s r vs ≠ 0 := fun h0 => varErr_ne hx (made_short h) (tagErr_ok h0).2.2.2.1
theorem err_script {l s r : Bs} {vs : List Bs} (h1 : s ≠ []) (h2 : scriptB s = false) : tagErr l s r vs ≠ 0 := fun h0 => by
  rcases (tagErr_ok h0).2.1 with h | h
  · exact h1 h
  · rw [h2] at h; cases h
theorem err_region {l s r : Bs} {vs : List Bs} (h1 : r ≠ []) (h2 : regionB r = false) : tagErr l s r vs ≠ 0 := fun h0 => by
  rcases (tagErr_ok h0).2.2.1 with h | h
  · exact h1 h
  · rw [h2] at h; cases h
theorem lower_dash {x : Bs} (h : 45 ∉ x) : 45 ∉ lowerL x := fun hm => by
  unfold lowerL at hm
  obtain ⟨d, hd, e⟩ := List.mem_map.1 hm
  have h0 : ∀ n : Fin 256, mapc highB (UInt8.ofNat n) = 45 → UInt8.ofNat n = 45 := by decide +kernel
  have := h0 ⟨d.toNat, d.toNat_lt⟩
  simp only [UInt8.ofNat_toNat] at this
  exact h (this e ▸ hd)
theorem lower_join (xs : List Bs) : lowerL (Lib.join xs [45]) = Lib.join (xs.map lowerL) [45] := by
  have tail : ∀ r : List Bs, lowerL (Lib.joinTail [45] r) = Lib.joinTail [45] (r.map lowerL) := by
    intro r
    induction r with
    | nil => rfl
    | cons y r ih =>
      have e : Lib.joinTail [45] (y :: r) = 45 :: (y ++ Lib.joinTail [45] r) := by simp [Lib.joinTail]
      have e2 : Lib.joinTail [45] ((y :: r).map lowerL) = 45 :: (lowerL y ++ Lib.joinTail [45] (r.map lowerL)) := by simp [Lib.joinTail]
      rw [e, e2, ← ih]
      unfold lowerL
      rw [List.map_cons, List.map_append]
      rfl
  cases xs with
  | nil => rfl
  | cons x r =>
    rw [List.map_cons, Lib.join_cons, Lib.join_cons, ← tail]
    unfold lowerL
    rw [List.map_append]
/-- where the text is its own, no piece of it is empty -/
theorem no_empty {t : TagS} {s : Bs} (h : t.err = 0) (e : lowerL t.text = lowerL s) : [] ∉ splitD (lowerL s) := by
  have hp := parts_ne h
  have hd := parts_nodash h
  rw [← e]
  unfold TagS.text tagText
  rw [lower_join, splitD_join _ (by simpa using hp) (fun x hx => by
    obtain ⟨y, hy, rfl⟩ := List.mem_map.1 hx
    exact lower_dash (hd y hy))]
  intro hm
  obtain ⟨y, hy, e2⟩ := List.mem_map.1 hm
  have hy2 : y = [] := by
    have := congrArg List.length e2
    rw [lower_len] at this
    exact List.length_eq_zero_iff.1 this
  subst hy2
  unfold partsL at hy
  simp at hy
theorem ref_tag (s : Bs) : isTagR s = isTag s ∧ (isTag s = true → madeR s = madeT s) := by
  obtain ⟨x, ps, hps⟩ := splitD_cons (lowerL s)
  have hlow : ∀ p ∈ ps, ∀ c ∈ p, highB c = false := fun p hp => lower_not_high s p (by rw [hps]; exact List.mem_cons_of_mem _ hp)
  -- the region, once the script is the same
  have reg : ∀ (sc : Bs) (qs : List Bs), (∀ q ∈ qs, q ∈ ps) →
      (tagErr x sc (regR qs).1 (regR qs).2 = 0 ∧ lowerL (tagText x sc (regR qs).1 (regR qs).2) = lowerL s ∨ tagErr x sc (regP qs).1 (regP qs).2 = 0 ∧ lowerL (tagText x sc (regP qs).1 (regP qs).2) = lowerL s) → regR qs = regP qs := by
    intro sc qs hq h
    cases qs with
    | nil => rfl
    | cons q r =>
      rw [regR_c, regP_c] at h ⊢
      by_cases h1 : regionB (upperL q) = true
      · have hl : q.length < 4 := by have := regionB_len h1; rw [upper_len] at this; omega
        rw [if_pos h1, if_pos hl]
      · rw [if_neg h1] at h ⊢
        by_cases h2 : q.length < 4
        · rw [if_pos h2] at h ⊢
          exfalso
          rcases h with ⟨h3, h4⟩ | ⟨h3, h4⟩
          · have hq0 : q = [] := by
              rcases (tagErr_ok h3).2.2.1 with h5 | h5
              · have := congrArg List.length h5
                rw [upper_len] at this
                exact List.length_eq_zero_iff.1 this
              · exact absurd h5 h1
            have := no_empty (t := ⟨x, sc, upperL q, r⟩) h3 h4
            rw [hps] at this
            exact this (List.mem_cons_of_mem _ (hq0 ▸ hq q List.mem_cons_self))
          · exact err_vars (List.mem_cons_self) (by omega) h3
        · rw [if_neg h2]
  have scr : (madeR s).err = 0 ∨ (madeT s).err = 0 → scrR ps = scrP ps := by
    intro h
    unfold madeR madeT TagS.err at h
    rw [hps] at h
    simp only [List.tail_cons, List.headD_cons] at h
    cases ps with
    | nil => rfl
    | cons p r =>
      have hp := hlow p List.mem_cons_self
      rw [scrR_c, scrP_c] at h ⊢
      by_cases h1 : madeB lowB p 4 4 = true
      · have hl : p.length = 4 := by have := madeB_len h1; omega
        rw [if_pos h1, if_pos hl]
      · rw [if_neg h1] at h ⊢
        by_cases h2 : p.length = 4
        · rw [if_pos h2] at h ⊢
          exfalso
          rcases h with h | h
          · refine err_script ?_ ?_ h
            · intro e
              have := congrArg List.length e
              rw [List.length_append, upper_len, ← List.length_append, List.take_append_drop, h2] at this
              cases this
            · cases hb : scriptB (upperL (p.take 1) ++ p.drop 1)
              · rfl
              · exact absurd (script_low hp h2 hb) h1
          · have hr : regP (p :: r) = ([], p :: r) := by
              rw [regP_c, if_neg]
              intro h5
              have := regionB_len h5
              rw [upper_len] at this
              omega
            simp only [hr] at h
            exact err_vars List.mem_cons_self (by omega) h
        · rw [if_neg h2]
  have sub : ∀ q ∈ (scrP ps).2, q ∈ ps := by
    cases ps with
    | nil => intro q hq; simp [scrP] at hq
    | cons p r =>
      intro q hq
      rw [scrP_c] at hq
      split at hq
      · exact List.mem_cons_of_mem _ hq
      · exact hq
  have both : isTagR s = true ∨ isTag s = true → madeR s = madeT s := by
    intro h
    unfold isTagR isTag at h
    simp only [Bool.and_eq_true, beq_iff_eq] at h
    have hs := scr (h.imp And.left And.left)
    unfold madeR madeT TagS.err TagS.text at h
    unfold madeR madeT
    rw [hps] at h ⊢
    simp only [List.tail_cons, List.headD_cons] at h ⊢
    rw [hs] at h ⊢
    rw [reg (scrP ps).1 (scrP ps).2 sub h]
  refine ⟨?_, fun h => both (.inr h)⟩
  rw [Bool.eq_iff_iff]
  constructor
  · intro h
    have := both (.inl h)
    unfold isTagR at h
    unfold isTag
    rw [← this]
    exact h
  · intro h
    have := both (.inr h)
    unfold isTagR
    unfold isTag at h
    rw [this]
    exact h
end Go.Proofs.YtnhlnhmjnnopaaaGreatDoor

/- What prop.Check tells of a bundle. No program stands here. -/
namespace Go.Proofs.YtnhlnhmjnnopaaaGreatDoor

structure EntC where
  key : ByteArray
  text : ByteArray
structure BunC where
  tag : ByteArray
  es : List EntC
def keyC (c : UInt8) : Bool := lowB c || (numB c || (c == 46 || c == 95))
def keyOk (k : ByteArray) : Bool := decide (k.size ≠ 0) && (decide (k.size ≤ 40) && k.data.toList.all keyC)
def memB (l : List ByteArray) (k : ByteArray) : Bool := l.any (fun y => decide (y = k))
theorem memB_iff {l : List ByteArray} {k : ByteArray} : memB l k = true ↔ k ∈ l := by
  unfold memB
  rw [List.any_eq_true]
  exact ⟨fun ⟨x, hx, e⟩ => (of_decide_eq_true e) ▸ hx, fun h => ⟨k, h, decide_eq_true rfl⟩⟩
theorem memB_not {l : List ByteArray} {k : ByteArray} (h : k ∉ l) : memB l k = false := by
  cases hm : memB l k
  · rfl
  · exact absurd (memB_iff.1 hm) h
def entErr : List ByteArray → List EntC → Int
  | _, [] => 0
  | seen, e :: r => if keyOk e.key = false then 3 else if memB seen e.key = true then 5 else if 2000 < e.text.size then 4 else entErr (seen ++ [e.key]) r
def BunC.err (b : BunC) : Int := if ownTag b.tag.data.toList = false then 3 else if 100 < b.es.length then 4 else entErr [] b.es

theorem entErr_ok : ∀ (es : List EntC) (seen : List ByteArray), entErr seen es = 0 → (∀ e ∈ es, keyOk e.key = true ∧ e.text.size ≤ 2000 ∧ e.key ∉ seen) ∧ (es.map (·.key)).Nodup
  | [], _, _ => ⟨by simp, List.nodup_nil⟩
  | e :: r, seen, h => by
    unfold entErr at h
    split at h
    · cases h
    · rename_i h1
      split at h
      · cases h
      · rename_i h2
        split at h
        · cases h
        · rename_i h3
          obtain ⟨k1, k2⟩ := entErr_ok r (seen ++ [e.key]) h
          have hs : e.key ∉ seen := fun hm => h2 (memB_iff.2 hm)
          refine ⟨fun x hx => ?_, ?_⟩
          · rcases List.mem_cons.1 hx with rfl | hx
            · exact ⟨by simpa using h1, by omega, hs⟩
            · obtain ⟨a, b, c⟩ := k1 x hx
              exact ⟨a, b, fun hm => c (List.mem_append_left _ hm)⟩
          · rw [List.map_cons, List.nodup_cons]
            refine ⟨fun hm => ?_, k2⟩
            obtain ⟨x, hx, e2⟩ := List.mem_map.1 hm
            exact (k1 x hx).2.2 (by rw [e2]; simp)
theorem entErr_of : ∀ (es : List EntC) (seen : List ByteArray), (∀ e ∈ es, keyOk e.key = true ∧ e.text.size ≤ 2000 ∧ e.key ∉ seen) → (es.map (·.key)).Nodup → entErr seen es = 0
  | [], _, _, _ => rfl
  | e :: r, seen, h, hn => by
    rw [List.map_cons, List.nodup_cons] at hn
    obtain ⟨a, b, c⟩ := h e List.mem_cons_self
    unfold entErr
    rw [if_neg (by rw [a]; decide), if_neg (by rw [memB_not c]; decide), if_neg (by omega)]
    refine entErr_of r _ (fun x hx => ?_) hn.2
    obtain ⟨a, b, c⟩ := h x (List.mem_cons_of_mem _ hx)
    refine ⟨a, b, fun hm => ?_⟩
    rcases List.mem_append.1 hm with hm | hm
    · exact c hm
    · exact hn.1 (List.mem_map.2 ⟨x, hx, List.mem_singleton.1 hm⟩)
/-- one step of the round: entry k -/
theorem entErr_step (es : List EntC) (k : Nat) (e : EntC) (h : es[k]? = some e) :
    entErr ((es.take k).map (·.key)) (es.drop k) = if keyOk e.key = false then 3 else if memB ((es.take k).map (·.key)) e.key = true then 5 else if 2000 < e.text.size then 4 else entErr ((es.take (k + 1)).map (·.key)) (es.drop (k + 1)) := by
  obtain ⟨hk, rfl⟩ := List.getElem?_eq_some_iff.1 h
  rw [List.drop_eq_getElem_cons hk, entErr, List.take_succ_eq_append_getElem hk, List.map_append]
  rfl
theorem bun_ok {b : BunC} (h : b.err = 0) : ownTag b.tag.data.toList = true ∧ b.es.length ≤ 100 ∧ (∀ e ∈ b.es, keyOk e.key = true ∧ e.text.size ≤ 2000) ∧ (b.es.map (·.key)).Nodup := by
  unfold BunC.err at h
  split at h
  · cases h
  · rename_i h1
    split at h
    · cases h
    · rename_i h2
      obtain ⟨k1, k2⟩ := entErr_ok _ _ h
      exact ⟨by simpa using h1, by omega, fun e he => ⟨(k1 e he).1, (k1 e he).2.1⟩, k2⟩
theorem bun_of {b : BunC} (h1 : ownTag b.tag.data.toList = true) (h2 : b.es.length ≤ 100) (h3 : ∀ e ∈ b.es, keyOk e.key = true ∧ e.text.size ≤ 2000) (h4 : (b.es.map (·.key)).Nodup) : b.err = 0 := by
  unfold BunC.err
  rw [if_neg (by rw [h1]; decide), if_neg (by omega)]
  exact entErr_of _ _ (fun e he => ⟨(h3 e he).1, (h3 e he).2, by simp⟩) h4
end Go.Proofs.YtnhlnhmjnnopaaaGreatDoor

/- Entries, bundles in memory. -/
namespace Go.Proofs.YtnhlnhmjnnopaaaGreatDoor
open Go.RowKit

/-- an entry lies at a place -/
def EntAt (w : World) (b o : Nat) (x : EntC) : Prop := w.cell? ⟨b, o, none⟩ = some (.string x.key) ∧ w.cell? ⟨b, o + 1, none⟩ = some (.string x.text)
theorem EntAt.below {w w' : World} {b o : Nat} {x : EntC} (h : EntAt w b o x) (hb : Below w.heap.size w w') : EntAt w' b o x := ⟨carry hb h.1, carry hb h.2⟩
/-- entries lie there -/
def EntsIn (w : World) (A : Option Addr) (l : List EntC) : Prop :=
  l = [] ∨ ∃ b o, A = some ⟨b, o, none⟩ ∧ ∀ (j : Nat) x, l[j]? = some x → EntAt w b (o + j * 2) x
theorem EntsIn.below {w w' : World} {A : Option Addr} {l : List EntC} (h : EntsIn w A l) (hb : Below w.heap.size w w') : EntsIn w' A l := by
  rcases h with h | ⟨b, o, h1, h2⟩
  · exact .inl h
  · exact .inr ⟨b, o, h1, fun j x hx => (h2 j x hx).below hb⟩
theorem EntsIn.at {w : World} {A : Option Addr} {l : List EntC} (h : EntsIn w A l) (hp : 0 < l.length) : ∃ b o, A = some ⟨b, o, none⟩ ∧ ∀ (j : Nat) x, l[j]? = some x → EntAt w b (o + j * 2) x := by
  rcases h with h | h
  · rw [h] at hp; simp at hp
  · exact h
/-- a bundle's value, what lies behind it -/
abbrev bunV (b : BunC) (A : Option Addr) (c : Nat) : Value := .agg #[.string b.tag, .slice A b.es.length c]
def BunFine (w : World) (b : BunC) (A : Option Addr) (c : Nat) : Prop := EntsIn w A b.es ∧ b.es.length ≤ c ∧ c ≤ 9223372036854775807 ∧ (A = none → c = 0)
theorem BunFine.below {w w' : World} {b : BunC} {A : Option Addr} {c : Nat} (h : BunFine w b A c) (hb : Below w.heap.size w w') : BunFine w' b A c := ⟨h.1.below hb, h.2⟩
def BunC.small (b : BunC) : Prop := b.tag.size ≤ 1048576 ∧ b.es.length ≤ 1048576 ∧ ∀ e ∈ b.es, e.key.size ≤ 1048576 ∧ e.text.size ≤ 1048576
def BunAt (w : World) (b o : Nat) (x : BunC) : Prop := ∃ A c, w.cell? ⟨b, o, none⟩ = some (.string x.tag) ∧ w.cell? ⟨b, o + 1, none⟩ = some (.slice A x.es.length c) ∧ BunFine w x A c
theorem BunAt.below {w w' : World} {b o : Nat} {x : BunC} (h : BunAt w b o x) (hb : Below w.heap.size w w') : BunAt w' b o x := by
  obtain ⟨A, c, h1, h2, h3⟩ := h
  exact ⟨A, c, carry hb h1, carry hb h2, h3.below hb⟩
def BunsIn (w : World) (A : Option Addr) (l : List BunC) : Prop :=
  l = [] ∨ ∃ b o, A = some ⟨b, o, none⟩ ∧ ∀ (j : Nat) x, l[j]? = some x → BunAt w b (o + j * 2) x
theorem BunsIn.below {w w' : World} {A : Option Addr} {l : List BunC} (h : BunsIn w A l) (hb : Below w.heap.size w w') : BunsIn w' A l := by
  rcases h with h | ⟨b, o, h1, h2⟩
  · exact .inl h
  · exact .inr ⟨b, o, h1, fun j x hx => (h2 j x hx).below hb⟩
theorem BunsIn.at {w : World} {A : Option Addr} {l : List BunC} (h : BunsIn w A l) (hp : 0 < l.length) : ∃ b o, A = some ⟨b, o, none⟩ ∧ ∀ (j : Nat) x, l[j]? = some x → BunAt w b (o + j * 2) x := by
  rcases h with h | h
  · rw [h] at hp; simp at hp
  · exact h
end Go.Proofs.YtnhlnhmjnnopaaaGreatDoor

/- Rows of texts that are the call's own; 'append' to them. -/
namespace Go.Proofs.YtnhlnhmjnnopaaaGreatDoor
open Go.RowKit

theorem infoStr : ∃ i, Tryz.prog.info? 9 = some i ∧ i.zero = some (.string ⟨#[]⟩) ∧ i.size = 1 ∧ i.bytes = 16 := by
  have h : (Tryz.prog.info? 9).map (fun i => (i.zero, i.size, i.bytes)) = some (some (.string ⟨#[]⟩), 1, 16) := by kernel_rfl
  obtain ⟨i, hi, h2⟩ := Option.map_eq_some_iff.1 h
  simp only [Prod.mk.injEq] at h2
  exact ⟨i, hi, h2.1, h2.2.1, h2.2.2⟩

/-- A row of texts that is the call's own. -/
def OwnsS (w : World) (base : Nat) (v : Value) (xs : List ByteArray) : Prop := w.ownsRow base 9 1 v xs.length (xs.map .string)

theorem OwnsS.nil (w : World) (base : Nat) : OwnsS w base (.slice none 0 0) [] := World.ownsRow_nil w base _ 1
theorem OwnsS.alloc {w : World} {base : Nat} {v : Value} {xs : List ByteArray} (h : OwnsS w base v xs) (o : Obj) : OwnsS (w.alloc o) base v xs := World.ownsRow.alloc h o
theorem OwnsS.drewN {w : World} {base : Nat} {v : Value} {xs : List ByteArray} (h : OwnsS w base v xs) (k : Nat) : OwnsS (w.drewN k) base v xs := h
theorem OwnsS.off {w w' : World} {base : Nat} {v : Value} {xs : List ByteArray} {l : List Nat} (h : OwnsS w base v xs) (hb : Off l w w') (hl : ∀ k, v.ownBlock = some k → k ∉ l) : OwnsS w' base v xs := by
  refine ⟨h.1, ?_⟩
  rcases h.2 with h2 | ⟨g, cap, cur, rfl, h3, h4, h5⟩
  · exact .inl h2
  · refine .inr ⟨g, cap, cur, rfl, h3, ?_, h5⟩
    rw [hb.block g (by have := (Array.getElem?_eq_some_iff.1 h4).1; omega) (hl g rfl)]
    exact h4
theorem OwnsS.below {w w' : World} {base : Nat} {v : Value} {xs : List ByteArray} (h : OwnsS w base v xs) (hb : Below w.heap.size w w') : OwnsS w' base v xs :=
  h.off ((Off.refl [] w).below hb (Nat.le_refl _)) (fun k _ => by simp)
theorem OwnsS.base {w : World} {base b' : Nat} {v : Value} {xs : List ByteArray} (h : OwnsS w base v xs) (hb : b' ≤ base) : OwnsS w b' v xs := by
  refine ⟨h.1, ?_⟩
  rcases h.2 with h2 | ⟨g, cap, cur, h1, h3, h4⟩
  · exact .inl h2
  · exact .inr ⟨g, cap, cur, h1, by omega, h4⟩
/-- Its form, and its texts to be read. -/
theorem OwnsS.form {w : World} {base : Nat} {v : Value} {xs : List ByteArray} (h : OwnsS w base v xs) : ∃ A c, v = .slice A xs.length c ∧ (A = none → c = 0) ∧ StrsIn w A xs ∧ (∀ g, v.ownBlock = some g → base ≤ g ∧ g < w.heap.size) := by
  refine h.2.elim (fun ⟨h1, h2⟩ => ?_) (fun ⟨g, cap, cur, h1, h3, h4, h5⟩ => ?_)
  · obtain rfl : xs = [] := List.length_eq_zero_iff.1 h2
    exact ⟨none, 0, h1, fun _ => rfl, .inl rfl, fun g hg => by rw [h1] at hg; cases hg⟩
  · refine ⟨some ⟨g, 0, none⟩, cap, h1, (fun h => by cases h), .inr ⟨g, 0, rfl, fun j x hx => ?_⟩, fun g' hg => ?_⟩
    · have := World.ownsRow.cells h (g := g) (by rw [h1]; rfl) j (.string x) (by rw [List.getElem?_map, hx]; rfl)
      rw [Go.WideShapes.add_plain] at this
      exact this
    · rw [h1] at hg
      cases hg
      exact ⟨h3, (Array.getElem?_eq_some_iff.1 h4).1⟩

theorem OwnsS.strs {w : World} {base : Nat} {A : Option Addr} {n c : Nat} {xs : List ByteArray} (h : OwnsS w base (.slice A n c) xs) : StrsIn w A xs := by
  obtain ⟨A', c', h1, _, h2, _⟩ := h.form
  cases h1
  exact h2
theorem OwnsS.lit (w : World) {base : Nat} (hb : base ≤ w.heap.size) : OwnsS (w.alloc (.cells #[] 9)) base (.slice (some ⟨w.heap.size, 0, none⟩) 0 0) [] :=
  World.ownsRow_lit w #[] 0 hb (by simp [maxLen]) rfl

theorem grown_off {w w' : World} {row : Option Nat} {l : List Nat} (h : w.grownBy w' row) (hl : ∀ k, row = some k → k ∈ l) : Off l w w' :=
  ⟨h.os, h.tape, h.output, h.size, fun k hk hn => h.block k hk (fun e => hn (hl k e.symm))⟩

theorem StrsIn.one {w : World} {b : Nat} {x : ByteArray} (h : w.cell? ⟨b, 0, none⟩ = some (.string x)) : StrsIn w (some ⟨b, 0, none⟩) [x] :=
  .inr ⟨b, 0, rfl, fun j y hj => by
    cases j with
    | zero => simp at hj; subst hj; exact h
    | succ j => simp at hj⟩

/-- A row of texts behind them. -/
theorem append_many {w : World} {base : Nat} {v : Value} {xs ys : List ByteArray} {A : Option Addr} {c : Nat} (h : OwnsS w base v xs) (hy : StrsIn w A ys) (hA : A = none → c = 0) (ty : TypeId) (hb : base ≤ w.heap.size) (hn : xs.length + ys.length ≤ 8000000000000) :
    ∃ v' w', (Builtin.append_ #[30, 30] ty #[v, .slice A ys.length c]).run Tryz.prog w = .ok v' w' ∧
      OwnsS w' base v' (xs ++ ys) ∧ Off v.ownBlock.toList w w' := by
  obtain ⟨i, hi, hz, hsz, hby⟩ := infoStr
  cases A with
  | none =>
    obtain rfl := hA rfl
    obtain rfl : ys = [] := by
      rcases hy with h1 | ⟨b, o, h1, _⟩
      · exact h1
      · cases h1
    exact ⟨v, w, run_append_owned_none w base 30 ty 9 i 1 Tryz.underlying30 hi v xs.length _ h, by rw [List.append_nil]; exact h, Off.refl _ _⟩
  | some a =>
    obtain ⟨v', w', h1, h2, h3, _⟩ := run_append_own (P := Tryz.prog) w base 30 ty 9 i (.string ⟨#[]⟩) 1 16 Tryz.underlying30 hi hz hsz hby rfl (by omega) v xs.length _ h
      a ys.length c (ys.map .string) (by simp) (fun j u hj => by
        rcases hy with h1 | ⟨b, o, h1, h2⟩
        · subst h1; simp at hj
        · cases h1
          rw [List.getElem?_map, Option.map_eq_some_iff] at hj
          obtain ⟨x, hx, rfl⟩ := hj
          rw [Go.WideShapes.add_plain]
          exact h2 j x hx) (by simp [Value.oneCell']) (by simp [maxLen]; omega) (by omega) hb
    refine ⟨v', w', h1, ?_, grown_off h3 fun k hk => by simp [hk]⟩
    unfold OwnsS
    rw [List.map_append, List.length_append]
    exact h2

theorem OwnsS.grown {wa wb : World} {base : Nat} {v : Value} {xs : List ByteArray} (h : OwnsS wa base v xs) (hoff : Off v.ownBlock.toList wa wb) (hb : base ≤ wa.heap.size) : Below base wa wb := by
  obtain ⟨A, c, _, _, _, hl⟩ := h.form
  exact hoff.toBelow (fun k hk => (hl k (by simpa using hk)).1) hb

/-- An 'append' of a row of texts, in a walk. -/
theorem wpList_append_many {w : World} {ops : Array Oper} {rest : List Oper} {o : Oper} {a : Act} {Q : Exit → Act → World → Prop} (hgd : o.guard = none) (s x : Operand)
    (ho : o.op = .call { callee := .builtin .append, args := #[s, x], argTypes := #[30, 30] }) {base : Nat} {v : Value} {xs ys : List ByteArray} {A : Option Addr} {c : Nat}
    (hs : a.eval s = v) (hx : a.eval x = .slice A ys.length c) (hown : OwnsS w base v xs) (hy : StrsIn w A ys) (hA : A = none → c = 0) (hb : base ≤ w.heap.size) (hn : xs.length + ys.length ≤ 8000000000000)
    (h : ∀ v' w', OwnsS w' base v' (xs ++ ys) → Off v.ownBlock.toList w w' → wpList Tryz.prog ops Q rest (a.put o.dst v') w') : wpList Tryz.prog ops Q (o :: rest) a w := by
  refine wpList_plain hgd fun K hK => ?_
  obtain ⟨v', w', hr, h2, h3⟩ := append_many hown hy hA o.type hb hn
  unfold Oper.wp execOp
  simp only [ho, resolve, invoke, builtin, Sem.run_bind, Sem.run_pure, Result.andThen_ok, List.map_toArray, List.map_cons, List.map_nil, hs, hx, hr]
  exact hK _ _ (h v' w' h2 h3)
theorem wpList_append_one {w : World} {ops : Array Oper} {rest : List Oper} {o : Oper} {a : Act} {Q : Exit → Act → World → Prop} (hgd : o.guard = none) (s x : Operand)
    (ho : o.op = .call { callee := .builtin .append, args := #[s, x], argTypes := #[30, 30] }) {base : Nat} {v : Value} {xs : List ByteArray} {b : Nat} (y : ByteArray)
    (hs : a.eval s = v) (hx : a.eval x = .slice (some ⟨b, 0, none⟩) 1 1) (hown : OwnsS w base v xs) (hy : w.cell? ⟨b, 0, none⟩ = some (.string y)) (hb : base ≤ w.heap.size) (hn : xs.length ≤ 7000000000000)
    (h : ∀ v' w', OwnsS w' base v' (xs ++ [y]) → Off v.ownBlock.toList w w' → wpList Tryz.prog ops Q rest (a.put o.dst v') w') : wpList Tryz.prog ops Q (o :: rest) a w :=
  wpList_append_many hgd s x ho (ys := [y]) hs hx hown (StrsIn.one hy) (fun h => by cases h) hb (by simp; omega) h

end Go.Proofs.YtnhlnhmjnnopaaaGreatDoor

/- Rows of things of several cells that are the call's own. -/
namespace Go.Proofs.YtnhlnhmjnnopaaaGreatDoor
open Go.RowKit

/-- what a type's row is made of: its number, its size, its bytes, its zero -/
structure Kind (α : Type) where
  e : TypeId
  sl : TypeId
  size : Nat
  bytes : Nat
  cells : α → List Value
  zero : Value
  hsl : Tryz.prog.underlying sl = some (.slice e)
  hi : ∃ i, Tryz.prog.info? e = some i ∧ i.zero = some zero ∧ i.size = size ∧ i.bytes = bytes
  hzs : zero.cells.size = size
  hpos : 0 < size
  hlen : ∀ t, (cells t).length = size
  hone : ∀ t, ∀ u ∈ cells t, u.oneCell' = true

variable {α : Type} (k : Kind α)
def rowCells (ts : List α) : List Value := (ts.map k.cells).flatten
theorem rowCells_at (ts : List α) : ∀ (j : Nat) t i v, ts[j]? = some t → (k.cells t)[i]? = some v → (rowCells k ts)[j * k.size + i]? = some v := by
  induction ts with
  | nil => intro j t i v h; simp at h
  | cons x r ih =>
    intro j t i v h hv
    unfold rowCells at *
    rw [List.map_cons, List.flatten_cons]
    have hx := k.hlen x
    cases j with
    | zero =>
      simp at h
      subst h
      have hi : i < k.size := by have := (List.getElem?_eq_some_iff.1 hv).1; rw [hx] at this; exact this
      rw [Nat.zero_mul, Nat.zero_add, List.getElem?_append_left (by rw [hx]; exact hi)]
      exact hv
    | succ j =>
      simp only [List.getElem?_cons_succ] at h
      rw [List.getElem?_append_right (by rw [hx, Nat.succ_mul]; omega), hx, show (j + 1) * k.size + i - k.size = j * k.size + i by rw [Nat.succ_mul]; omega]
      exact ih j t i v h hv

/-- A row that is the call's own. -/
def OwnsG (w : World) (base : Nat) (v : Value) (ts : List α) : Prop := w.ownsRow base k.e k.size v ts.length (rowCells k ts)
variable {k}
theorem OwnsG.nil (w : World) (base : Nat) : OwnsG k w base (.slice none 0 0) [] := World.ownsRow_nil w base _ _
theorem OwnsG.alloc {w : World} {base : Nat} {v : Value} {ts : List α} (h : OwnsG k w base v ts) (o : Obj) : OwnsG k (w.alloc o) base v ts := World.ownsRow.alloc h o
/-- it stays where its own block stays -/
theorem OwnsG.kept {w w' : World} {base : Nat} {v : Value} {ts : List α} (h : OwnsG k w base v ts) (hb : ∀ g cur, v.ownBlock = some g → w.heap[g]? = some (.cells cur k.e (0, 0)) → w'.heap[g]? = w.heap[g]?) : OwnsG k w' base v ts := by
  refine ⟨h.1, ?_⟩
  rcases h.2 with h2 | ⟨g, cap, cur, rfl, h3, h4, h5⟩
  · exact .inl h2
  · exact .inr ⟨g, cap, cur, rfl, h3, by rw [hb g cur rfl h4]; exact h4, h5⟩
theorem OwnsG.off {w w' : World} {base : Nat} {v : Value} {ts : List α} {l : List Nat} (h : OwnsG k w base v ts) (hb : Off l w w') (hl : ∀ g, v.ownBlock = some g → g ∉ l) : OwnsG k w' base v ts :=
  h.kept (fun g cur hg hc => hb.block g (Array.getElem?_eq_some_iff.1 hc).1 (hl g hg))
theorem OwnsG.below {w w' : World} {base : Nat} {v : Value} {ts : List α} (h : OwnsG k w base v ts) (hb : Below w.heap.size w w') : OwnsG k w' base v ts :=
  h.kept (fun g cur _ hc => hb.block g (Array.getElem?_eq_some_iff.1 hc).1)
theorem OwnsG.base {w : World} {base b' : Nat} {v : Value} {ts : List α} (h : OwnsG k w base v ts) (hb : b' ≤ base) : OwnsG k w b' v ts := by
  refine ⟨h.1, ?_⟩
  rcases h.2 with h2 | ⟨g, cap, cur, h1, h3, h4⟩
  · exact .inl h2
  · exact .inr ⟨g, cap, cur, h1, by omega, h4⟩
theorem OwnsG.form {w : World} {base : Nat} {v : Value} {ts : List α} (h : OwnsG k w base v ts) : ∃ A c, v = .slice A ts.length c ∧ ts.length ≤ c ∧ c ≤ 9223372036854775807 ∧ (A = none → c = 0) ∧
    (ts = [] ∨ ∃ g, A = some ⟨g, 0, none⟩ ∧ base ≤ g ∧ g < w.heap.size ∧ ∀ (j : Nat) t i u, ts[j]? = some t → (k.cells t)[i]? = some u → w.cell? ⟨g, j * k.size + i, none⟩ = some u) := by
  rcases h.2 with ⟨h1, h2⟩ | ⟨g, cap, cur, rfl, h3, h4, h5, h6, _⟩
  · obtain rfl : ts = [] := List.length_eq_zero_iff.1 h2
    exact ⟨none, 0, h1, Nat.le_refl _, by omega, fun _ => rfl, .inl rfl⟩
  · refine ⟨some ⟨g, 0, none⟩, cap, rfl, h5, h6, (fun h => by cases h), .inr ⟨g, rfl, h3, (Array.getElem?_eq_some_iff.1 h4).1, fun j t i u ht hu => ?_⟩⟩
    have := World.ownsRow.cells h (g := g) rfl (j * k.size + i) u (rowCells_at k ts j t i u ht hu)
    rw [Go.WideShapes.add_plain, Nat.zero_add] at this
    exact this
/-- its own block holds things of its type alone -/
theorem OwnsG.block {w : World} {base : Nat} {v : Value} {ts : List α} (h : OwnsG k w base v ts) : ∀ g ∈ v.ownBlock.toList, base ≤ g ∧ ∃ cur, w.heap[g]? = some (.cells cur k.e (0, 0)) := by
  intro g hg
  rcases h.2 with ⟨h2, _⟩ | ⟨g', cap, cur, rfl, h3, h4, h5⟩
  · rw [h2] at hg; simp [Value.ownBlock] at hg
  · simp [Value.ownBlock] at hg
    subst hg
    exact ⟨h3, cur, h4⟩

theorem append_g {w : World} {base : Nat} {v : Value} {ts : List α} {b c : Nat} (t : α) (h : OwnsG k w base v ts) (hc : ∀ i u, (k.cells t)[i]? = some u → w.cell? ⟨b, i, none⟩ = some u) (ty : TypeId) (hb : base ≤ w.heap.size) (hn : (ts.length + 1) * k.bytes ≤ 140737488355328) (hn2 : ts.length + 1 ≤ 9223372036854775807) :
    ∃ v' w', (Builtin.append_ #[k.sl, k.sl] ty #[v, .slice (some ⟨b, 0, none⟩) 1 c]).run Tryz.prog w = .ok v' w' ∧ OwnsG k w' base v' (ts ++ [t]) ∧ Off v.ownBlock.toList w w' := by
  obtain ⟨i, hi, hz, hsz, hby⟩ := k.hi
  obtain ⟨v', w', h1, h2, h3, _, _⟩ := run_append_own_at (P := Tryz.prog) w base k.sl ty k.e i _ k.size k.bytes k.hsl hi hz hsz hby k.hzs k.hpos v ts.length _ h
    ⟨b, 0, none⟩ 1 c (k.cells t) (by rw [k.hlen, Nat.one_mul]) (fun j u hj => by rw [Go.WideShapes.add_plain, Nat.zero_add]; exact hc j u hj)
    (k.hone t) hn2 hn hb
  refine ⟨v', w', h1, ?_, grown_off h3 (fun k hk => by simp [hk])⟩
  unfold OwnsG
  rw [List.length_append]
  have e : rowCells k (ts ++ [t]) = rowCells k ts ++ k.cells t := by unfold rowCells; simp
  rw [e]
  exact h2

/-- AT THE OPERATION, in a round too. -/
theorem operIn_append_g {F : Fence} {n : Nat} {w : World} {o : Oper} {a : Act} {K : Act → World → Prop} {Q : Exit → Act → World → Prop} (s x : Operand)
    (ho : o.op = .call { callee := .builtin .append, args := #[s, x], argTypes := #[k.sl, k.sl] }) {base : Nat} {v : Value} {ts : List α} {b c : Nat} (t : α)
    (hs : a.eval s = v) (hx : a.eval x = .slice (some ⟨b, 0, none⟩) 1 c) (hown : OwnsG k w base v ts) (hc : ∀ i u, (k.cells t)[i]? = some u → w.cell? ⟨b, i, none⟩ = some u) (hb : base ≤ w.heap.size) (hn : (ts.length + 1) * k.bytes ≤ 140737488355328) (hn2 : ts.length + 1 ≤ 9223372036854775807)
    (h : ∀ v' w', OwnsG k w' base v' (ts ++ [t]) → Off v.ownBlock.toList w w' → K (a.put o.dst v') w') : o.wpIn F n Tryz.prog a w K Q := by
  obtain ⟨v', w', hrun, r1, r2⟩ := append_g (c := c) t hown hc o.type hb hn hn2
  unfold Oper.wpIn
  refine ⟨?_, ?_⟩
  · simp [Oper.about, ho, resolve, Target.leads, Sem.run_pure]
  · rw [Oper.semAt_plain F _ _ (by rw [ho]; intro c hc'; cases hc')]
    simp [execOp, ho, resolve, invoke, builtin, hs, hx, hrun, Result.andThen]
    exact h v' w' r1 r2
theorem wpListIn_append_g {F : Fence} {n : Nat} {w : World} {ops : Array Oper} {rest : List Oper} {o : Oper} {a : Act} {Q : Exit → Act → World → Prop} (hgd : o.guard = none) (s x : Operand)
    (ho : o.op = .call { callee := .builtin .append, args := #[s, x], argTypes := #[k.sl, k.sl] }) {base : Nat} {v : Value} {ts : List α} {b c : Nat} (t : α)
    (hs : a.eval s = v) (hx : a.eval x = .slice (some ⟨b, 0, none⟩) 1 c) (hown : OwnsG k w base v ts) (hc : ∀ i u, (k.cells t)[i]? = some u → w.cell? ⟨b, i, none⟩ = some u) (hb : base ≤ w.heap.size) (hn : (ts.length + 1) * k.bytes ≤ 140737488355328) (hn2 : ts.length + 1 ≤ 9223372036854775807)
    (h : ∀ v' w', OwnsG k w' base v' (ts ++ [t]) → Off v.ownBlock.toList w w' → wpListIn F n Tryz.prog ops Q rest (a.put o.dst v') w') : wpListIn F n Tryz.prog ops Q (o :: rest) a w :=
  wpListIn_plain hgd fun _ hK => operIn_append_g s x ho t hs hx hown hc hb hn hn2 (fun v' w' h1 h2 => hK _ _ (h v' w' h1 h2))
end Go.Proofs.YtnhlnhmjnnopaaaGreatDoor

/- A row appended to a row that is the call's own. -/
namespace Go.Proofs.YtnhlnhmjnnopaaaGreatDoor
open Go.RowKit

variable {α : Type} {k : Kind α}
theorem rowCells_length (ts : List α) : (rowCells k ts).length = ts.length * k.size := by
  induction ts with
  | nil => simp [rowCells]
  | cons x r ih =>
    unfold rowCells at *
    rw [List.map_cons, List.flatten_cons, List.length_append, ih, k.hlen, List.length_cons, Nat.succ_mul]
    omega
theorem rowCells_inv (ts : List α) : ∀ (j : Nat) u, (rowCells k ts)[j]? = some u → ∃ q t i, j = q * k.size + i ∧ ts[q]? = some t ∧ (k.cells t)[i]? = some u := by
  induction ts with
  | nil => intro j u h; simp [rowCells] at h
  | cons x r ih =>
    intro j u h
    unfold rowCells at *
    rw [List.map_cons, List.flatten_cons] at h
    by_cases hj : j < k.size
    · rw [List.getElem?_append_left (by rw [k.hlen]; exact hj)] at h
      exact ⟨0, x, j, by simp, rfl, h⟩
    · rw [List.getElem?_append_right (by rw [k.hlen]; omega), k.hlen] at h
      obtain ⟨q, t, i, h1, h2, h3⟩ := ih _ _ h
      exact ⟨q + 1, t, i, by rw [Nat.succ_mul]; omega, by simpa using h2, h3⟩
theorem rowCells_one (ts : List α) : ∀ u ∈ rowCells k ts, u.oneCell' = true := by
  intro u hu
  obtain ⟨j, hj⟩ := List.mem_iff_getElem?.1 hu
  obtain ⟨q, t, i, _, _, h3⟩ := rowCells_inv ts j u hj
  exact k.hone t u (List.mem_of_getElem? h3)
theorem rowCells_append (a b : List α) : rowCells k (a ++ b) = rowCells k a ++ rowCells k b := by unfold rowCells; simp

/-- a row lies there -/
def LiesG (k : Kind α) (w : World) (A : Option Addr) (ys : List α) : Prop :=
  ys = [] ∨ ∃ b o, A = some ⟨b, o, none⟩ ∧ ∀ (j : Nat) t i u, ys[j]? = some t → (k.cells t)[i]? = some u → w.cell? ⟨b, o + j * k.size + i, none⟩ = some u
theorem LiesG.below {w w' : World} {A : Option Addr} {ys : List α} (h : LiesG k w A ys) (hb : Below w.heap.size w w') : LiesG k w' A ys := by
  rcases h with h | ⟨b, o, h1, h2⟩
  · exact .inl h
  · exact .inr ⟨b, o, h1, fun j t i u ht hu => carry hb (h2 j t i u ht hu)⟩

theorem append_manyG {w : World} {base : Nat} {v : Value} {ts ys : List α} {A : Option Addr} {c : Nat} (h : OwnsG k w base v ts) (hy : LiesG k w A ys) (hA : A = none → c = 0) (ty : TypeId) (hb : base ≤ w.heap.size) (hn : (ts.length + ys.length) * k.bytes ≤ 140737488355328) (hn2 : ts.length + ys.length ≤ 9223372036854775807) :
    ∃ v' w', (Builtin.append_ #[k.sl, k.sl] ty #[v, .slice A ys.length c]).run Tryz.prog w = .ok v' w' ∧ OwnsG k w' base v' (ts ++ ys) ∧ Off v.ownBlock.toList w w' := by
  obtain ⟨i, hi, hz, hsz, hby⟩ := k.hi
  cases A with
  | none =>
    obtain rfl := hA rfl
    obtain rfl : ys = [] := by
      rcases hy with h1 | ⟨b, o, h1, _⟩
      · exact h1
      · cases h1
    exact ⟨v, w, run_append_owned_none w base k.sl ty k.e i k.size k.hsl hi v ts.length _ h, by rw [List.append_nil]; exact h, Off.refl _ _⟩
  | some a =>
    obtain ⟨v', w', h1, h2, h3, _⟩ := run_append_own (P := Tryz.prog) w base k.sl ty k.e i _ k.size k.bytes k.hsl hi hz hsz hby k.hzs k.hpos v ts.length _ h
      a ys.length c (rowCells k ys) (rowCells_length ys) (fun j u hj => by
        rcases hy with h1 | ⟨b, o, h1, h2⟩
        · subst h1; simp [rowCells] at hj
        · cases h1
          obtain ⟨q, t, i, rfl, ht, hu⟩ := rowCells_inv ys j u hj
          rw [Go.WideShapes.add_plain, ← Nat.add_assoc]
          exact h2 q t i u ht hu) (rowCells_one ys) hn2 hn hb
    refine ⟨v', w', h1, ?_, grown_off h3 fun k hk => by simp [hk]⟩
    unfold OwnsG
    rw [List.length_append, rowCells_append]
    exact h2
theorem wpList_append_manyG {w : World} {ops : Array Oper} {rest : List Oper} {o : Oper} {a : Act} {Q : Exit → Act → World → Prop} (hgd : o.guard = none) (s x : Operand)
    (ho : o.op = .call { callee := .builtin .append, args := #[s, x], argTypes := #[k.sl, k.sl] }) {base : Nat} {v : Value} {ts ys : List α} {A : Option Addr} {c : Nat}
    (hs : a.eval s = v) (hx : a.eval x = .slice A ys.length c) (hown : OwnsG k w base v ts) (hy : LiesG k w A ys) (hA : A = none → c = 0) (hb : base ≤ w.heap.size) (hn : (ts.length + ys.length) * k.bytes ≤ 140737488355328) (hn2 : ts.length + ys.length ≤ 9223372036854775807)
    (h : ∀ v' w', OwnsG k w' base v' (ts ++ ys) → Off v.ownBlock.toList w w' → wpList Tryz.prog ops Q rest (a.put o.dst v') w') : wpList Tryz.prog ops Q (o :: rest) a w := by
  refine wpList_plain hgd fun K hK => ?_
  obtain ⟨v', w', hr, h2, h3⟩ := append_manyG hown hy hA o.type hb hn hn2
  unfold Oper.wp execOp
  simp only [ho, resolve, invoke, builtin, Sem.run_bind, Sem.run_pure, Result.andThen_ok, List.map_toArray, List.map_cons, List.map_nil, hs, hx, hr]
  exact hK _ _ (h v' w' h2 h3)
theorem OwnsG.grown {wa wb : World} {base : Nat} {v : Value} {ts : List α} (h : OwnsG k wa base v ts) (hoff : Off v.ownBlock.toList wa wb) (hb : base ≤ wa.heap.size) : Below base wa wb :=
  hoff.toBelow (fun g hg => (h.block g hg).1) hb
end Go.Proofs.YtnhlnhmjnnopaaaGreatDoor

/- A row of one's own: one cell of one thing turned; append that tells where the row lies then. -/
namespace Go.Proofs.YtnhlnhmjnnopaaaGreatDoor
open Go.RowKit

variable {α : Type} {k : Kind α}
theorem rowCells_set (ts : List α) : ∀ (i p : Nat) (t' : α) (u : Value), i < ts.length → p < k.size → (∀ t, ts[i]? = some t → k.cells t' = (k.cells t).set p u) → rowCells k (ts.set i t') = (rowCells k ts).set (i * k.size + p) u := by
  induction ts with
  | nil => intro i p t' u h; simp at h
  | cons x r ih =>
    intro i p t' u hi hp h
    unfold rowCells at *
    cases i with
    | zero =>
      rw [List.set_cons_zero, List.map_cons, List.map_cons, List.flatten_cons, List.flatten_cons, h x rfl, Nat.zero_mul, Nat.zero_add, List.set_append_left _ _ (by rw [k.hlen]; exact hp)]
    | succ i =>
      rw [List.set_cons_succ, List.map_cons, List.map_cons, List.flatten_cons, List.flatten_cons, ih i p t' u (by simpa using hi) hp (fun t ht => h t (by simpa using ht)), List.set_append_right _ _ (by rw [k.hlen, Nat.succ_mul]; omega), k.hlen, Nat.succ_mul]
      congr 2
      omega
theorem OwnsG.turnAt {w : World} {base g n c : Nat} {ts : List α} (h : OwnsG k w base (.slice (some ⟨g, 0, none⟩) n c) ts) (i p : Nat) (t' : α) (u : Value) (hi : i < ts.length) (hp : p < k.size) (ht : ∀ t, ts[i]? = some t → k.cells t' = (k.cells t).set p u) :
    OwnsG k (w.setCell ⟨g, i * k.size + p, none⟩ u) base (.slice (some ⟨g, 0, none⟩) n c) (ts.set i t') := by
  obtain ⟨A, c', he, _⟩ := h.form
  have hn : n = ts.length := by injection he with _ h1 _
  subst hn
  unfold OwnsG at *
  rw [List.length_set, rowCells_set ts i p t' u hi hp ht]
  exact (World.ownsRow.stored h (i * k.size + p) u).1
theorem OwnsG.frozen {w : World} {base g n c : Nat} {ts : List α} (h : OwnsG k w base (.slice (some ⟨g, 0, none⟩) n c) ts) (j : Nat) : w.frozen? ⟨g, j, none⟩ = false := by
  obtain ⟨A, c', he, _⟩ := h.form
  have hn : n = ts.length := by injection he with _ h1 _
  subst hn
  exact World.ownsRow.frozenAt h j
theorem OwnsG.cells {w : World} {base g n c : Nat} {ts : List α} (h : OwnsG k w base (.slice (some ⟨g, 0, none⟩) n c) ts) {j : Nat} {t : α} (ht : ts[j]? = some t) {i : Nat} {u : Value} (hu : (k.cells t)[i]? = some u) : w.cell? ⟨g, j * k.size + i, none⟩ = some u := by
  obtain ⟨A, c', he, _, _, _, h5⟩ := h.form
  injection he with e1 _ _
  rcases h5 with h5 | ⟨g', h6, _, _, h7⟩
  · rw [h5] at ht; simp at ht
  · rw [h6] at e1
    cases e1
    exact h7 j t i u ht hu

/-- where an appended row lies -/
theorem append_gB {w : World} {base : Nat} {v : Value} {ts : List α} {b c : Nat} (t : α) (h : OwnsG k w base v ts) (hc : ∀ i u, (k.cells t)[i]? = some u → w.cell? ⟨b, i, none⟩ = some u) (ty : TypeId) (hb : base ≤ w.heap.size) (hn : (ts.length + 1) * k.bytes ≤ 140737488355328) (hn2 : ts.length + 1 ≤ 9223372036854775807) :
    ∃ v' w', (Builtin.append_ #[k.sl, k.sl] ty #[v, .slice (some ⟨b, 0, none⟩) 1 c]).run Tryz.prog w = .ok v' w' ∧ OwnsG k w' base v' (ts ++ [t]) ∧ Off v.ownBlock.toList w w' ∧ (v'.ownBlock = v.ownBlock ∨ v'.ownBlock = some w.heap.size) := by
  obtain ⟨i, hi, hz, hsz, hby⟩ := k.hi
  obtain ⟨v', w', h1, h2, h3, _, h5⟩ := run_append_own_at (P := Tryz.prog) w base k.sl ty k.e i _ k.size k.bytes k.hsl hi hz hsz hby k.hzs k.hpos v ts.length _ h
    ⟨b, 0, none⟩ 1 c (k.cells t) (by rw [k.hlen, Nat.one_mul]) (fun j u hj => by rw [Go.WideShapes.add_plain, Nat.zero_add]; exact hc j u hj)
    (k.hone t) hn2 hn hb
  refine ⟨v', w', h1, ?_, grown_off h3 (fun k hk => by simp [hk]), h5⟩
  unfold OwnsG
  rw [List.length_append]
  have e : rowCells k (ts ++ [t]) = rowCells k ts ++ k.cells t := by unfold rowCells; simp
  rw [e]
  exact h2
theorem wpList_append_gB {w : World} {ops : Array Oper} {rest : List Oper} {o : Oper} {a : Act} {Q : Exit → Act → World → Prop} (hgd : o.guard = none) (s x : Operand)
    (ho : o.op = .call { callee := .builtin .append, args := #[s, x], argTypes := #[k.sl, k.sl] }) {base : Nat} {v : Value} {ts : List α} {b c : Nat} (t : α)
    (hs : a.eval s = v) (hx : a.eval x = .slice (some ⟨b, 0, none⟩) 1 c) (hown : OwnsG k w base v ts) (hc : ∀ i u, (k.cells t)[i]? = some u → w.cell? ⟨b, i, none⟩ = some u) (hb : base ≤ w.heap.size) (hn : (ts.length + 1) * k.bytes ≤ 140737488355328) (hn2 : ts.length + 1 ≤ 9223372036854775807)
    (h : ∀ v' w', OwnsG k w' base v' (ts ++ [t]) → Off v.ownBlock.toList w w' → (v'.ownBlock = v.ownBlock ∨ v'.ownBlock = some w.heap.size) → wpList Tryz.prog ops Q rest (a.put o.dst v') w') : wpList Tryz.prog ops Q (o :: rest) a w := by
  refine wpList_plain hgd fun K hK => ?_
  obtain ⟨v', w', hr, h2, h3, h4⟩ := append_gB (c := c) t hown hc o.type hb hn hn2
  unfold Oper.wp execOp
  simp only [ho, resolve, invoke, builtin, Sem.run_bind, Sem.run_pure, Result.andThen_ok, List.map_toArray, List.map_cons, List.map_nil, hs, hx, hr]
  exact hK _ _ (h v' w' h2 h3 h4)
/-- at a step of a region that draws its order -/
theorem step_append_gB {w : World} {ops : Array Oper} {o : Oper} {a : Act} {K : Act → World → Prop} {Q : Exit → Act → World → Prop} {E : Prop} (hgd : o.guard = none) (s x : Operand)
    (ho : o.op = .call { callee := .builtin .append, args := #[s, x], argTypes := #[k.sl, k.sl] }) {base : Nat} {v : Value} {ts : List α} {b c : Nat} (t : α)
    (hs : a.eval s = v) (hx : a.eval x = .slice (some ⟨b, 0, none⟩) 1 c) (hown : OwnsG k w base v ts) (hc : ∀ i u, (k.cells t)[i]? = some u → w.cell? ⟨b, i, none⟩ = some u) (hb : base ≤ w.heap.size) (hn : (ts.length + 1) * k.bytes ≤ 140737488355328) (hn2 : ts.length + 1 ≤ 9223372036854775807)
    (h : ∀ v' w', OwnsG k w' base v' (ts ++ [t]) → Off v.ownBlock.toList w w' → (v'.ownBlock = v.ownBlock ∨ v'.ownBlock = some w.heap.size) → K (a.put o.dst v') w') :
    if Region.wanted o (yielded ops a.tmps) = true then Oper.wp Tryz.prog o a w K Q else E := by
  have hw : Region.wanted o (yielded ops a.tmps) = true := by simp [Region.wanted, hgd]
  rw [if_pos hw]
  obtain ⟨v', w', hr, h2, h3, h4⟩ := append_gB (c := c) t hown hc o.type hb hn hn2
  unfold Oper.wp execOp
  simp only [ho, resolve, invoke, builtin, Sem.run_bind, Sem.run_pure, Result.andThen_ok, List.map_toArray, List.map_cons, List.map_nil, hs, hx, hr]
  exact h v' w' h2 h3 h4
/-- whatever block is the row's own then was so or is new -/
def Fresh (w : World) (v v' : Value) : Prop := ∀ g ∈ v'.ownBlock.toList, g ∈ v.ownBlock.toList ∨ w.heap.size ≤ g
theorem Fresh.refl (w : World) (v : Value) : Fresh w v v := fun _ h => .inl h
theorem Fresh.of {w : World} {v v' : Value} (h : v'.ownBlock = v.ownBlock ∨ v'.ownBlock = some w.heap.size) : Fresh w v v' := by
  intro g hg
  rcases h with h | h
  · rw [h] at hg; exact .inl hg
  · rw [h] at hg; simp at hg; exact .inr (by omega)
theorem Fresh.trans {w w1 : World} {v v1 v2 : Value} (h : Fresh w v v1) (k : Fresh w1 v1 v2) (hs : w.heap.size ≤ w1.heap.size) : Fresh w v v2 := by
  intro g hg
  rcases k g hg with k | k
  · exact h g k
  · exact .inr (by omega)
theorem Fresh.not {w : World} {v v' : Value} {b : Nat} (h : Fresh w v v') (hb : b ∉ v.ownBlock.toList) (hlt : b < w.heap.size) : b ∉ v'.ownBlock.toList := by
  intro hm
  rcases h b hm with h | h
  · exact hb h
  · omega
end Go.Proofs.YtnhlnhmjnnopaaaGreatDoor

/- Blocks and their types: what keeps a row apart from another one. -/
namespace Go.Proofs.YtnhlnhmjnnopaaaGreatDoor
open Go.RowKit

/-- block b holds things of type t -/
def TyAt (w : World) (b : Nat) (t : TypeId) : Prop := ∃ cur, w.heap[b]? = some (.cells cur t (0, 0))
theorem TyAt.lt {w : World} {b : Nat} {t : TypeId} (h : TyAt w b t) : b < w.heap.size := by
  obtain ⟨cur, h⟩ := h
  exact (Array.getElem?_eq_some_iff.1 h).1
theorem TyAt.off {w w' : World} {b : Nat} {t : TypeId} {m : List Nat} (h : TyAt w b t) (hm : Off m w w') (hb : b ∉ m) : TyAt w' b t := by
  have hl := h.lt
  obtain ⟨cur, h⟩ := h
  exact ⟨cur, (hm.block b hl hb).trans h⟩
theorem TyAt.below {w w' : World} {b : Nat} {t : TypeId} (h : TyAt w b t) (hb : Below w.heap.size w w') : TyAt w' b t := by
  have hl := h.lt
  obtain ⟨cur, h⟩ := h
  exact ⟨cur, (hb.block b hl).trans h⟩
theorem TyAt.set {w : World} {b : Nat} {t : TypeId} (h : TyAt w b t) (g j : Nat) (u : Value) : TyAt (w.setCell ⟨g, j, none⟩ u) b t := by
  have hl := h.lt
  obtain ⟨cur, h⟩ := h
  by_cases e : b = g
  · subst e
    exact ⟨_, heap_setCell_same w b j cur t u h⟩
  · exact ⟨cur, (heap_setCell_other w ⟨g, j, none⟩ b u (fun e' => e (by simpa using e'))).trans h⟩
theorem TyAt.new (w : World) (cur : Array Value) (t : TypeId) : TyAt (w.alloc (.cells cur t)) w.heap.size t := ⟨cur, Go.heap_alloc_new w _⟩
theorem TyAt.frozen {w : World} {b : Nat} {t : TypeId} (h : TyAt w b t) (j : Nat) : w.frozen? ⟨b, j, none⟩ = false := by
  obtain ⟨cur, h⟩ := h
  exact frozen_of_row w b j cur t h
theorem TyAt.not {α : Type} {k : Kind α} {w : World} {b base : Nat} {t : TypeId} {v : Value} {ts : List α} (h : TyAt w b t) (ho : OwnsG k w base v ts) (ht : t ≠ k.e) : b ∉ v.ownBlock.toList := by
  intro hm
  obtain ⟨cur, h⟩ := h
  obtain ⟨_, cur', h'⟩ := ho.block b hm
  rw [h] at h'
  injection h' with h'
  injection h' with _ h2 _
  exact ht h2
theorem TyAt.ne {w : World} {b b' : Nat} {t t' : TypeId} (h : TyAt w b t) (h' : TyAt w b' t') (ht : t ≠ t') : b ≠ b' := by
  rintro rfl
  obtain ⟨cur, h⟩ := h
  obtain ⟨cur', h'⟩ := h'
  rw [h] at h'
  injection h' with h'
  injection h' with _ h2 _
  exact ht h2
theorem OwnsG.ty {α : Type} {k : Kind α} {w : World} {base : Nat} {v : Value} {ts : List α} (h : OwnsG k w base v ts) : ∀ g ∈ v.ownBlock.toList, TyAt w g k.e := fun g hg => (h.block g hg).2
/-- rows of unlike types lie apart -/
theorem OwnsG.apart {α β : Type} {k : Kind α} {k' : Kind β} {w : World} {base base' : Nat} {v v' : Value} {ts : List α} {ts' : List β} (h : OwnsG k w base v ts) (h' : OwnsG k' w base' v' ts') (ht : k.e ≠ k'.e) : ∀ g, v.ownBlock = some g → g ∉ v'.ownBlock.toList :=
  fun g hg => (h.ty g (by simp [hg])).not h' ht
end Go.Proofs.YtnhlnhmjnnopaaaGreatDoor

/- A writer of bytes in memory. -/
namespace Go.Proofs.YtnhlnhmjnnopaaaGreatDoor
open Go.RowKit

theorem Off.ofBelowB {l : List Nat} {a b : World} (h : Below a.heap.size a b) : Off l a b := (Off.refl l a).below h (Nat.le_refl _)
def byteV (c : UInt8) : Value := .int .u8 c.toNat
def kByte : Kind UInt8 where
  e := 5
  sl := 44
  size := 1
  bytes := 1
  cells := fun c => [byteV c]
  zero := .int .u8 0
  hsl := Tryz.underlying44
  hi := by
    have h : (Tryz.prog.info? 5).map (fun i => (i.zero, i.size, i.bytes)) = some (some (.int .u8 0), 1, 1) := by kernel_rfl
    obtain ⟨i, hi, h2⟩ := Option.map_eq_some_iff.1 h
    simp only [Prod.mk.injEq] at h2
    exact ⟨i, hi, h2.1, h2.2.1, h2.2.2⟩
  hzs := rfl
  hpos := by decide
  hlen := fun _ => rfl
  hone := fun x u hu => by
    rw [List.mem_singleton.1 hu]
    rfl
theorem byteRow (bs : List UInt8) : rowCells kByte bs = bs.map byteV := by
  unfold rowCells
  induction bs with
  | nil => rfl
  | cons b r ih => rw [List.map_cons, List.flatten_cons, ih]; rfl
/-- a full row, its block's head frozen or not -/
def FullB (w : World) (base : Nat) (v : Value) (bs : List UInt8) : Prop :=
  ∃ g cur fr, v = .slice (some ⟨g, 0, none⟩) bs.length bs.length ∧ base ≤ g ∧ w.heap[g]? = some (.cells cur 5 fr) ∧ ∀ (j : Nat) c, bs[j]? = some c → w.cell? ⟨g, j, none⟩ = some (byteV c)
def OwnB (p : Prop) (w : World) (base : Nat) (v : Value) (bs : List UInt8) : Prop := OwnsG kByte w base v bs ∨ (p ∧ FullB w base v bs)
theorem OwnB.mono {p q : Prop} {w : World} {base : Nat} {v : Value} {bs : List UInt8} (h : OwnB p w base v bs) (hq : p → q) : OwnB q w base v bs := h.imp id fun ⟨a, b⟩ => ⟨hq a, b⟩
theorem OwnB.own {w : World} {base : Nat} {v : Value} {bs : List UInt8} (h : OwnB False w base v bs) : OwnsG kByte w base v bs := h.elim id fun ⟨a, _⟩ => a.elim
theorem FullB.off {w w' : World} {base : Nat} {v : Value} {bs : List UInt8} {m : List Nat} (h : FullB w base v bs) (hf : Off m w w') (hl : ∀ g, v.ownBlock = some g → g ∉ m) : FullB w' base v bs := by
  obtain ⟨g, cur, fr, rfl, h1, h2, h3⟩ := h
  have hg := hl g rfl
  exact ⟨g, cur, fr, rfl, h1, (hf.block g (Array.getElem?_eq_some_iff.1 h2).1 hg).trans h2, fun j c hc => hf.cell (h3 j c hc) hg⟩
theorem OwnB.off {p : Prop} {w w' : World} {base : Nat} {v : Value} {bs : List UInt8} {m : List Nat} (h : OwnB p w base v bs) (hf : Off m w w') (hl : ∀ g, v.ownBlock = some g → g ∉ m) : OwnB p w' base v bs :=
  h.imp (fun a => OwnsG.off a hf hl) fun ⟨a, b⟩ => ⟨a, b.off hf hl⟩
theorem OwnB.below {p : Prop} {w w' : World} {base : Nat} {v : Value} {bs : List UInt8} (h : OwnB p w base v bs) (hb : Below w.heap.size w w') : OwnB p w' base v bs :=
  h.off (Off.ofBelowB hb) (fun _ _ hm => List.not_mem_nil hm)
theorem OwnB.form {p : Prop} {w : World} {base : Nat} {v : Value} {bs : List UInt8} (h : OwnB p w base v bs) : ∃ A c, v = .slice A bs.length c ∧ bs.length ≤ c := by
  rcases h with h | ⟨_, g, cur, fr, rfl, _⟩
  · obtain ⟨A, c, rfl, h1, _⟩ := h.form
    exact ⟨A, c, rfl, h1⟩
  · exact ⟨_, _, rfl, Nat.le_refl _⟩
/-- the writer's box, its row -/
structure WAt (p : Prop) (w : World) (base wb : Nat) (v : Value) (bs : List UInt8) : Prop where
  ty : TyAt w wb 44
  c0 : w.cell? ⟨wb, 0, none⟩ = some v
  own : OwnB p w base v bs
theorem WAt.not {p : Prop} {w : World} {base wb : Nat} {v : Value} {bs : List UInt8} (h : WAt p w base wb v bs) : wb ∉ v.ownBlock.toList := by
  rcases h.own with ho | ⟨_, g, cur, fr, rfl, _, h2, _⟩
  · exact h.ty.not ho (by decide)
  · intro hm
    have : wb = g := by simpa [Value.ownBlock] using hm
    subst this
    obtain ⟨c, hc⟩ := h.ty
    rw [h2] at hc
    cases hc
/-- it stays where neither the box nor the row is touched -/
theorem WAt.off {p : Prop} {w w' : World} {base wb : Nat} {v : Value} {bs : List UInt8} {m : List Nat} (h : WAt p w base wb v bs) (hf : Off m w w') (h1 : wb ∉ m) (h2 : ∀ g, v.ownBlock = some g → g ∉ m) : WAt p w' base wb v bs :=
  ⟨h.ty.off hf h1, hf.cell h.c0 h1, h.own.off hf h2⟩
theorem WAt.below {p : Prop} {w w' : World} {base wb : Nat} {v : Value} {bs : List UInt8} (h : WAt p w base wb v bs) (hb : Below w.heap.size w w') : WAt p w' base wb v bs :=
  ⟨h.ty.below hb, carry hb h.c0, h.own.below hb⟩
theorem WAt.mono {p q : Prop} {w : World} {base wb : Nat} {v : Value} {bs : List UInt8} (h : WAt p w base wb v bs) (hq : p → q) : WAt q w base wb v bs := ⟨h.ty, h.c0, h.own.mono hq⟩
/-- an append of a text's bytes -/
theorem append_bytes {w : World} {base : Nat} {v : Value} {bs : List UInt8} (s : ByteArray) (h : OwnsG kByte w base v bs) (ty : TypeId) (hb : base ≤ w.heap.size) (hn : bs.length + s.size ≤ 140737488355328) :
    ∃ v' w', (Builtin.append_ #[44, 9] ty #[v, .string s]).run Tryz.prog w = .ok v' w' ∧ OwnsG kByte w' base v' (bs ++ s.data.toList) ∧ Off v.ownBlock.toList w w' ∧ Fresh w v v' := by
  obtain ⟨i, hi, hz, hsz, hby⟩ := kByte.hi
  have h0 : w.ownsRow base 5 1 v bs.length (bs.map byteV) := by rw [← byteRow]; exact h
  have hML : bs.length + s.size ≤ maxLen := by unfold maxLen; omega
  obtain ⟨v', w', h1, h2, h3, _⟩ := Lib.run_append_own_string (P := Tryz.prog) w base 44 9 ty 5 i Tryz.underlying44 Tryz.underlying9 hi hz hsz hby v bs.length _ h0 s hML hn hb
  refine ⟨v', w', h1, ?_, grown_off h3 (fun k hk => by simp [hk]), ?_⟩
  · have hl : s.data.toList.length = s.size := by rw [Array.length_toList]; rfl
    unfold OwnsG
    rw [byteRow, List.length_append, List.map_append, hl]
    exact h2
  · have hxl : (bs.map byteV).length = bs.length * 1 := h0.1
    rcases h0.2 with ⟨rfl, h00⟩ | ⟨g, cap, cur, rfl, hbg, hg, hnc, hcm, hcs, htake⟩
    · have h0' : w.ownsRow w.heap.size 5 1 (.slice none 0 0) bs.length (bs.map byteV) := ⟨hxl, .inl ⟨rfl, h00⟩⟩
      obtain ⟨v2, w2, k1, k2, _, _⟩ := Lib.run_append_own_string (P := Tryz.prog) w w.heap.size 44 9 ty 5 i Tryz.underlying44 Tryz.underlying9 hi hz hsz hby _ bs.length _ h0' s hML hn (Nat.le_refl _)
      rw [h1] at k1
      cases k1
      intro b hbm
      right
      rcases k2.2 with ⟨rfl, _⟩ | ⟨g, cap, cur, rfl, hbg, _⟩
      · cases hbm
      · have : b = g := by simpa [Value.ownBlock] using hbm
        omega
    · by_cases hroom : bs.length + s.size ≤ cap
      · have hcs' : cur.size = cap := by simpa using hcs
        have hr := Lib.run_append_room_string (P := Tryz.prog) w 44 9 ty 5 i Tryz.underlying44 Tryz.underlying9 hi hsz g bs.length cap cur hg s hroom (by omega)
        rw [h1] at hr
        cases hr
        intro b hbm
        exact .inl hbm
      · have holds : ∀ j u, (bs.map byteV)[j]? = some u → w.cell? ((⟨g, 0, none⟩ : Addr).add j) = some u := h0.cells (g := g) rfl
        have hr := Lib.run_append_grow_string (P := Tryz.prog) w 44 9 ty 5 i (.int .u8 0) Tryz.underlying44 Tryz.underlying9 hi hz ⟨g, 0, none⟩ bs.length cap _ (by rw [hsz]; exact hxl) holds s (by omega) (by omega) (by rw [show i.bytes = 1 from hby]; exact growslice_fits (by omega) (by omega))
        rw [h1] at hr
        cases hr
        exact Fresh.of (.inr rfl)
/-- the same, an operation -/
theorem wpList_append_bytes {w : World} {ops : Array Oper} {rest : List Oper} {o : Oper} {a : Act} {Q : Exit → Act → World → Prop} (hgd : o.guard = none) (sl x : Operand)
    (ho : o.op = .call { callee := .builtin .append, args := #[sl, x], argTypes := #[44, 9] }) {base : Nat} {v : Value} {bs : List UInt8} (s : ByteArray)
    (hs : a.eval sl = v) (hx : a.eval x = .string s) (hown : OwnsG kByte w base v bs) (hb : base ≤ w.heap.size) (hn : bs.length + s.size ≤ 140737488355328)
    (h : ∀ v' w', OwnsG kByte w' base v' (bs ++ s.data.toList) → Off v.ownBlock.toList w w' → Fresh w v v' → wpList Tryz.prog ops Q rest (a.put o.dst v') w') : wpList Tryz.prog ops Q (o :: rest) a w := by
  refine wpList_plain hgd fun K hK => ?_
  obtain ⟨v', w', hr, h2, h3, h4⟩ := append_bytes s hown o.type hb hn
  unfold Oper.wp execOp
  simp only [ho, resolve, invoke, builtin, Sem.run_bind, Sem.run_pure, Result.andThen_ok, List.map_toArray, List.map_cons, List.map_nil, hs, hx, hr]
  exact hK _ _ (h v' w' h2 h3 h4)
theorem step_append_bytes {w : World} {ops : Array Oper} {o : Oper} {a : Act} {K : Act → World → Prop} {Q : Exit → Act → World → Prop} {E : Prop} (hgd : o.guard = none) (sl x : Operand)
    (ho : o.op = .call { callee := .builtin .append, args := #[sl, x], argTypes := #[44, 9] }) {base : Nat} {v : Value} {bs : List UInt8} (s : ByteArray)
    (hs : a.eval sl = v) (hx : a.eval x = .string s) (hown : OwnsG kByte w base v bs) (hb : base ≤ w.heap.size) (hn : bs.length + s.size ≤ 140737488355328)
    (h : ∀ v' w', OwnsG kByte w' base v' (bs ++ s.data.toList) → Off v.ownBlock.toList w w' → Fresh w v v' → K (a.put o.dst v') w') :
    if Region.wanted o (yielded ops a.tmps) = true then Oper.wp Tryz.prog o a w K Q else E := by
  have hw : Region.wanted o (yielded ops a.tmps) = true := by simp [Region.wanted, hgd]
  rw [if_pos hw]
  obtain ⟨v', w', hr, h2, h3, h4⟩ := append_bytes s hown o.type hb hn
  unfold Oper.wp execOp
  simp only [ho, resolve, invoke, builtin, Sem.run_bind, Sem.run_pure, Result.andThen_ok, List.map_toArray, List.map_cons, List.map_nil, hs, hx, hr]
  exact h v' w' h2 h3 h4
/-- one byte more -/
theorem append_byte {p : Prop} {w : World} {base : Nat} {v : Value} {bs : List UInt8} {b : Nat} (t : UInt8) (h : OwnB p w base v bs) (hc : ∀ i u, (kByte.cells t)[i]? = some u → w.cell? ⟨b, i, none⟩ = some u) (ty : TypeId) (hb : base ≤ w.heap.size) (hn : (bs.length + 1) * kByte.bytes ≤ 140737488355328) (hn2 : bs.length + 1 ≤ 9223372036854775807) :
    ∃ v' w', (Builtin.append_ #[kByte.sl, kByte.sl] ty #[v, .slice (some ⟨b, 0, none⟩) 1 1]).run Tryz.prog w = .ok v' w' ∧ OwnsG kByte w' base v' (bs ++ [t]) ∧ Off v.ownBlock.toList w w' ∧ Fresh w v v' := by
  rcases h with h | ⟨_, g, cur, fr, rfl, hg, h2, h3⟩
  · obtain ⟨v', w', h1, h2, h3, h4⟩ := append_gB (k := kByte) (c := 1) t h hc ty hb hn hn2
    exact ⟨v', w', h1, h2, h3, Fresh.of h4⟩
  · obtain ⟨i, hi, hz, hsz, hby⟩ := kByte.hi
    have hs1 : i.size = 1 := hsz
    have hb1 : i.bytes = 1 := hby
    have hn' : bs.length + 1 ≤ 140737488355328 := by simpa [kByte] using hn
    have hr := run_append_grow (P := Tryz.prog) w kByte.sl ty kByte.e i kByte.zero kByte.hsl hi hz ⟨g, 0, none⟩ bs.length bs.length (bs.map byteV) (by rw [hs1]; simp)
      (fun j u hj => by
        rw [List.getElem?_map] at hj
        obtain ⟨c, hc1, hc2⟩ := Option.map_eq_some_iff.1 hj
        rw [Go.WideShapes.add_plain, Nat.zero_add, ← hc2]
        exact h3 j c hc1)
      ⟨b, 0, none⟩ 1 1 (kByte.cells t) (by rw [hs1]; rfl) (fun j u hj => by rw [Go.WideShapes.add_plain, Nat.zero_add]; exact hc j u hj)
      (by omega) (by omega) (by rw [hb1]; exact growslice_fits (by omega) (by omega))
    refine ⟨_, _, hr, ?_, ?_, Fresh.of (.inr rfl)⟩
    · unfold OwnsG
      rw [byteRow, List.length_append, List.length_singleton, List.map_append]
      have hge := grownCap_ge w (bs.length + 1) bs.length 5
      have hcm : grownCap w (bs.length + 1) bs.length 5 ≤ maxLen := grownCap_le_maxLen w (bs.length + 1) bs.length 5 (by unfold maxLen; omega)
      refine ⟨by simp [kByte], .inr ⟨w.heap.size, _, _, rfl, hb, heap_alloc_new w.drew _, hge, hcm, ?_, ?_⟩⟩
      · have hz1 : kByte.zero.cells.size = 1 := rfl
        have hk1 : kByte.size = 1 := rfl
        have hkc : (kByte.cells t).length = 1 := rfl
        have hke : kByte.e = 5 := rfl
        rw [hk1, hke]
        simp only [Array.size_append, List.size_toArray, size_zeroCells, hz1, List.length_map, hkc]
        omega
      · have hk1 : kByte.size = 1 := rfl
        rw [hk1]
        simp only [Array.toList_append, List.append_assoc]
        rw [← List.append_assoc]
        exact List.take_left' (by simp [kByte])
    · exact (Off.refl _ w).drewN 1 |>.alloc _
theorem step_append_byte {p : Prop} {w : World} {ops : Array Oper} {o : Oper} {a : Act} {K : Act → World → Prop} {Q : Exit → Act → World → Prop} {E : Prop} (hgd : o.guard = none) (s x : Operand)
    (ho : o.op = .call { callee := .builtin .append, args := #[s, x], argTypes := #[kByte.sl, kByte.sl] }) {base : Nat} {v : Value} {bs : List UInt8} {b : Nat} (t : UInt8)
    (hs : a.eval s = v) (hx : a.eval x = .slice (some ⟨b, 0, none⟩) 1 1) (hown : OwnB p w base v bs) (hc : ∀ i u, (kByte.cells t)[i]? = some u → w.cell? ⟨b, i, none⟩ = some u) (hb : base ≤ w.heap.size) (hn : (bs.length + 1) * kByte.bytes ≤ 140737488355328) (hn2 : bs.length + 1 ≤ 9223372036854775807)
    (h : ∀ v' w', OwnsG kByte w' base v' (bs ++ [t]) → Off v.ownBlock.toList w w' → Fresh w v v' → K (a.put o.dst v') w') :
    if Region.wanted o (yielded ops a.tmps) = true then Oper.wp Tryz.prog o a w K Q else E := by
  have hw : Region.wanted o (yielded ops a.tmps) = true := by simp [Region.wanted, hgd]
  rw [if_pos hw]
  obtain ⟨v', w', hr, h2, h3, h4⟩ := append_byte t hown hc o.type hb hn hn2
  unfold Oper.wp execOp
  simp only [ho, resolve, invoke, builtin, Sem.run_bind, Sem.run_pure, Result.andThen_ok, List.map_toArray, List.map_cons, List.map_nil, hs, hx, hr]
  exact h v' w' h2 h3 h4
/-- what a call of the writer's may change -/
structure Wrote (p : Prop) (w w' : World) (base wb : Nat) (v : Value) (bs : List UInt8) : Prop where
  at_ : ∃ v', WAt p w' base wb v' bs ∧ Fresh w v v'
  off : Off (wb :: v.ownBlock.toList) w w'
theorem Wrote.trans {p : Prop} {w w1 w2 : World} {base wb : Nat} {v v1 : Value} {bs : List UInt8} (h : Off (wb :: v.ownBlock.toList) w w1) (hF : Fresh w v v1) (k : Wrote p w1 w2 base wb v1 bs) : Wrote p w w2 base wb v bs := by
  obtain ⟨v2, h2, f2⟩ := k.at_
  refine ⟨⟨v2, h2, hF.trans f2 h.size⟩, ?_⟩
  refine ⟨k.off.os.trans h.os, k.off.tape.trans h.tape, k.off.output.trans h.output, Nat.le_trans h.size k.off.size, fun i hi hl => (k.off.block i (Nat.lt_of_lt_of_le hi h.size) (fun hm => ?_)).trans (h.block i hi hl)⟩
  rcases List.mem_cons.1 hm with rfl | hm
  · exact hl List.mem_cons_self
  · rcases hF i hm with h1 | h1
    · exact hl (List.mem_cons_of_mem _ h1)
    · omega
theorem Wrote.mono {p q : Prop} {w w' : World} {base wb : Nat} {v : Value} {bs : List UInt8} (h : Wrote p w w' base wb v bs) (hq : p → q) : Wrote q w w' base wb v bs := by
  obtain ⟨v', h1, h2⟩ := h.at_
  exact ⟨⟨v', h1.mono hq, h2⟩, h.off⟩
theorem Wrote.refl {p : Prop} {w : World} {base wb : Nat} {v : Value} {bs : List UInt8} (h : WAt p w base wb v bs) : Wrote p w w base wb v bs := ⟨⟨v, h, Fresh.refl _ _⟩, Off.refl _ _⟩
/-- an append, and its store into the box -/
theorem WAt.store {p : Prop} {w w1 : World} {base wb : Nat} {v v1 : Value} {bs cs : List UInt8} (h : WAt p w base wb v bs) (ho : OwnsG kByte w1 base v1 cs) (hf : Off v.ownBlock.toList w w1) (hfr : Fresh w v v1) :
    Wrote False w (w1.setCell ⟨wb, 0, none⟩ v1) base wb v cs := by
  have hty := h.ty.off hf h.not
  have hc := hf.cell h.c0 h.not
  have hn1 : wb ∉ v1.ownBlock.toList := hty.not ho (by decide)
  refine ⟨⟨v1, ⟨hty.set _ _ _, cell_same hc, .inl (ho.off ((Off.refl [wb] w1).setCell _ _ (by simp)) (fun g hg hm => ?_))⟩, hfr⟩, ?_⟩
  · simp only [List.mem_singleton] at hm
    subst hm
    exact hn1 (by simpa using hg)
  · exact (hf.more (fun k hk => List.mem_cons_of_mem _ hk)).setCell _ _ (by simp)
end Go.Proofs.YtnhlnhmjnnopaaaGreatDoor

/- Bytes read back, entries in order: plain laws. No program stands here. -/
namespace Go.Proofs.YtnhlnhmjnnopaaaGreatDoor

/-! the order of texts -/
theorem u8_lt (x y : UInt8) : x < y ↔ x.toNat < y.toNat := UInt8.lt_iff_toNat_lt
theorem u8_same {x y : UInt8} (h1 : ¬ x < y) (h2 : ¬ y < x) : x = y := by
  rw [u8_lt] at h1 h2
  exact UInt8.toNat_inj.mp (by omega)
theorem cmp_turn : ∀ a b : List UInt8, Lib.compareBytes b a = - Lib.compareBytes a b
  | [], [] => rfl
  | [], _ :: _ => rfl
  | _ :: _, [] => rfl
  | x :: a, y :: b => by
    have ih := cmp_turn a b
    unfold Lib.compareBytes
    by_cases h1 : x < y
    · have h2 : ¬ y < x := by rw [u8_lt] at *; omega
      rw [if_neg h2, if_pos h1, if_pos h1]
      rfl
    · rw [if_neg h1, if_neg h1]
      by_cases h2 : y < x
      · rw [if_pos h2, if_pos h2]
      · rw [if_neg h2, if_neg h2, ih]
theorem cmp_same : ∀ a b : List UInt8, Lib.compareBytes a b = 0 → a = b
  | [], [], _ => rfl
  | [], _ :: _, h => absurd h (by unfold Lib.compareBytes; decide)
  | _ :: _, [], h => absurd h (by unfold Lib.compareBytes; decide)
  | x :: a, y :: b, h => by
    unfold Lib.compareBytes at h
    split at h
    · exact absurd h (by decide)
    · rename_i h1
      split at h
      · exact absurd h (by decide)
      · rename_i h2
        rw [u8_same h1 h2, cmp_same a b h]
theorem cmp_le_trans : ∀ a b c : List UInt8, Lib.compareBytes a b ≤ 0 → Lib.compareBytes b c ≤ 0 → Lib.compareBytes a c ≤ 0
  | [], _, [], _, _ => by unfold Lib.compareBytes; decide
  | [], _, _ :: _, _, _ => by unfold Lib.compareBytes; decide
  | _ :: _, [], _, h, _ => absurd h (by unfold Lib.compareBytes; decide)
  | _ :: _, _ :: _, [], _, h => absurd h (by unfold Lib.compareBytes; decide)
  | x :: a, y :: b, z :: c, h1, h2 => by
    have ih := cmp_le_trans a b c
    unfold Lib.compareBytes at h1 h2 ⊢
    simp only [u8_lt] at *
    split at h1
    · split at h2
      · rw [if_pos (by omega)]; decide
      · split at h2
        · exact absurd h2 (by decide)
        · rw [if_pos (by omega)]; decide
    · split at h1
      · exact absurd h1 (by decide)
      · split at h2
        · rw [if_pos (by omega)]; decide
        · split at h2
          · exact absurd h2 (by decide)
          · rw [if_neg (by omega), if_neg (by omega)]
            exact ih h1 h2
theorem less_cmp : ∀ a b : List UInt8, Op.bytesLess a b = decide (Lib.compareBytes a b < 0)
  | [], [] => rfl
  | _ :: _, [] => rfl
  | [], _ :: _ => rfl
  | x :: a, y :: b => by
    rw [Op.bytesLess, less_cmp a b, show Lib.compareBytes (x :: a) (y :: b) = (if x < y then -1 else if y < x then 1 else Lib.compareBytes a b) from rfl]
    by_cases h1 : x < y
    · rw [if_pos h1]; simp [h1]
    · rw [if_neg h1]
      by_cases h2 : y < x
      · rw [if_pos h2]
        have h3 : ¬ x = y := by rintro rfl; exact h1 h2
        simp [h1, h3]
      · rw [if_neg h2, u8_same h1 h2]
        simp

/-! entries in order -/
def cmpE (x y : EntC) : Int := Lib.compareBytes x.key.data.toList y.key.data.toList
def InOrd (es : List EntC) : Prop := es.Pairwise fun x y => ¬ Lib.compareBytes y.key.data.toList x.key.data.toList < 0
theorem inOrd_le {es : List EntC} : InOrd es ↔ es.Pairwise fun x y => cmpE x y ≤ 0 := by
  unfold InOrd cmpE
  have : ∀ x y : EntC, (¬ Lib.compareBytes y.key.data.toList x.key.data.toList < 0) ↔ Lib.compareBytes x.key.data.toList y.key.data.toList ≤ 0 := fun x y => by
    rw [cmp_turn x.key.data.toList y.key.data.toList]
    omega
  simp only [this]
theorem ord_one {a b : List EntC} (hp : a.Perm b) (hk : (a.map (·.key)).Nodup) (ha : InOrd a) (hb : InOrd b) : a = b := by
  rw [inOrd_le] at ha hb
  refine List.Perm.eq_of_pairwise (le := fun x y => cmpE x y ≤ 0) ?_ ha hb hp
  intro x y hx hy h1 h2
  have hy' : y ∈ a := hp.mem_iff.2 hy
  unfold cmpE at h1 h2
  rw [cmp_turn x.key.data.toList y.key.data.toList] at h2
  have he := cmp_same _ _ (show Lib.compareBytes x.key.data.toList y.key.data.toList = 0 by omega)
  have hke : x.key = y.key := ByteArray.ext (Array.ext' he)
  obtain ⟨i, hi, rfl⟩ := List.getElem_of_mem hx
  obtain ⟨j, hj, rfl⟩ := List.getElem_of_mem hy'
  have := (List.getElem_inj (i := i) (j := j) (h₀ := by simpa using hi) (h₁ := by simpa using hj) hk).1 (by simpa using hke)
  subst this
  rfl
/-- ref's Sorted: an entry put in -/
def insE (e : EntC) : List EntC → List EntC
  | [] => [e]
  | x :: r => if cmpE x e < 0 then x :: insE e r else e :: x :: r
def sortedP (l : List EntC) : List EntC := l.foldl (fun out e => insE e out) []
theorem ins_perm (e : EntC) : ∀ l, (insE e l).Perm (e :: l)
  | [] => .refl _
  | x :: r => by
    unfold insE
    split
    · exact ((ins_perm e r).cons x).trans (List.Perm.swap _ _ _)
    · exact .refl _
theorem ins_ord (e : EntC) : ∀ l, InOrd l → InOrd (insE e l)
  | [], _ => List.pairwise_singleton _ _
  | x :: r, h => by
    rw [inOrd_le] at *
    obtain ⟨h1, h2⟩ := List.pairwise_cons.1 h
    unfold insE
    split
    · rename_i hlt
      refine List.pairwise_cons.2 ⟨fun y hy => ?_, (inOrd_le.1 (ins_ord e r (inOrd_le.2 h2)))⟩
      rcases List.mem_cons.1 ((ins_perm e r).mem_iff.1 hy) with rfl | hy
      · show cmpE x y ≤ 0
        omega
      · exact h1 y hy
    · rename_i hge
      have hex : cmpE e x ≤ 0 := by unfold cmpE at *; rw [cmp_turn x.key.data.toList e.key.data.toList]; omega
      refine List.pairwise_cons.2 ⟨fun y hy => ?_, h⟩
      rcases List.mem_cons.1 hy with rfl | hy
      · exact hex
      · exact cmp_le_trans _ _ _ hex (h1 y hy)
theorem fold_perm : ∀ (l out : List EntC), (l.foldl (fun out e => insE e out) out).Perm (out ++ l)
  | [], out => by rw [List.append_nil]; exact .refl _
  | e :: l, out => by
    rw [List.foldl_cons]
    refine (fold_perm l (insE e out)).trans ?_
    exact ((ins_perm e out).append_right l).trans (List.perm_middle.symm)
theorem fold_ord : ∀ (l out : List EntC), InOrd out → InOrd (l.foldl (fun out e => insE e out) out)
  | [], _, h => h
  | e :: l, out, h => by
    rw [List.foldl_cons]
    exact fold_ord l _ (ins_ord e out h)
theorem sortedP_perm (l : List EntC) : (sortedP l).Perm l := fold_perm l []
theorem sortedP_ord (l : List EntC) : InOrd (sortedP l) := fold_ord l [] List.Pairwise.nil
/-- the entries that pack.Encode wrote are those of ref's Sorted -/
theorem sorted_same {es es' : List EntC} (hk : (es.map (·.key)).Nodup) (hp : es'.Perm es) (ho : InOrd es') : es' = sortedP es := by
  have hk' : (es'.map (·.key)).Nodup := (hp.map (·.key)).nodup_iff.2 hk
  exact ord_one (hp.trans (sortedP_perm es).symm) hk' ho (sortedP_ord es)

/-! numbers read -/
def readN (l : List UInt8) : Nat := l.foldl (fun n c => n * 256 + c.toNat) 0
theorem read_snoc (l : List UInt8) (c : UInt8) : readN (l ++ [c]) = readN l * 256 + c.toNat := by unfold readN; rw [List.foldl_append]; rfl
/-- a number that was written is read -/
theorem read_word : ∀ (size n : Nat), n < 256 ^ size → readN ((List.range size).map fun i => UInt8.ofNat (n >>> (8 * (size - 1 - i)))) = n
  | 0, n, h => by
    have : n = 0 := by simpa using h
    subst this
    rfl
  | size + 1, n, h => by
    have ih := read_word size (n / 256) (by rw [Nat.pow_succ] at h; exact Nat.div_lt_of_lt_mul (by rw [Nat.mul_comm]; exact h))
    rw [List.range_succ, List.map_append]
    have e : (List.range size).map (fun i => UInt8.ofNat (n >>> (8 * (size + 1 - 1 - i)))) = (List.range size).map (fun i => UInt8.ofNat ((n / 256) >>> (8 * (size - 1 - i)))) := by
      refine List.map_congr_left fun i hi => ?_
      have hi' : i < size := List.mem_range.1 hi
      rw [show 8 * (size + 1 - 1 - i) = 8 + 8 * (size - 1 - i) by omega, Nat.shiftRight_add, Nat.shiftRight_eq_div_pow n 8]
    rw [e, show List.map (fun i => UInt8.ofNat (n >>> (8 * (size + 1 - 1 - i)))) [size] = [UInt8.ofNat n] by simp, read_snoc, ih]
    simp
    omega
theorem or_byte (n c : Nat) (hn : n < 281474976710656) (hc : c < 256) : bits .or .i64 ((n * 256 : Nat) : Int) (c : Int) = ((n * 256 + c : Nat) : Int) := by
  have hx : n * 256 ||| c = n * 256 + c := by
    have := Nat.shiftLeft_add_eq_or_of_lt (i := 8) (b := c) (by omega) n
    rw [Nat.shiftLeft_eq] at this
    exact this.symm
  have h1 : (BitVec.ofInt 64 ((n * 256 : Nat) : Int)).toNat = n * 256 := by
    rw [BitVec.ofInt_natCast, BitVec.toNat_ofNat]; exact Nat.mod_eq_of_lt (by omega)
  have h2 : (BitVec.ofInt 64 (c : Int)).toNat = c := by
    rw [BitVec.ofInt_natCast, BitVec.toNat_ofNat]; exact Nat.mod_eq_of_lt (by omega)
  show IntKind.i64.wrap ((BitVec.ofInt 64 ((n * 256 : Nat) : Int) ||| BitVec.ofInt 64 (c : Int)).toNat : Int) = _
  rw [BitVec.toNat_or, h1, h2, hx]
  exact IntWalk.i64_in _ (by omega)
theorem read_lt : ∀ (n : Nat) (l : List UInt8), l.length = n → readN l < 256 ^ n
  | 0, l, h => by
    rw [List.length_eq_zero_iff] at h
    subst h
    decide
  | n + 1, l, h => by
    rcases List.eq_nil_or_concat l with rfl | ⟨r, c, rfl⟩
    · cases h
    · rw [List.concat_eq_append] at h ⊢
      rw [List.length_append] at h
      have hr : r.length = n := Nat.succ.inj h
      rw [read_snoc, Nat.pow_succ]
      have := read_lt n r hr
      have := c.toNat_lt
      omega

/-! what is left behind a place -/
def Rest (bs : List UInt8) (k : Nat) (r : List UInt8) : Prop := k ≤ bs.length ∧ bs.drop k = r
theorem Rest.start (bs : List UInt8) : Rest bs 0 bs := ⟨Nat.zero_le _, rfl⟩
theorem Rest.next {bs : List UInt8} {k : Nat} {a r : List UInt8} (h : Rest bs k (a ++ r)) : Rest bs (k + a.length) r ∧ (bs.drop k).take a.length = a ∧ k + a.length ≤ bs.length := by
  obtain ⟨h1, h2⟩ := h
  have hl := congrArg List.length h2
  rw [List.length_drop, List.length_append] at hl
  refine ⟨⟨by omega, ?_⟩, ?_, by omega⟩
  · rw [← List.drop_drop, h2, List.drop_left']
    rfl
  · rw [h2, List.take_left']
    rfl
theorem Rest.len {bs : List UInt8} {k : Nat} {r : List UInt8} (h : Rest bs k r) : bs.length = k + r.length := by
  obtain ⟨h1, h2⟩ := h
  have hl := congrArg List.length h2
  rw [List.length_drop] at hl
  omega
end Go.Proofs.YtnhlnhmjnnopaaaGreatDoor

/- Rows of entries that are the call's own. -/
namespace Go.Proofs.YtnhlnhmjnnopaaaGreatDoor
open Go.RowKit

def EntC.cells (x : EntC) : List Value := [.string x.key, .string x.text]
def kEnt : Kind EntC where
  e := 50
  sl := 22
  size := 2
  bytes := 32
  cells := EntC.cells
  zero := .agg #[.string ⟨#[]⟩, .string ⟨#[]⟩]
  hsl := Tryz.underlying22
  hi := by
    have h : (Tryz.prog.info? 50).map (fun i => (i.zero, i.size, i.bytes)) = some (some (.agg #[.string ⟨#[]⟩, .string ⟨#[]⟩]), 2, 32) := by kernel_rfl
    obtain ⟨i, hi, h2⟩ := Option.map_eq_some_iff.1 h
    simp only [Prod.mk.injEq] at h2
    exact ⟨i, hi, h2.1, h2.2.1, h2.2.2⟩
  hzs := rfl
  hpos := by decide
  hlen := fun _ => rfl
  hone := fun x u hu => by
    simp only [EntC.cells, List.mem_cons, List.not_mem_nil, or_false] at hu
    rcases hu with rfl | rfl <;> rfl
theorem EntsIn.lies {w : World} {A : Option Addr} {l : List EntC} (h : EntsIn w A l) : LiesG kEnt w A l := by
  rcases h with h | ⟨b, o, rfl, h2⟩
  · exact .inl h
  · refine .inr ⟨b, o, rfl, fun j x i u hx hu => ?_⟩
    obtain ⟨c0, c1⟩ := h2 j x hx
    match i, hu with
    | 0, hu => cases hu; exact c0
    | 1, hu => cases hu; exact c1
theorem ents_of {w : World} {base : Nat} {v : Value} {l : List EntC} (h : OwnsG kEnt w base v l) : ∃ A c, v = .slice A l.length c ∧ l.length ≤ c ∧ c ≤ 9223372036854775807 ∧ (A = none → c = 0) ∧ EntsIn w A l := by
  obtain ⟨A, c, rfl, h1, h2, h0, h3⟩ := h.form
  refine ⟨A, c, rfl, h1, h2, h0, ?_⟩
  rcases h3 with h3 | ⟨g, rfl, _, _, h4⟩
  · exact .inl h3
  · refine .inr ⟨g, 0, rfl, fun j x hx => ?_⟩
    rw [Nat.zero_add]
    exact ⟨h4 j x 0 _ hx rfl, h4 j x 1 _ hx rfl⟩
end Go.Proofs.YtnhlnhmjnnopaaaGreatDoor

/- Values that are taken as they are, under texts as keys. -/
namespace Go.Proofs.YtnhlnhmjnnopaaaGreatDoor
open Go Go.RowKit Go.Maps Go.WideMaps

abbrev VD := DataW Value
theorem isMap_put {H : Type} {D : DataW H} (h : IsMap D) (k : Lit) (d : DataW H) : IsMap (D.put k d) := by
  obtain ⟨es, rfl⟩ := h
  exact ⟨_, rfl⟩
theorem strKey (l : List UInt8) : WideAt.IsKeyLit (.string l) := by simp [WideAt.IsKeyLit]
/-- any value, as it is -/
def heldE (v : Value) : Option (VD × List MemPlace) := some (.held v, [])
theorem strK (l : ByteArray) (h : l.size ≤ maxLen) : keyOf Tryz.prog 9 (.string l) = some (.string l.data.toList) := keyOf_string_mk Tryz.underlying9 h
end Go.Proofs.YtnhlnhmjnnopaaaGreatDoor

/- Maps from texts to values that are taken as they are. No program stands here. -/
namespace Go.Proofs.YtnhlnhmjnnopaaaGreatDoor
open Go Go.Maps

abbrev HL := List (List UInt8 × Value)
def putH (D : VD) (l : HL) : VD := l.foldl (fun D p => D.put (.string p.1) (.held p.2)) D
def hmap (l : HL) : VD := putH (.map []) l
def hlook (l : HL) (s : List UInt8) : Option Value := (l.find? (fun p => decide (p.1 = s))).map (·.2)
theorem hmap_snoc (l : HL) (k : List UInt8) (v : Value) : (hmap l).put (.string k) (.held v) = hmap (l ++ [(k, v)]) := by unfold hmap putH; rw [List.foldl_append]; rfl
theorem hmap_is : ∀ (l : HL) (D : VD), IsMap D → IsMap (putH D l)
  | [], _, h => h
  | p :: l, D, h => hmap_is l (D.put (.string p.1) (.held p.2)) (isMap_put h _ _)
theorem putH_none (s : List UInt8) (z : VD) : ∀ (l : HL) (D : VD), (∀ p ∈ l, p.1 ≠ s) → (putH D l).atKey (.string s) z = D.atKey (.string s) z ∧ has (putH D l) (.string s) = has D (.string s)
  | [], D, _ => ⟨rfl, rfl⟩
  | p :: l, D, h => by
    have hp : Lit.string s ≠ .string p.1 := fun e => h p (by simp) (by injection e with e; exact e.symm)
    obtain ⟨a, b⟩ := putH_none s z l (D.put (.string p.1) (.held p.2)) (fun q hq => h q (List.mem_cons_of_mem _ hq))
    exact ⟨a.trans (atKey_put_other hp _ _), b.trans (has_put_other hp _)⟩
theorem putH_some (s : List UInt8) (z : VD) : ∀ (l : HL) (D : VD), IsMap D → (l.map (·.1)).Nodup → ∀ x, l.find? (fun p => decide (p.1 = s)) = some x → (putH D l).atKey (.string s) z = .held x.2 ∧ has (putH D l) (.string s) = true
  | [], D, _, _, x, hx => by cases hx
  | p :: l, D, hD, hn, x, hx => by
    rw [List.map_cons, List.nodup_cons] at hn
    by_cases hp : p.1 = s
    · rw [List.find?_cons_of_pos (by simpa using hp)] at hx
      cases hx
      have hl : ∀ q ∈ l, q.1 ≠ s := fun q hq e => hn.1 (by rw [hp, ← e]; exact List.mem_map_of_mem hq)
      obtain ⟨a, b⟩ := putH_none s z l (D.put (.string p.1) (.held p.2)) hl
      refine ⟨a.trans ?_, b.trans ?_⟩
      · rw [hp]; exact atKey_put_same hD (strKey s) _ _
      · rw [hp]; exact has_put_same hD (strKey s) _
    · rw [List.find?_cons_of_neg (by simpa using hp)] at hx
      exact putH_some s z l _ (isMap_put hD _ _) hn.2 x hx
theorem hmap_some {l : HL} {s : List UInt8} {v : Value} (hn : (l.map (·.1)).Nodup) (h : hlook l s = some v) (z : VD) : (hmap l).atKey (.string s) z = .held v ∧ has (hmap l) (.string s) = true := by
  obtain ⟨p, hp, rfl⟩ := Option.map_eq_some_iff.1 h
  exact putH_some s z l (.map []) ⟨_, rfl⟩ hn p hp
theorem hmap_none {l : HL} {s : List UInt8} (h : hlook l s = none) (z : VD) : (hmap l).atKey (.string s) z = z ∧ has (hmap l) (.string s) = false := by
  have h' := Option.map_eq_none_iff.1 h
  rw [List.find?_eq_none] at h'
  obtain ⟨a, b⟩ := putH_none s z l (.map []) (fun p hp e => by have := h' p hp; simp [e] at this)
  exact ⟨a, b⟩
theorem hlook_none_iff {l : HL} {s : List UInt8} : hlook l s = none ↔ s ∉ l.map (·.1) := by
  unfold hlook
  rw [Option.map_eq_none_iff, List.find?_eq_none, List.mem_map]
  constructor
  · rintro h ⟨p, hp, e⟩
    exact absurd (decide_eq_true e) (h p hp)
  · intro h p hp e
    exact h ⟨p, hp, of_decide_eq_true e⟩
end Go.Proofs.YtnhlnhmjnnopaaaGreatDoor

/- Maps from texts to values, in a walk. -/
namespace Go.Proofs.YtnhlnhmjnnopaaaGreatDoor
open Go.RowKit Go.Maps

section
variable {W : World} {mb n : Nat} {l : HL} {s : ByteArray} {v z : Value} {t e : TypeId}
/-- a map of the call's own -/
abbrev HMap (W : World) (mb n : Nat) (l : HL) : Prop := W.ownsMap Tryz.prog 9 heldE mb n (hmap l)
theorem HMap.off {W' : World} {L : List Nat} (h : HMap W mb n l) (hf : Off L W W') (hm : mb ∉ L) : HMap W' mb n l := by
  obtain ⟨es, clock, h1, h2, h3, h4⟩ := h
  exact ⟨es, clock, (hf.block mb (Array.getElem?_eq_some_iff.1 h1).1 hm).trans h1, h2, h3, h4⟩
theorem HMap.below {W' : World} (h : HMap W mb n l) (hb : Below W.heap.size W W') : HMap W' mb n l := h.off ((Off.refl [] W).below hb (Nat.le_refl _)) (by simp)
theorem HMap.kept {W' : World} (h : HMap W mb n l) (hk : ∀ (k : Nat) es c, W.heap[k]? = some (Obj.map es c) → W'.heap[k]? = W.heap[k]?) : HMap W' mb n l := by
  obtain ⟨es, clock, h1, h2, h3, h4⟩ := h
  exact ⟨es, clock, (hk _ _ _ h1).trans h1, h2, h3, h4⟩
theorem HMap.blk (h : HMap W mb n l) : ∃ es c, W.heap[mb]? = some (Obj.map es c) := by
  obtain ⟨es, clock, h1, _⟩ := h
  exact ⟨es, clock, h1⟩
theorem hm_some (h : HMap W mb n l) (ht : Tryz.prog.underlying t = some (.map 9 e)) (hz : (zeroValue e).run Tryz.prog W = .ok z W) (hs : s.size ≤ maxLen) (hn : (l.map (·.1)).Nodup) (hk : hlook l s.data.toList = some v) :
    (Instr.lookup t (.map (some mb)) (.string s) true).run Tryz.prog W = .ok (.tuple #[v, .bool true]) W := by
  obtain ⟨u, ps, hr, hu⟩ := World.ownsMap.look_ok h (string_keyed Tryz.underlying9) ht hz (show heldE z = some (.held z, []) from rfl) (strK s hs)
  obtain ⟨h1, h2⟩ := hmap_some hn hk (.held z)
  rw [h2] at hr
  rw [h1] at hu
  simp only [heldE, Option.some.injEq, Prod.mk.injEq, DataW.held.injEq] at hu
  obtain ⟨rfl, _⟩ := hu
  exact hr
theorem hm_none (h : HMap W mb n l) (ht : Tryz.prog.underlying t = some (.map 9 e)) (hz : (zeroValue e).run Tryz.prog W = .ok z W) (hs : s.size ≤ maxLen) (hk : hlook l s.data.toList = none) :
    (Instr.lookup t (.map (some mb)) (.string s) true).run Tryz.prog W = .ok (.tuple #[z, .bool false]) W := by
  obtain ⟨u, ps, hr, hu⟩ := World.ownsMap.look_ok h (string_keyed Tryz.underlying9) ht hz (show heldE z = some (.held z, []) from rfl) (strK s hs)
  obtain ⟨h1, h2⟩ := hmap_none hk (.held z)
  rw [h2] at hr
  rw [h1] at hu
  simp only [heldE, Option.some.injEq, Prod.mk.injEq, DataW.held.injEq] at hu
  obtain ⟨rfl, _⟩ := hu
  exact hr
theorem hm_some1 (h : HMap W mb n l) (ht : Tryz.prog.underlying t = some (.map 9 e)) (hz : (zeroValue e).run Tryz.prog W = .ok z W) (hs : s.size ≤ maxLen) (hn : (l.map (·.1)).Nodup) (hk : hlook l s.data.toList = some v) :
    (Instr.lookup t (.map (some mb)) (.string s) false).run Tryz.prog W = .ok v W := by
  obtain ⟨u, ps, hr, hu⟩ := World.ownsMap.lookup h (string_keyed Tryz.underlying9) ht hz (show heldE z = some (.held z, []) from rfl) (strK s hs)
  obtain ⟨h1, h2⟩ := hmap_some hn hk (.held z)
  rw [h1] at hu
  simp only [heldE, Option.some.injEq, Prod.mk.injEq, DataW.held.injEq] at hu
  obtain ⟨rfl, _⟩ := hu
  exact hr
theorem hm_none1 (h : HMap W mb n l) (ht : Tryz.prog.underlying t = some (.map 9 e)) (hz : (zeroValue e).run Tryz.prog W = .ok z W) (hs : s.size ≤ maxLen) (hk : hlook l s.data.toList = none) :
    (Instr.lookup t (.map (some mb)) (.string s) false).run Tryz.prog W = .ok z W := by
  obtain ⟨u, ps, hr, hu⟩ := World.ownsMap.lookup h (string_keyed Tryz.underlying9) ht hz (show heldE z = some (.held z, []) from rfl) (strK s hs)
  obtain ⟨h1, h2⟩ := hmap_none hk (.held z)
  rw [h1] at hu
  simp only [heldE, Option.some.injEq, Prod.mk.injEq, DataW.held.injEq] at hu
  obtain ⟨rfl, _⟩ := hu
  exact hr
theorem hm_put (h : HMap W mb n l) (ht : Tryz.prog.underlying t = some (.map 9 e)) (hn : n < maxLen) (hs : s.size ≤ maxLen) (v : Value) :
    ∃ W', (Instr.mapUpdate t (.map (some mb)) (.string s) v).run Tryz.prog W = .ok () W' ∧ HMap W' mb (n + 1) (l ++ [(s.data.toList, v)]) ∧ Off [mb] W W' := by
  obtain ⟨W', h1, h2, h3⟩ := World.ownsMap.update h (string_keyed Tryz.underlying9) ht hn (strK s hs) (show heldE v = some (.held v, []) from rfl)
  rw [hmap_snoc] at h2
  exact ⟨W', h1, h2, grown_off h3 (fun k hk => by cases hk; simp)⟩
theorem hm_made (W : World) : HMap (W.alloc (.map #[] 0)) W.heap.size 0 [] := World.ownsMap_made W Tryz.prog 9 heldE
end
end Go.Proofs.YtnhlnhmjnnopaaaGreatDoor

/- strings.trimRightASCII, trimLeftASCII, strings.Trim with a set of ASCII signs. -/
namespace Go.Proofs.YtnhlnhmjnnopaaaGreatDoor
open Go.RowKit

/-- The set at block b holds just what P tells. -/
def SetAt (w : World) (b : Nat) (P : UInt8 → Bool) : Prop := ∀ x : UInt8, w.cell? ⟨b, x.toNat, none⟩ = some (.bool (P x))

def sizeOfV : Value → Nat
  | .string t => t.size
  | _ => 0

def TrimR (s t : ByteArray) (P : UInt8 → Bool) : Prop := ∃ r : List UInt8, s.data.toList = t.data.toList ++ r ∧ r.all P = true ∧ (t.data.toList = [] ∨ ∃ l c, t.data.toList = l ++ [c] ∧ P c = false)
def HeadR (s t : ByteArray) (P : UInt8 → Bool) : Prop := ∃ r : List UInt8, s.data.toList = t.data.toList ++ r ∧ r.all P = true
theorem last_split (t : ByteArray) (h : 0 < t.size) (hi : t.size - 1 < t.size) : t.data.toList = (t.extract 0 (t.size - 1)).data.toList ++ [t[t.size - 1]] := by
  have hl : t.data.toList.length = t.size := by simp
  have e : (t.extract 0 (t.size - 1)).data.toList = t.data.toList.take (t.size - 1) := by rw [Lib.extract_data, List.drop_zero, Nat.sub_zero]
  rw [e]
  have hg : t.data.toList[t.size - 1]? = some t[t.size - 1] := by
    rw [List.getElem?_eq_getElem (by omega)]
    rfl
  have h2 := List.take_add_one (l := t.data.toList) (i := t.size - 1)
  rw [hg, show t.size - 1 + 1 = t.size by omega, List.take_of_length_le (by omega)] at h2
  exact h2

theorem trim_right (s : ByteArray) (b : Nat) (P : UInt8 → Bool) (w : World) (hS : SetAt w b P) (hs : s.size ≤ 9000000000000000000) :
    Calls Tryz.prog 65 #[.string s, .pointer (some ⟨b, 0, none⟩)] w fun e w' =>
      ∃ t : ByteArray, e = .returned (.string t) ∧ TrimR s t P ∧ w' = w := by
  have HS := Lib.hid hS
  clear hS
  go_enter Tryz.func65, Tryz.ntmps65
  go_wp2_with fail
  go_loop [0] (fun v => ∃ t : ByteArray, v = .string t ∧ t.size ≤ s.size ∧ Hid (HeadR s t P)) (fun v => sizeOfV v)
  case atStart => exact ⟨s, rfl, Nat.le_refl _, Lib.hid ⟨[], by simp, rfl⟩⟩
  case round =>
    obtain ⟨t, rfl, hle, hall⟩ := hrel
    by_cases h0 : t.size = 0
    · have he : t = ⟨#[]⟩ := by
        apply ByteArray.ext
        exact Array.eq_empty_of_size_eq_zero h0
      subst he
      go_wp2_with fail
      go_ret
      obtain ⟨r, h1, h2⟩ := hall.out
      exact ⟨⟨#[]⟩, rfl, ⟨r, h1, h2, .inl rfl⟩, rfl⟩
    · have hi : t.size - 1 < t.size := by omega
      have hc := HS.out t[t.size - 1]
      have e1 : IntKind.i64.wrap ((t.size : Int) - 1) = (t.size : Int) - 1 := IntWalk.i64_in _ (by omega)
      have e2 : ((t.size : Int) - 1).toNat = t.size - 1 := by omega
      have i0 : (0 : Int) ≤ (t.size : Int) - 1 := by omega
      have i1 : (t.size : Int) - 1 < (t.size : Int) := by omega
      have i2 : (0 : Int) < (t.size : Int) := by omega
      have hsp := Lib.hid (last_split t (by omega) hi)
      cases hp : P t[t.size - 1]
      · rw [hp] at hc
        go_wp2_with fail
        refine (Tryz.asciiSet_contains b _ false w hc).mono ?_
        rintro e w1 ⟨rfl, rfl⟩
        go_wp2_with fail
        go_ret
        obtain ⟨r, h1, h2⟩ := hall.out
        exact ⟨t, rfl, ⟨r, h1, h2, .inr ⟨_, _, hsp.out, hp⟩⟩, rfl⟩
      · rw [hp] at hc
        go_wp2_with fail
        refine (Tryz.asciiSet_contains b _ true w hc).mono ?_
        rintro e w1 ⟨rfl, rfl⟩
        go_wp2_with fail
        go_round
        case rel =>
          refine ⟨_, rfl, ?_, ?_⟩
          · simp; omega
          · obtain ⟨r, h1, h2⟩ := hall.out
            refine Lib.hid ⟨t[t.size - 1] :: r, ?_, by simp [hp]; simpa using h2⟩
            rw [h1, hsp.out, List.append_assoc]
            rfl
        case measure => simp [sizeOfV]; omega

def TrimL (s t : ByteArray) (P : UInt8 → Bool) : Prop := ∃ r : List UInt8, s.data.toList = r ++ t.data.toList ∧ r.all P = true ∧ (t.data.toList = [] ∨ ∃ c l, t.data.toList = c :: l ∧ P c = false)
def HeadL (s t : ByteArray) (P : UInt8 → Bool) : Prop := ∃ r : List UInt8, s.data.toList = r ++ t.data.toList ∧ r.all P = true
theorem first_split (t : ByteArray) (h : 0 < t.size) : t.data.toList = t[0] :: (t.extract 1 t.size).data.toList := by
  have hl : t.data.toList.length = t.size := by simp
  rw [Lib.extract_data, List.take_of_length_le (by rw [List.length_drop]; omega)]
  have hg : t.data.toList[0]? = some t[0] := by
    rw [List.getElem?_eq_getElem (by omega)]
    rfl
  generalize t.data.toList = L at *
  cases L with
  | nil => simp at hg
  | cons x L => simp at hg; simp [hg]

theorem trim_left (s : ByteArray) (b : Nat) (P : UInt8 → Bool) (w : World) (hS : SetAt w b P) (hs : s.size ≤ 9000000000000000000) :
    Calls Tryz.prog 64 #[.string s, .pointer (some ⟨b, 0, none⟩)] w fun e w' =>
      ∃ t : ByteArray, e = .returned (.string t) ∧ TrimL s t P ∧ w' = w := by
  have HS := Lib.hid hS
  clear hS
  go_enter Tryz.func64, Tryz.ntmps64
  go_wp2_with fail
  go_loop [0] (fun v => ∃ t : ByteArray, v = .string t ∧ t.size ≤ s.size ∧ Hid (HeadL s t P)) (fun v => sizeOfV v)
  case atStart => exact ⟨s, rfl, Nat.le_refl _, Lib.hid ⟨[], by simp, rfl⟩⟩
  case round =>
    obtain ⟨t, rfl, hle, hall⟩ := hrel
    by_cases h0 : t.size = 0
    · have he : t = ⟨#[]⟩ := by
        apply ByteArray.ext
        exact Array.eq_empty_of_size_eq_zero h0
      subst he
      go_wp2_with fail
      go_ret
      obtain ⟨r, h1, h2⟩ := hall.out
      exact ⟨⟨#[]⟩, rfl, ⟨r, h1, h2, .inl rfl⟩, rfl⟩
    · have hi : 0 < t.size := by omega
      have hc := HS.out t[0]
      have i2 : (0 : Int) < (t.size : Int) := by omega
      have i3 : (1 : Int) ≤ (t.size : Int) := by omega
      have hsp := Lib.hid (first_split t hi)
      cases hp : P t[0]
      · rw [hp] at hc
        go_wp2_with fail
        refine (Tryz.asciiSet_contains b _ false w hc).mono ?_
        rintro e w1 ⟨rfl, rfl⟩
        go_wp2_with fail
        go_ret
        obtain ⟨r, h1, h2⟩ := hall.out
        exact ⟨t, rfl, ⟨r, h1, h2, .inr ⟨_, _, hsp.out, hp⟩⟩, rfl⟩
      · rw [hp] at hc
        go_wp2_with fail
        refine (Tryz.asciiSet_contains b _ true w hc).mono ?_
        rintro e w1 ⟨rfl, rfl⟩
        go_wp2_with fail
        go_round
        case rel =>
          refine ⟨_, rfl, ?_, ?_⟩
          · simp; omega
          · obtain ⟨r, h1, h2⟩ := hall.out
            refine Lib.hid ⟨r ++ [t[0]], ?_, by rw [List.all_append, h2]; simp [hp]⟩
            rw [h1, hsp.out, List.append_assoc]
            rfl
        case measure => simp [sizeOfV]; omega
end Go.Proofs.YtnhlnhmjnnopaaaGreatDoor

/- strings.Trim with a set of ASCII signs, two or more. -/
namespace Go.Proofs.YtnhlnhmjnnopaaaGreatDoor
open Go.RowKit

theorem trim_set (cs : ByteArray) (ha : ∀ (j : Nat) (b : UInt8), cs.data.toList[j]? = some b → b.toNat < 128) (hl : 2 ≤ cs.size) (hl2 : cs.size ≤ 100) (s : ByteArray) (w : World) (h0 : 0 < s.size) (hs : s.size ≤ 9000000000000000000) :
    Calls Tryz.prog 40 #[.string s, .string cs] w fun e w' => ∃ t u : ByteArray, e = .returned (.string u) ∧ TrimR s t (cs.data.toList.contains ·) ∧ TrimL t u (cs.data.toList.contains ·) ∧ Below w.heap.size w w' := by
  have hv : ∀ w, (zeroValue 128).run Tryz.prog w = .ok (.agg (Array.replicate 256 (.bool false))) w := fun _ => by kernel_rfl
  have hmk := fun w => Tryz.strings_makeASCIISet hv cs w (by omega) ha
  have ne : ∀ t : ByteArray, 0 < t.size → ¬ t.toList = [] := fun t ht => by
    rw [Lib.toList_data]
    intro h
    have : t.data.toList.length = t.size := by simp
    rw [h] at this
    simp at this
    omega
  have n1 : ¬ s.toList = [] := ne s h0
  have n2 : s.toList.isEmpty = false := by cases h : s.toList with | nil => exact absurd h n1 | cons x l => rfl
  have m1 : ¬ cs.toList = [] := ne cs (by omega)
  have n3 : cs.toList.isEmpty = false := by cases h : cs.toList with | nil => exact absurd h m1 | cons x l => rfl
  have n4 : ¬ ((cs.size : Int) = 1) := by omega
  have HM := Lib.hid hmk
  have hz : (Lib.setCells cs.data.toList).size = 256 := Lib.setCells_size _
  have hone : (Lib.setCells cs.data.toList).all (·.oneCell') = true := Lib.setCells_one _
  have hat := Lib.hid (fun x => Lib.setCells_at cs.data.toList x)
  clear hmk ha ne
  go_enter Tryz.func40, Tryz.ntmps40
  go_wp2_with fail
  refine (HM.out w).mono ?_
  rintro e w1 ⟨rfl, hw1⟩
  generalize Lib.setCells cs.data.toList = Z at *
  have hin : (Tryz.prog.info? 128).map (·.size) = some Z.size := by rw [hz]; kernel_rfl
  have hst := run_storeCells_new (P := Tryz.prog) w1 128 (Array.replicate 256 (.bool false)) Z hin (by rw [hz]; simp) hone
  subst hw1
  have hsz : (w.alloc (.cells Z 128)).heap.size = w.heap.size + 1 := by simp
  rw [hsz] at hst
  have hS : SetAt ((w.alloc (.cells Z 128)).alloc (.cells Z 128)) (w.heap.size + 1) (cs.data.toList.contains ·) := fun x => by
    have h := heap_alloc_new (w.alloc (.cells Z 128)) (.cells Z 128)
    have h2 := hat.out x
    rw [hsz] at h
    unfold World.cell?
    rw [h]
    exact h2
  have HS := Lib.hid hS
  clear hS hin hone
  go_wp2_with fail
  refine (trim_right s _ _ _ HS.out hs).mono ?_
  rintro e w2 ⟨t, rfl, hR, rfl⟩
  have hts : t.size ≤ s.size := by
    obtain ⟨r, h1, _⟩ := hR
    have := congrArg List.length h1
    simp at this
    omega
  have HR := Lib.hid hR
  clear hR
  go_wp2_with fail
  refine (trim_left t _ _ _ HS.out (by omega)).mono ?_
  rintro e w3 ⟨u, rfl, hL, rfl⟩
  have HL := Lib.hid hL
  clear hL
  go_wp2_with fail
  go_ret
  exact ⟨t, u, rfl, HR.out, HL.out, (by (repeat (first | with_reducible exact Below.refl _ _ | with_reducible refine bel_set ?_ ?_ | with_reducible refine bel_alloc ?_ ?_ | with_reducible refine Below.drew ?_ | with_reducible refine bel_drewN _ ?_ | with_reducible refine bel_call ?_ (by assumption) ?_)); all_goals (first | (simp; done) | omega | (simp; omega)))⟩

theorem trim_none (P : UInt8 → Bool) {s t u : ByteArray} (h1 : TrimR s t P) (h2 : TrimL t u P) : (u.data.toList = [] ↔ s.data.toList.all P = true) := by
  obtain ⟨r, e1, r1, c1⟩ := h1
  obtain ⟨q, e2, q1, c2⟩ := h2
  rw [e1, e2]
  constructor
  · intro hu
    rw [hu, List.append_nil, List.all_append, q1, r1]; rfl
  · intro hall
    rcases c2 with h | ⟨c, l, h, hc⟩
    · exact h
    · rw [h] at hall
      simp only [List.all_append, List.all_cons, hc, Bool.false_and, Bool.and_false] at hall
      cases hall
end Go.Proofs.YtnhlnhmjnnopaaaGreatDoor

/- prop.key. -/
namespace Go.Proofs.YtnhlnhmjnnopaaaGreatDoor
open Go.RowKit

def keySet : ByteArray := ⟨#[97, 98, 99, 100, 101, 102, 103, 104, 105, 106, 107, 108, 109, 110, 111, 112, 113, 114, 115, 116, 117, 118, 119, 120, 121, 122, 48, 49, 50, 51, 52, 53, 54, 55, 56, 57, 46, 95]⟩
theorem keySet_ascii : ∀ (j : Nat) (b : UInt8), keySet.data.toList[j]? = some b → b.toNat < 128 := by
  intro j b h
  have hm := List.mem_of_getElem? h
  have : ∀ x ∈ keySet.data.toList, x.toNat < 128 := by decide
  exact this b hm
theorem keySet_is (c : UInt8) : keySet.data.toList.contains c = keyC c := by
  have h : ∀ n : Fin 256, keySet.data.toList.contains (UInt8.ofNat n) = keyC (UInt8.ofNat n) := by decide +kernel
  have := h ⟨c.toNat, c.toNat_lt⟩
  simpa using this
theorem keySet_all (s : List UInt8) : s.all (keySet.data.toList.contains ·) = s.all keyC := by
  congr 1
  funext c
  exact keySet_is c

set_option maxHeartbeats 1000000 in
theorem prop_key (s : ByteArray) (w : World) (hs : s.size ≤ 9223372036854775807) :
    Calls Tryz.prog 29 #[.string s] w fun e w' => e = .returned (.bool (keyOk s)) ∧ Below w.heap.size w w' := by
  go_enter Tryz.func29, Tryz.ntmps29
  by_cases h0 : s.size = 0
  · have he : s = ⟨#[]⟩ := ByteArray.ext (Array.eq_empty_of_size_eq_zero h0)
    subst he
    have HD : Hid (keyOk ⟨#[]⟩ = false) := Lib.hid (by decide)
    go_wp2_with fail
    go_ret
    exact ⟨ret_bool HD.out.symm, (by (repeat (first | with_reducible exact Below.refl _ _ | with_reducible refine bel_set ?_ ?_ | with_reducible refine bel_alloc ?_ ?_ | with_reducible refine Below.drew ?_ | with_reducible refine bel_drewN _ ?_ | with_reducible refine bel_call ?_ (by assumption) ?_)); all_goals (first | (simp; done) | omega | (simp; omega)))⟩
  · have n1 : ¬ s.toList = [] := by
      rw [Lib.toList_data]
      intro h
      exact h0 (by have h2 := congrArg List.length h; rw [Array.length_toList] at h2; exact h2)
    have n2 : s.toList.isEmpty = false := by cases h : s.toList with | nil => exact absurd h n1 | cons x l => rfl
    by_cases h5 : s.size ≤ 40
    · have i5 : (s.size : Int) ≤ 40 := by omega
      go_wp2_with fail
      refine (trim_set keySet keySet_ascii (by decide) (by decide) s w (by omega) (by omega)).mono ?_
      rintro e w1 ⟨t, u, rfl, hR, hL, hb1⟩
      have hiff := trim_none _ hR hL
      have hd : keyOk s = s.data.toList.all (keySet.data.toList.contains ·) := by
        unfold keyOk
        rw [decide_eq_true h5, decide_eq_true h0, Bool.true_and, Bool.true_and, keySet_all]
      cases hA : s.data.toList.all (keySet.data.toList.contains ·)
      · have m1 : ¬ u.toList = [] := by
          rw [Lib.toList_data]
          intro h
          rw [hiff.1 h] at hA
          cases hA
        have m2 : u.toList.isEmpty = false := by cases h : u.toList with | nil => exact absurd h m1 | cons x l => rfl
        have HD := Lib.hid (hd.trans hA)
        clear hR hL hiff hA hd
        go_wp2_with fail
        go_ret
        exact ⟨ret_bool HD.out.symm, (by (repeat (first | with_reducible exact Below.refl _ _ | with_reducible refine bel_set ?_ ?_ | with_reducible refine bel_alloc ?_ ?_ | with_reducible refine Below.drew ?_ | with_reducible refine bel_drewN _ ?_ | with_reducible refine bel_call ?_ (by assumption) ?_)); all_goals (first | (simp; done) | omega | (simp; omega)))⟩
      · have m1 : u.toList = [] := by rw [Lib.toList_data]; exact hiff.2 hA
        have HD := Lib.hid (hd.trans hA)
        clear hR hL hiff hA hd
        go_wp2_with fail
        go_ret
        exact ⟨ret_bool HD.out.symm, (by (repeat (first | with_reducible exact Below.refl _ _ | with_reducible refine bel_set ?_ ?_ | with_reducible refine bel_alloc ?_ ?_ | with_reducible refine Below.drew ?_ | with_reducible refine bel_drewN _ ?_ | with_reducible refine bel_call ?_ (by assumption) ?_)); all_goals (first | (simp; done) | omega | (simp; omega)))⟩
    · have i5 : ¬ (s.size : Int) ≤ 40 := by omega
      have HD : Hid (keyOk s = false) := Lib.hid (by unfold keyOk; rw [decide_eq_false h5, Bool.false_and, Bool.and_false])
      go_wp2_with fail
      go_ret
      exact ⟨ret_bool HD.out.symm, (by (repeat (first | with_reducible exact Below.refl _ _ | with_reducible refine bel_set ?_ ?_ | with_reducible refine bel_alloc ?_ ?_ | with_reducible refine Below.drew ?_ | with_reducible refine bel_drewN _ ?_ | with_reducible refine bel_call ?_ (by assumption) ?_)); all_goals (first | (simp; done) | omega | (simp; omega)))⟩
end Go.Proofs.YtnhlnhmjnnopaaaGreatDoor

/- strings.Join of a row of texts that lie there. -/
namespace Go.Proofs.YtnhlnhmjnnopaaaGreatDoor
open Go.RowKit

theorem OwnsS.cap {w : World} {base : Nat} {A : Option Addr} {n c : Nat} {xs : List ByteArray} (h : OwnsS w base (.slice A n c) xs) : n = xs.length ∧ n ≤ c := by
  rcases h.2 with ⟨h1, h2⟩ | ⟨g, cap, cur, h1, h3, h4, h5, _⟩
  · cases h1
    exact ⟨h2.symm, Nat.le_refl _⟩
  · cases h1
    exact ⟨rfl, h5⟩
theorem strings_joinW {A : Option Addr} {c : Nat} {xs : List ByteArray} (n : Nat) (sep : ByteArray) (w : World) (hn : xs.length = n) (h : StrsIn w A xs) (hc : n ≤ c) (hN : n ≤ 140737488355328) (hlen : (Lib.join (xs.map (·.data.toList)) sep.data.toList).length ≤ 140737488355328) :
    Calls Tryz.prog 88 #[.slice A n c, .string sep] w fun e w' => e = .returned (.string ⟨(Lib.join (xs.map (·.data.toList)) sep.data.toList).toArray⟩) ∧ Below w.heap.size w w' := by
  subst hn
  by_cases h0 : xs = []
  · subst h0
    refine (Tryz.strings_Join_none _ c sep w).mono ?_
    rintro e w' ⟨rfl, rfl⟩
    exact ⟨rfl, Below.refl _ _⟩
  · rcases h with h | ⟨bk, o, rfl, hcell⟩
    · exact absurd h h0
    · obtain ⟨x, r, rfl⟩ := List.exists_cons_of_ne_nil h0
      exact Tryz.strings_Join bk o c (x :: r) sep w hcell (lt_of_cell (hcell 0 x rfl)) (by omega) hc hlen
end Go.Proofs.YtnhlnhmjnnopaaaGreatDoor

/- Two texts, one behind the other, by a name of its own. -/
namespace Go.Proofs.YtnhlnhmjnnopaaaGreatDoor
open Go.RowKit

theorem add_let (x y : ByteArray) (h : x.size + y.size ≤ 100000) : ∃ z : ByteArray, z = x ++ y ∧ ∀ W : World, (Op.stringOp .add x y).run Tryz.prog W = .ok (.string z) W :=
  ⟨x ++ y, rfl, fun W => run_string_add_sum W _ _ (by omega)⟩
end Go.Proofs.YtnhlnhmjnnopaaaGreatDoor

/- A bundle that is put together in a box of one's own. -/
namespace Go.Proofs.YtnhlnhmjnnopaaaGreatDoor
open Go.RowKit

theorem Off.past {l m : List Nat} {a b c : World} (h : Off l a b) (k : Off m b c) (hm : ∀ g ∈ m, g ∈ l ∨ a.heap.size ≤ g) : Off l a c :=
  ⟨k.os.trans h.os, k.tape.trans h.tape, k.output.trans h.output, Nat.le_trans h.size k.size, fun i hi hl => (k.block i (Nat.lt_of_lt_of_le hi h.size) (fun hn => by
    rcases hm i hn with h1 | h1
    · exact hl h1
    · omega)).trans (h.block i hi hl)⟩
structure PutAt (w0 W : World) (pb : Nat) (tg : ByteArray) (acc : List EntC) : Prop where
  box : ∃ v, W.cell? ⟨pb, 1, none⟩ = some v ∧ OwnsG kEnt W w0.heap.size v acc
  c0 : W.cell? ⟨pb, 0, none⟩ = some (.string tg)
  ty : TyAt W pb 24
  off : Off [pb] w0 W
  lt : pb < w0.heap.size
theorem PutAt.start {w0 : World} {pb : Nat} {tg : ByteArray} (h0 : w0.cell? ⟨pb, 0, none⟩ = some (.string tg)) (h1 : w0.cell? ⟨pb, 1, none⟩ = some (.slice none 0 0)) (ht : TyAt w0 pb 24) : PutAt w0 w0 pb tg [] :=
  ⟨⟨_, h1, OwnsG.nil _ _⟩, h0, ht, Off.refl _ _, ht.lt⟩
theorem PutAt.step {w0 W W' : World} {pb : Nat} {tg : ByteArray} {acc : List EntC} (h : PutAt w0 W pb tg acc) (hb : Below W.heap.size W W') : PutAt w0 W' pb tg acc := by
  obtain ⟨⟨v, h1, h2⟩, h3, h4, h5, h6⟩ := h
  exact ⟨⟨v, carry hb h1, h2.below hb⟩, carry hb h3, h4.below hb, h5.below hb h5.size, h6⟩
/-- one append, stored into the box -/
theorem PutAt.more {w0 W Wa w8 : World} {pb : Nat} {tg : ByteArray} {acc : List EntC} {x : EntC} {v v' : Value} (h : PutAt w0 W pb tg acc) (hc : W.cell? ⟨pb, 1, none⟩ = some v) (hO : OwnsG kEnt W w0.heap.size v acc) (hBa : Below W.heap.size W Wa)
    (h8 : OwnsG kEnt w8 w0.heap.size v' (acc ++ [x])) (hF : Off v.ownBlock.toList Wa w8) :
    w8.cell? ⟨pb, 1, none⟩ = some v ∧ w8.frozen? ⟨pb, 1, none⟩ = false ∧ PutAt w0 (w8.setCell ⟨pb, 1, none⟩ v') pb tg (acc ++ [x]) := by
  have n1 : pb ∉ v.ownBlock.toList := h.ty.not hO (by decide)
  have hT8 : TyAt w8 pb 24 := (h.ty.below hBa).off hF n1
  have c8 := hF.cell (carry hBa hc) n1
  have c80 := hF.cell (carry hBa h.c0) n1
  have hn : pb ∉ v'.ownBlock.toList := hT8.not h8 (by decide)
  have hf8 : Off [pb] w8 (w8.setCell ⟨pb, 1, none⟩ v') := (Off.refl [pb] w8).setCell _ _ (by simp)
  refine ⟨c8, hT8.frozen 1, ⟨⟨v', cell_same c8, h8.off hf8 (fun g hg hm => ?_)⟩, cell_other c80 (by simp), hT8.set _ _ _, ?_, h.lt⟩⟩
  · simp only [List.mem_singleton] at hm
    subst hm
    exact hn (by simp [hg])
  · exact ((h.off.below hBa h.off.size).past hF (fun g hg => .inr (hO.block g hg).1)).past hf8 (fun g hg => .inl hg)
end Go.Proofs.YtnhlnhmjnnopaaaGreatDoor

/- A bundle's lines, in plain terms. No program stands here. -/
namespace Go.Proofs.YtnhlnhmjnnopaaaGreatDoor

def escB (c : UInt8) : List UInt8 := if c = 92 then [92, 92] else if c = 10 then [92, 110] else if c = 13 then [92, 114] else [c]
/-- a text, escaped -/
def escP (s : List UInt8) : List UInt8 := s.flatMap escB
def unB (c : UInt8) : UInt8 := if c = 110 then 10 else if c = 114 then 13 else 92
/-- an escaped text, bare again -/
def bareP : List UInt8 → List UInt8
  | [] => []
  | [c] => [c]
  | c :: d :: r => if c = 92 then unB d :: bareP r else c :: bareP (d :: r)
theorem bare_two (d : UInt8) (r : List UInt8) : bareP (92 :: d :: r) = unB d :: bareP r := by
  rw [bareP]
  exact if_pos rfl
theorem bare_other (c : UInt8) (h : c ≠ 92) : ∀ l, bareP (c :: l) = c :: bareP l
  | [] => rfl
  | d :: r => by rw [bareP, if_neg h]
theorem bare_esc : ∀ s, bareP (escP s) = s
  | [] => rfl
  | c :: r => by
    have ih := bare_esc r
    show bareP (escB c ++ escP r) = _
    unfold escB
    by_cases h1 : c = 92
    · subst h1
      rw [if_pos rfl]
      show bareP (92 :: 92 :: escP r) = _
      rw [bare_two, ih]
      rfl
    · rw [if_neg h1]
      by_cases h2 : c = 10
      · subst h2
        rw [if_pos rfl]
        show bareP (92 :: 110 :: escP r) = _
        rw [bare_two, ih]
        rfl
      · rw [if_neg h2]
        by_cases h3 : c = 13
        · subst h3
          rw [if_pos rfl]
          show bareP (92 :: 114 :: escP r) = _
          rw [bare_two, ih]
          rfl
        · rw [if_neg h3]
          show bareP (c :: escP r) = _
          rw [bare_other c h1, ih]
theorem esc_no (s : List UInt8) : (10 : UInt8) ∉ escP s := by
  intro h
  obtain ⟨c, _, hc⟩ := List.mem_flatMap.1 h
  unfold escB at hc
  split at hc
  · revert hc; decide
  · split at hc
    · revert hc; decide
    · rename_i h2
      split at hc
      · revert hc; decide
      · exact h2 (List.mem_singleton.1 hc).symm
theorem esc_len (s : List UInt8) : (escP s).length ≤ 2 * s.length := by
  induction s with
  | nil => simp [escP]
  | cons c r ih =>
    show (escB c ++ escP r).length ≤ _
    rw [List.length_append, List.length_cons]
    have : (escB c).length ≤ 2 := by unfold escB; split; exact Nat.le_refl 2; split; exact Nat.le_refl 2; split; exact Nat.le_refl 2; exact Nat.le_succ 1
    omega

theorem esc_one (c : UInt8) : (escB c).length = 1 + ((if c = 92 then 1 else 0) + (if c = 10 then 1 else 0) + (if c = 13 then 1 else 0)) := by
  unfold escB
  by_cases h1 : c = 92
  · subst h1; rfl
  · by_cases h2 : c = 10
    · subst h2; rfl
    · by_cases h3 : c = 13
      · subst h3; rfl
      · rw [if_neg h1, if_neg h2, if_neg h3, if_neg h1, if_neg h2, if_neg h3]; rfl
theorem esc_count : ∀ s : List UInt8, (escP s).length = s.length + (s.count 92 + s.count 10 + s.count 13)
  | [] => rfl
  | c :: r => by
    have ih := esc_count r
    show (escB c ++ escP r).length = _
    rw [List.length_append, ih, esc_one, List.length_cons, List.count_cons, List.count_cons, List.count_cons]
    simp only [beq_iff_eq]
    omega
theorem esc_none : ∀ s : List UInt8, s.count 92 + s.count 10 + s.count 13 = 0 → escP s = s
  | [], _ => rfl
  | c :: r, h => by
    rw [List.count_cons, List.count_cons, List.count_cons] at h
    simp only [beq_iff_eq] at h
    have h1 : c ≠ 92 := fun e => by rw [if_pos e] at h; omega
    have h2 : c ≠ 10 := fun e => by rw [if_pos e] at h; omega
    have h3 : c ≠ 13 := fun e => by rw [if_pos e] at h; omega
    show escB c ++ escP r = _
    rw [esc_none r (by omega)]
    unfold escB
    rw [if_neg h1, if_neg h2, if_neg h3]
    rfl
theorem esc_snoc (s : List UInt8) (c : UInt8) : escP (s ++ [c]) = escP s ++ escB c := by
  unfold escP
  rw [List.flatMap_append]
  simp
theorem esc_app (a b : List UInt8) : escP (a ++ b) = escP a ++ escP b := by unfold escP; rw [List.flatMap_append]
/-- what is left behind a place -/
theorem bare_at {s : List UInt8} {i : Nat} {c d : UInt8} (h : s[i]? = some c) (hd : s[i + 1]? = some d) : bareP (s.drop i) = if c = 92 then unB d :: bareP (s.drop (i + 2)) else c :: bareP (s.drop (i + 1)) := by
  obtain ⟨hi, rfl⟩ := List.getElem?_eq_some_iff.1 h
  obtain ⟨hj, rfl⟩ := List.getElem?_eq_some_iff.1 hd
  rw [List.drop_eq_getElem_cons hi, List.drop_eq_getElem_cons hj]
  by_cases hc : s[i] = 92
  · rw [if_pos hc, hc, bare_two]
  · rw [if_neg hc, bare_other _ hc]
theorem bare_end {s : List UInt8} {i : Nat} {c : UInt8} (h : s[i]? = some c) (he : s.length = i + 1) : bareP (s.drop i) = [c] := by
  obtain ⟨hi, rfl⟩ := List.getElem?_eq_some_iff.1 h
  rw [List.drop_eq_getElem_cons hi, List.drop_eq_nil_of_le (by omega)]
  rfl

/-- an entry's line -/
def lineP (e : EntC) : List UInt8 := e.key.data.toList ++ 61 :: (escP e.text.data.toList ++ [10])
def headP (tg : ByteArray) : List UInt8 := 64 :: (tg.data.toList ++ [10])
/-- a bundle's lines -/
def textP (tg : ByteArray) (es : List EntC) : List UInt8 := headP tg ++ es.flatMap lineP
def IsLine (l : List UInt8) : Prop := ∃ a, l = a ++ [10] ∧ (10 : UInt8) ∉ a
theorem key_not {k : ByteArray} (h : keyOk k = true) (c : UInt8) (hc : keyC c = false) : c ∉ k.data.toList := by
  unfold keyOk at h
  rw [Bool.and_eq_true, Bool.and_eq_true, List.all_eq_true] at h
  intro hm
  rw [h.2.2 c hm] at hc
  cases hc
theorem line_is {e : EntC} (h : keyOk e.key = true) : IsLine (lineP e) := by
  refine ⟨e.key.data.toList ++ 61 :: escP e.text.data.toList, by unfold lineP; simp, fun hm => ?_⟩
  rcases List.mem_append.1 hm with hm | hm
  · exact key_not h 10 (by decide +kernel) hm
  · rcases List.mem_cons.1 hm with hm | hm
    · cases hm
    · exact esc_no _ hm
/-- the line's key and text -/
theorem cut_line {e : EntC} (h : keyOk e.key = true) : Lib.cut (e.key.data.toList ++ 61 :: escP e.text.data.toList) [61] = (e.key.data.toList, escP e.text.data.toList, true) := by
  have hk := key_not h 61 (by decide +kernel)
  generalize e.key.data.toList = a at *
  have hi : ∀ (l : List UInt8), (61 : UInt8) ∉ l → Lib.index (l ++ 61 :: escP e.text.data.toList) [61] = l.length := fun l => by
    rw [Lib.index_one]
    induction l with
    | nil => intro _; rfl
    | cons x l ih =>
      intro hn
      have hx : (x == 61) = false := by rw [beq_eq_false_iff_ne]; exact fun e => hn (by rw [e]; exact List.mem_cons_self)
      have hl := ih (fun hm => hn (List.mem_cons_of_mem _ hm))
      show Lib.indexByte (x :: (l ++ 61 :: escP e.text.data.toList)) 61 = _
      rw [Lib.indexByte, hx, hl]
      first | (simp; done) | (simp; omega)
  unfold Lib.cut
  rw [hi a hk]
  simp
theorem line_parts (e : EntC) : lineP e = (e.key.data.toList ++ 61 :: escP e.text.data.toList) ++ [10] := by unfold lineP; simp
theorem line_first {e : EntC} (h : keyOk e.key = true) : ∃ x r, lineP e = x :: r ∧ keyC x = true := by
  unfold keyOk at h
  rw [Bool.and_eq_true, Bool.and_eq_true, List.all_eq_true] at h
  unfold lineP
  cases hk : e.key.data.toList with
  | nil =>
    have : e.key.size = 0 := by have := congrArg List.length hk; rw [Array.length_toList] at this; exact this
    rw [this] at h
    exact absurd h.1 (by decide)
  | cons x r => exact ⟨x, _, rfl, h.2.2 x (by rw [hk]; exact List.mem_cons_self)⟩
theorem index_line (a r : List UInt8) (h : (10 : UInt8) ∉ a) : Lib.index (a ++ [10] ++ r) [10] = a.length := by
  rw [Lib.index_one]
  induction a with
  | nil => rfl
  | cons x l ih =>
    have hx : (x == 10) = false := by rw [beq_eq_false_iff_ne]; exact fun e => h (by rw [e]; exact List.mem_cons_self)
    have hl := ih (fun hm => h (List.mem_cons_of_mem _ hm))
    show Lib.indexByte (x :: (l ++ [10] ++ r)) 10 = _
    rw [Lib.indexByte, hx, hl]
    first | (simp; done) | (simp; omega)
theorem split_lines : ∀ ls : List (List UInt8), (∀ l ∈ ls, IsLine l) → Lib.splitK [10] 1 ls.length ls.flatten = ls ++ [[]]
  | [], _ => rfl
  | l :: ls, h => by
    obtain ⟨a, ha, hn⟩ := h l List.mem_cons_self
    have ih := split_lines ls (fun x hx => h x (List.mem_cons_of_mem _ hx))
    rw [List.flatten_cons, List.length_cons, Lib.splitK, ha, index_line a _ hn]
    rw [if_neg (by simp)]
    have e1 : (a ++ [10] ++ ls.flatten).take ((a.length : Int).toNat + 1) = a ++ [10] := by
      rw [show (a.length : Int).toNat + 1 = (a ++ [10]).length by simp, List.take_left']
      rfl
    have e2 : (a ++ [10] ++ ls.flatten).drop ((a.length : Int).toNat + ([10] : List UInt8).length) = ls.flatten := by
      rw [show (a.length : Int).toNat + ([10] : List UInt8).length = (a ++ [10]).length by simp, List.drop_left']
      rfl
    rw [e1, e2, ih]
    rfl
theorem count_lines (ls : List (List UInt8)) (h : ∀ l ∈ ls, IsLine l) : Lib.count ls.flatten [10] = ls.length := by
  rw [Lib.count_one]
  induction ls with
  | nil => rfl
  | cons l ls ih =>
    obtain ⟨a, ha, hn⟩ := h l List.mem_cons_self
    rw [List.flatten_cons, List.count_append, ih (fun x hx => h x (List.mem_cons_of_mem _ hx)), ha, List.count_append, List.count_eq_zero_of_not_mem hn, List.length_cons]
    simp
    omega
end Go.Proofs.YtnhlnhmjnnopaaaGreatDoor

/- The signs of a right tag. No program stands here. -/
namespace Go.Proofs.YtnhlnhmjnnopaaaGreatDoor

def tagC (c : UInt8) : Bool := lowB c || (highB c || (numB c || c == 45))
theorem all_tag {p : UInt8 → Bool} (hp : ∀ c, p c = true → tagC c = true) {l : Bs} (h : l.all p = true) : l.all tagC = true := by
  rw [List.all_eq_true] at *
  exact fun x hx => hp x (h x hx)
theorem low_tag (c : UInt8) (h : lowB c = true) : tagC c = true := by unfold tagC; rw [h]; rfl
theorem high_tag (c : UInt8) (h : highB c = true) : tagC c = true := by unfold tagC; rw [h]; cases lowB c <;> rfl
theorem num_tag (c : UInt8) (h : numB c = true) : tagC c = true := by unfold tagC; rw [h]; cases lowB c <;> cases highB c <;> rfl
theorem both_tag (c : UInt8) (h : bothB c = true) : tagC c = true := by
  unfold bothB at h
  rw [Bool.or_eq_true] at h
  exact h.elim (low_tag c) (num_tag c)
theorem script_tag {s : Bs} (h : scriptB s = true) : s.all tagC = true := by
  unfold scriptB at h
  simp only [Bool.and_eq_true, decide_eq_true_eq] at h
  obtain ⟨h1, h2, h3⟩ := h
  obtain ⟨_, _, h4⟩ := madeB_len h3
  cases s with
  | nil => rfl
  | cons x r =>
    rw [List.all_cons, Bool.and_eq_true]
    exact ⟨high_tag x h2, all_tag low_tag h4⟩
theorem region_tag {s : Bs} (h : regionB s = true) : s.all tagC = true := by
  unfold regionB at h
  rw [Bool.or_eq_true] at h
  rcases h with h | h
  · exact all_tag high_tag (madeB_len h).2.2
  · exact all_tag num_tag (madeB_len h).2.2
theorem tail_tag : ∀ (ps : List Bs), (∀ p ∈ ps, p.all tagC = true) → (Lib.joinTail [45] ps).all tagC = true
  | [], _ => rfl
  | x :: r, h => by
    rw [show Lib.joinTail [45] (x :: r) = ([45] ++ x) ++ Lib.joinTail [45] r from rfl, List.all_append, List.all_append, h x List.mem_cons_self, tail_tag r (fun p hp => h p (List.mem_cons_of_mem _ hp))]
    rfl
theorem join_tag (ps : List Bs) (h : ∀ p ∈ ps, p.all tagC = true) : (Lib.join ps [45]).all tagC = true := by
  cases ps with
  | nil => rfl
  | cons x r =>
    rw [Lib.join_cons, List.all_append, h x List.mem_cons_self, tail_tag r (fun p hp => h p (List.mem_cons_of_mem _ hp))]
    rfl
theorem tail_short : ∀ (ps : List Bs) (B : Nat), (∀ p ∈ ps, p.length ≤ B) → (Lib.joinTail [45] ps).length ≤ ps.length * (B + 1)
  | [], _, _ => by simp [Lib.joinTail]
  | x :: r, B, h => by
    rw [show Lib.joinTail [45] (x :: r) = ([45] ++ x) ++ Lib.joinTail [45] r from rfl, List.length_append, List.length_append, show (x :: r).length = r.length + 1 from rfl, Nat.succ_mul]
    have := h x List.mem_cons_self
    have := tail_short r B (fun p hp => h p (List.mem_cons_of_mem _ hp))
    show 1 + x.length + _ ≤ _
    omega
/-- a right tag's own text: letters, digits, hyphens; not empty; short -/
theorem own_signs {s : Bs} (h : ownTag s = true) : s.all tagC = true ∧ 1 ≤ s.length ∧ s.length ≤ 200 := by
  unfold ownTag isTag at h
  simp only [Bool.and_eq_true, beq_iff_eq] at h
  obtain ⟨⟨h1, _⟩, h2⟩ := h
  unfold TagS.err at h1
  unfold TagS.text at h2
  obtain ⟨a1, a2, a3, a4, a5⟩ := tagErr_ok h1
  have hv := varErr_len _ _ a4
  generalize (madeT s).l = l at *
  generalize (madeT s).s = sc at *
  generalize (madeT s).r = r at *
  generalize (madeT s).vs = vs at *
  obtain ⟨l1, l2, l3⟩ := madeB_len a1
  have hl : l ≠ [] := by intro e; rw [e] at l1; simp at l1
  have hall : ∀ p ∈ partsL l sc r vs, p.all tagC = true ∧ p.length ≤ 8 := by
    intro p hp
    unfold partsL at hp
    rw [List.mem_filter] at hp
    rcases List.mem_append.1 hp.1 with hp | hp
    · simp only [List.mem_cons, List.not_mem_nil, or_false] at hp
      rcases hp with rfl | rfl | rfl
      · exact ⟨all_tag low_tag l3, by omega⟩
      · rcases a2 with rfl | a2
        · exact ⟨rfl, by simp⟩
        · exact ⟨script_tag a2, by rw [scriptB_len a2]; omega⟩
      · rcases a3 with rfl | a3
        · exact ⟨rfl, by simp⟩
        · exact ⟨region_tag a3, by have := regionB_len a3; omega⟩
    · obtain ⟨v1, v2, v3⟩ := madeB_len (hv p hp)
      exact ⟨all_tag both_tag v3, v2⟩
  have hn : (partsL l sc r vs).length ≤ 6 := by
    unfold partsL
    refine Nat.le_trans (List.length_filter_le _ _) ?_
    rw [List.length_append]
    simp
    omega
  have hlen : (tagText l sc r vs).length ≤ 200 ∧ 1 ≤ (tagText l sc r vs).length := by
    unfold tagText
    have hp : ∃ q, partsL l sc r vs = l :: q := by
      unfold partsL
      refine ⟨([sc, r] ++ vs).filter (fun x => !x.isEmpty), ?_⟩
      rw [show ([l, sc, r] ++ vs) = l :: ([sc, r] ++ vs) from rfl, List.filter_cons_of_pos (by simp [hl])]
    obtain ⟨q, hq⟩ := hp
    rw [hq] at hall hn ⊢
    rw [Lib.join_cons, List.length_append]
    have h8 := tail_short q 8 (fun p hp => (hall p (List.mem_cons_of_mem _ hp)).2)
    rw [List.length_cons] at hn
    have : q.length * (8 + 1) ≤ 5 * 9 := Nat.mul_le_mul_right 9 (by omega)
    omega
  rw [← h2]
  exact ⟨join_tag _ (fun p hp => (hall p hp).1), hlen.2, hlen.1⟩
/-- the signs that are cut off the head line are none of a tag's -/
theorem tag_not {s : Bs} (h : ownTag s = true) (c : UInt8) (hc : tagC c = false) : c ∉ s := by
  intro hm
  rw [List.all_eq_true.1 (own_signs h).1 c hm] at hc
  cases hc
theorem head_line {tg : ByteArray} (h : ownTag tg.data.toList = true) : IsLine (headP tg) := by
  refine ⟨64 :: tg.data.toList, by unfold headP; simp, fun hm => ?_⟩
  rcases List.mem_cons.1 hm with hm | hm
  · cases hm
  · exact tag_not h 10 (by decide +kernel) hm
end Go.Proofs.YtnhlnhmjnnopaaaGreatDoor

/- A bundle's lines read: plain laws. No program stands here. -/
namespace Go.Proofs.YtnhlnhmjnnopaaaGreatDoor

theorem trimP_right {P : UInt8 → Bool} {a t r : List UInt8} {x c : UInt8} (hc : P c = true) (hx : P x = false) (h : (a ++ [x]) ++ [c] = t ++ r) (hr : r.all P = true) (ht : t = [] ∨ ∃ l y, t = l ++ [y] ∧ P y = false) : t = a ++ [x] := by
  rcases List.eq_nil_or_concat r with rfl | ⟨r1, y, rfl⟩
  · rw [List.append_nil] at h
    rcases ht with rfl | ⟨l, y, rfl, hy⟩
    · simp at h
    · have := (List.append_inj' h rfl).2
      injection this with this
      rw [this, hy] at hc
      cases hc
  · rw [List.concat_eq_append] at h hr
    rw [← List.append_assoc] at h
    have h1 := (List.append_inj' h rfl).1
    rcases List.eq_nil_or_concat r1 with rfl | ⟨r2, z, rfl⟩
    · rw [List.append_nil] at h1
      exact h1.symm
    · rw [List.concat_eq_append, ← List.append_assoc] at h1
      have h2 := (List.append_inj' h1 rfl).2
      injection h2 with h2
      rw [List.concat_eq_append, List.all_append, List.all_append, ← h2] at hr
      simp [hx] at hr
theorem trimP_left {P : UInt8 → Bool} {a u r : List UInt8} {x c : UInt8} (hc : P c = true) (hx : P x = false) (h : c :: x :: a = r ++ u) (hr : r.all P = true) (hu : u = [] ∨ ∃ y l, u = y :: l ∧ P y = false) : u = x :: a := by
  cases r with
  | nil =>
    rw [List.nil_append] at h
    rcases hu with rfl | ⟨y, l, rfl, hy⟩
    · cases h
    · injection h with h1 h2
      rw [h1, hy] at hc
      cases hc
  | cons z r1 =>
    injection h with h1 h2
    cases r1 with
    | nil => exact h2.symm
    | cons z2 r2 =>
      injection h2 with h3 h4
      rw [List.all_cons, List.all_cons, ← h3, hx] at hr
      simp at hr
theorem two_ends {s : List UInt8} (h : 1 ≤ s.length) : (∃ x a, s = x :: a) ∧ ∃ a x, s = a ++ [x] := by
  constructor
  · cases s with
    | nil => simp at h
    | cons x a => exact ⟨x, a, rfl⟩
  · rcases List.eq_nil_or_concat s with rfl | ⟨a, x, rfl⟩
    · simp at h
    · exact ⟨a, x, List.concat_eq_append⟩
/-- what the head line's trim leaves is the tag -/
theorem trim_head {tg t u : List UInt8} (h : ownTag tg = true) (h1 : ∃ r, (64 :: (tg ++ [10]) : List UInt8) = t ++ r ∧ r.all (([64, 10] : List UInt8).contains ·) = true ∧ (t = [] ∨ ∃ l c, t = l ++ [c] ∧ ([64, 10] : List UInt8).contains c = false))
    (h2 : ∃ r, t = r ++ u ∧ r.all (([64, 10] : List UInt8).contains ·) = true ∧ (u = [] ∨ ∃ c l, u = c :: l ∧ ([64, 10] : List UInt8).contains c = false)) : u = tg := by
  have hs := own_signs h
  have hP : ∀ c ∈ tg, ([64, 10] : List UInt8).contains c = false := fun c hc => by
    cases hh : ([64, 10] : List UInt8).contains c
    · rfl
    · simp at hh
      rcases hh with rfl | rfl
      · exact absurd hc (tag_not h 64 (by decide +kernel))
      · exact absurd hc (tag_not h 10 (by decide +kernel))
  obtain ⟨⟨x, a, hx⟩, b, y, hy⟩ := two_ends hs.2.1
  obtain ⟨r1, e1, q1, p1⟩ := h1
  obtain ⟨r2, e2, q2, p2⟩ := h2
  have ht : t = (64 :: b) ++ [y] := trimP_right (P := (([64, 10] : List UInt8).contains ·)) (c := 10) (by decide) (hP y (by rw [hy]; simp)) (by rw [← e1, hy]; simp) q1 p1
  have ht2 : t = 64 :: x :: a := by rw [ht, List.cons_append, ← hy, hx]
  rw [hx]
  exact trimP_left (P := (([64, 10] : List UInt8).contains ·)) (c := 64) (by decide) (hP x (by rw [hx]; simp)) (ht2.symm.trans e2) q2 p2
/-- the lines of a bundle's text -/
def linesP (tg : ByteArray) (es : List EntC) : List (List UInt8) := headP tg :: es.map lineP
theorem text_lines (tg : ByteArray) (es : List EntC) : textP tg es = (linesP tg es).flatten := by
  unfold textP linesP
  rw [List.flatten_cons, List.flatMap_def]
theorem lines_are {tg : ByteArray} {es : List EntC} (h : ownTag tg.data.toList = true) (hk : ∀ e ∈ es, keyOk e.key = true) : ∀ l ∈ linesP tg es, IsLine l := by
  intro l hl
  rcases List.mem_cons.1 hl with rfl | hl
  · exact head_line h
  · obtain ⟨e, he, rfl⟩ := List.mem_map.1 hl
    exact line_is (hk e he)
theorem split_text {tg s : ByteArray} {es : List EntC} (h : ownTag tg.data.toList = true) (hk : ∀ e ∈ es, keyOk e.key = true) (hs : s.data.toList = textP tg es) :
    (Lib.splitB ⟨#[10]⟩ 1 (Lib.countB s ⟨#[10]⟩) s).map (·.data.toList) = linesP tg es ++ [[]] := by
  have hl := lines_are h hk
  rw [Lib.splitB_data]
  show Lib.splitK [10] 1 (Lib.count s.data.toList [10]) s.data.toList = _
  rw [hs, text_lines, count_lines _ hl, split_lines _ hl]
end Go.Proofs.YtnhlnhmjnnopaaaGreatDoor

/- strings.Replacer, strings.byteStringReplacer in memory. -/
namespace Go.Proofs.YtnhlnhmjnnopaaaGreatDoor
open Go.RowKit

/-- a text, for append -/
def kTx : Kind ByteArray where
  e := 9
  sl := 30
  size := 1
  bytes := 16
  cells := fun x => [.string x]
  zero := .string ⟨#[]⟩
  hsl := Tryz.underlying30
  hi := infoStr
  hzs := rfl
  hpos := by decide
  hlen := fun _ => rfl
  hone := fun x u hu => by
    simp only [List.mem_cons, List.not_mem_nil, or_false] at hu
    rcases hu with rfl; rfl

/-- blocks that a builder writes -/
def Soft (w : World) (m : List Nat) : Prop := ∀ k ∈ m, TyAt w k 5 ∨ TyAt w k 85
theorem Soft.nil (w : World) : Soft w [] := fun _ h => absurd h List.not_mem_nil
theorem TyAt.soft {w : World} {b : Nat} {t : TypeId} {m : List Nat} (h : TyAt w b t) (hm : Soft w m) (h1 : t ≠ 5) (h2 : t ≠ 85) : b ∉ m := by
  intro hb
  rcases hm b hb with k | k
  · exact h.ne k h1 rfl
  · exact h.ne k h2 rfl
/-- bytes that were made of a text: none writes there -/
def RowK (w : World) (g : Nat) (l : List UInt8) : Prop := ∃ cur fr, w.heap[g]? = some (.cells cur 5 fr) ∧ fr ≠ (0, 0) ∧ ∀ (j : Nat) c, l[j]? = some c → cur[j]? = some (byteV c)
theorem RowK.lt {w : World} {g : Nat} {l : List UInt8} (h : RowK w g l) : g < w.heap.size := by
  obtain ⟨cur, fr, h, _⟩ := h
  exact (Array.getElem?_eq_some_iff.1 h).1
theorem RowK.not {w : World} {g : Nat} {l : List UInt8} (h : RowK w g l) {t : TypeId} : ¬ TyAt w g t := by
  rintro ⟨cur', h'⟩
  obtain ⟨cur, fr, h, hf, _⟩ := h
  rw [h] at h'
  injection h' with h'
  injection h' with _ _ h'
  exact hf h'
theorem RowK.soft {w : World} {g : Nat} {l : List UInt8} {m : List Nat} (h : RowK w g l) (hm : Soft w m) : g ∉ m := fun hb => (hm g hb).elim h.not h.not
theorem RowK.off {w w' : World} {g : Nat} {l : List UInt8} {m : List Nat} (h : RowK w g l) (hf : Off m w w') (hm : g ∉ m) : RowK w' g l := by
  have hl := h.lt
  obtain ⟨cur, fr, h, h2, h3⟩ := h
  exact ⟨cur, fr, (hf.block g hl hm).trans h, h2, h3⟩
theorem RowK.cell {w : World} {g : Nat} {l : List UInt8} (h : RowK w g l) {j : Nat} {c : UInt8} (hj : l[j]? = some c) : w.cell? ⟨g, j, none⟩ = some (byteV c) := by
  obtain ⟨cur, fr, h, h2, h3⟩ := h
  simp [World.cell?, h, h3 j c hj]
/-- a text's bytes in a new block -/
theorem RowK.new (w : World) (s : ByteArray) (cap : Nat) : RowK (w.alloc (.cells (bytesRow s cap) 5 ((bytesRow s cap).size, (bytesRow s cap).size + 1))) w.heap.size s.data.toList := by
  refine ⟨_, _, heap_alloc_new w _, by simp, fun j c hj => ?_⟩
  have hj' : j < s.data.size := by simpa using (List.getElem?_eq_some_iff.1 hj).1
  rw [bytesRow_at s cap j hj']
  have := (List.getElem?_eq_some_iff.1 hj).2
  rw [← this]
  rfl

/-- the table of a replacer, as far as it is made -/
structure RepAt (w : World) (B sb : Nat) (done tr : List UInt8) : Prop where
  ty : TyAt w sb 190
  ge : B ≤ sb
  tab : ∀ c ∈ done, ∃ g cap, w.cell? ⟨sb, c.toNat, none⟩ = some (.slice (some ⟨g, 0, none⟩) 2 cap) ∧ 2 ≤ cap ∧ RowK w g (escB c) ∧ (escB c).length = 2
  no : ∀ c, c ∉ done → w.cell? ⟨sb, c.toNat, none⟩ = some (.slice none 0 0)
  rep : ∃ v, w.cell? ⟨sb, 256, none⟩ = some v ∧ OwnsG kTx w B v (tr.map fun c => ⟨#[c]⟩)
/-- blocks that hold nothing of a replacer's table -/
def SoftR (w : World) (m : List Nat) : Prop := ∀ k ∈ m, ∃ t, TyAt w k t ∧ t ≠ 9 ∧ t ≠ 190
theorem Soft.softR {w : World} {m : List Nat} (h : Soft w m) : SoftR w m := fun k hk => (h k hk).elim (fun h => ⟨_, h, by decide, by decide⟩) (fun h => ⟨_, h, by decide, by decide⟩)
theorem RepAt.offR {w w' : World} {B sb : Nat} {done tr : List UInt8} {m : List Nat} (h : RepAt w B sb done tr) (hf : Off m w w') (hm : SoftR w m) : RepAt w' B sb done tr := by
  have n1 : sb ∉ m := fun hb => by
    obtain ⟨t, h1, _, h3⟩ := hm sb hb
    exact h.ty.ne h1 (fun e => h3 e.symm) rfl
  refine ⟨h.ty.off hf n1, h.ge, fun c hc => ?_, fun c hc => hf.cell (h.no c hc) n1, ?_⟩
  · obtain ⟨g, cap, h1, h2, h3, h4⟩ := h.tab c hc
    exact ⟨g, cap, hf.cell h1 n1, h2, h3.off hf (fun hb => by
      obtain ⟨t, k1, _⟩ := hm g hb
      exact h3.not k1), h4⟩
  · obtain ⟨v, h1, h2⟩ := h.rep
    exact ⟨v, hf.cell h1 n1, h2.off hf (fun g hg hb => by
      obtain ⟨t, k1, k2, _⟩ := hm g hb
      exact (h2.ty g (by simp [hg])).ne k1 (fun e => k2 e.symm) rfl)⟩
theorem RepAt.off {w w' : World} {B sb : Nat} {done tr : List UInt8} {m : List Nat} (h : RepAt w B sb done tr) (hf : Off m w w') (hm : Soft w m) : RepAt w' B sb done tr := h.offR hf hm.softR
theorem RepAt.base {w : World} {B B' sb : Nat} {done tr : List UInt8} (h : RepAt w B sb done tr) (hb : B' ≤ B) : RepAt w B' sb done tr :=
  ⟨h.ty, Nat.le_trans hb h.ge, h.tab, h.no, h.rep.imp fun _ h => ⟨h.1, h.2.base hb⟩⟩
theorem RepAt.below {w w' : World} {B sb : Nat} {done tr : List UInt8} (h : RepAt w B sb done tr) (hb : Below w.heap.size w w') : RepAt w' B sb done tr := h.off (m := []) (Off.ofBelowB hb) (Soft.nil w)
/-- one text more in its list -/
theorem RepAt.list {w w2 w3 : World} {B sb : Nat} {done tr : List UInt8} {v v' : Value} {c : UInt8} (h : RepAt w B sb done tr) (hv : w.cell? ⟨sb, 256, none⟩ = some v) (hO : OwnsG kTx w B v (tr.map fun c => ⟨#[c]⟩)) (hb : Below w.heap.size w w2)
    (hoff : Off v.ownBlock.toList w2 w3) (ho : OwnsG kTx w3 B v' ((tr.map fun c => ⟨#[c]⟩) ++ [⟨#[c]⟩])) :
    w3.cell? ⟨sb, 256, none⟩ = some v ∧ w3.frozen? ⟨sb, 256, none⟩ = false ∧ RepAt (w3.setCell ⟨sb, 256, none⟩ v') B sb done (tr ++ [c]) := by
  have h2 := h.below hb
  have hT := h2.ty
  have n1 : sb ∉ v.ownBlock.toList := hT.not (hO.below hb) (by decide)
  have c3 := hoff.cell (carry hb hv) n1
  have hT3 := hT.off hoff n1
  have hs : Off [sb] w3 (w3.setCell ⟨sb, 256, none⟩ v') := (Off.refl [sb] w3).setCell _ _ (by simp)
  have n3 := hT3.not ho (by decide)
  refine ⟨c3, hT3.frozen 256, hT3.set _ _ _, h.ge, fun d hd => ?_, fun d hd => ?_, v', cell_same c3, ?_⟩
  · obtain ⟨g, cap, h1, h4, h5, h6⟩ := h2.tab d hd
    have hdt := UInt8.toNat_lt d
    have g1 : g ∉ v.ownBlock.toList := fun hm => h5.not ((hO.below hb).ty g hm)
    refine ⟨g, cap, cell_other (hoff.cell h1 n1) (by first | (simp; done) | (simp; omega)), h4, (h5.off hoff g1).off hs (fun hm => ?_), h6⟩
    simp only [List.mem_singleton] at hm
    subst hm
    exact h5.not hT
  · have hdt := UInt8.toNat_lt d
    exact cell_other (hoff.cell (h2.no d hd) n1) (by first | (simp; done) | (simp; omega))
  · rw [List.map_append]
    refine ho.off hs (fun g hg hm => n3 ?_)
    simp only [List.mem_singleton] at hm
    subst hm
    simp [hg]
/-- one row more -/
theorem RepAt.row {w w2 : World} {B sb g cap : Nat} {done tr : List UInt8} {c : UInt8} (h : RepAt w B sb done tr) (hb : Below w.heap.size w w2) (hg : RowK w2 g (escB c)) (hl : (escB c).length = 2) (hc : 2 ≤ cap) :
    RepAt (w2.setCell ⟨sb, c.toNat, none⟩ (.slice (some ⟨g, 0, none⟩) 2 cap)) B sb (done ++ [c]) tr := by
  have h2 := h.below hb
  have hT := h2.ty
  have hct := UInt8.toNat_lt c
  have hs : Off [sb] w2 (w2.setCell ⟨sb, c.toNat, none⟩ (.slice (some ⟨g, 0, none⟩) 2 cap)) := (Off.refl [sb] w2).setCell _ _ (by simp)
  have hin : ∀ {g' : Nat} {l : List UInt8}, RowK w2 g' l → g' ∉ [sb] := fun h5 hm => by
    simp only [List.mem_singleton] at hm
    subst hm
    exact h5.not hT
  have hsome : ∃ u, w2.cell? ⟨sb, c.toNat, none⟩ = some u := by
    by_cases hm : c ∈ done
    · obtain ⟨g', cap', h1, _⟩ := h2.tab c hm
      exact ⟨_, h1⟩
    · exact ⟨_, h2.no c hm⟩
  obtain ⟨u, hu⟩ := hsome
  refine ⟨hT.set _ _ _, h.ge, fun d hd => ?_, fun d hd => ?_, ?_⟩
  · by_cases e : d = c
    · subst e
      exact ⟨g, cap, cell_same hu, hc, hg.off hs (hin hg), hl⟩
    · obtain ⟨g', cap', h1, h4, h5, h6⟩ := h2.tab d ((List.mem_append.1 hd).resolve_right (by simpa using e))
      refine ⟨g', cap', cell_other h1 (fun h => e ?_), h4, h5.off hs (hin h5), h6⟩
      injection h with _ h
      exact (UInt8.toNat_inj.1 h).symm
  · have hd2 : d ∉ done := fun hm => hd (List.mem_append_left _ hm)
    have hdc : d ≠ c := fun e => hd (by simp [e])
    refine cell_other (h2.no d hd2) (fun h => hdc ?_)
    injection h with _ h
    exact (UInt8.toNat_inj.1 h).symm
  · obtain ⟨v, h1, h4⟩ := h2.rep
    refine ⟨v, cell_other h1 (by first | (simp; done) | (simp; omega)), h4.off hs (fun g' hg' hm => ?_)⟩
    simp only [List.mem_singleton] at hm
    subst hm
    exact hT.not h4 (by decide) (by simp [hg'])
def six : List ByteArray := [⟨#[92]⟩, ⟨#[92, 92]⟩, ⟨#[10]⟩, ⟨#[92, 110]⟩, ⟨#[13]⟩, ⟨#[92, 114]⟩]
/-- a replacer, not yet made -/
structure EscNew (w : World) (B rb : Nat) : Prop where
  ty : TyAt w rb 122
  c0 : w.cell? ⟨rb, 0, none⟩ = some (.int .u32 0)
  c1 : w.cell? ⟨rb, 1, none⟩ = some (.int .i32 0)
  c3 : w.cell? ⟨rb, 3, none⟩ = some .nilIface
  c4 : ∃ v, w.cell? ⟨rb, 4, none⟩ = some v ∧ OwnsG kTx w B v six
/-- a replacer that was asked once -/
structure EscUsed (w : World) (rb : Nat) : Prop where
  ty : TyAt w rb 122
  c0 : w.cell? ⟨rb, 0, none⟩ = some (.int .u32 1)
  c3 : ∃ sb, w.cell? ⟨rb, 3, none⟩ = some (.iface 191 (.pointer (some ⟨sb, 0, none⟩))) ∧ RepAt w 0 sb [13, 10, 92] [13, 10, 92]
theorem EscNew.off {w w' : World} {B rb : Nat} {m : List Nat} (h : EscNew w B rb) (hf : Off m w w') (hm : Soft w m) : EscNew w' B rb := by
  have n1 := h.ty.soft hm (by decide) (by decide)
  obtain ⟨v, h1, h2⟩ := h.c4
  exact ⟨h.ty.off hf n1, hf.cell h.c0 n1, hf.cell h.c1 n1, hf.cell h.c3 n1, v, hf.cell h1 n1, h2.off hf (fun g hg => (h2.ty g (by simp [hg])).soft hm (by decide) (by decide))⟩
theorem EscUsed.off {w w' : World} {rb : Nat} {m : List Nat} (h : EscUsed w rb) (hf : Off m w w') (hm : Soft w m) : EscUsed w' rb := by
  have n1 := h.ty.soft hm (by decide) (by decide)
  obtain ⟨sb, h1, h2⟩ := h.c3
  exact ⟨h.ty.off hf n1, hf.cell h.c0 n1, sb, hf.cell h1 n1, h2.off hf hm⟩
end Go.Proofs.YtnhlnhmjnnopaaaGreatDoor

/- What a replacer counts, plainly. -/
namespace Go.Proofs.YtnhlnhmjnnopaaaGreatDoor
open Go.RowKit

def olds : List UInt8 := [13, 10, 92]
/-- so many bytes more -/
def exN (l : List UInt8) : Nat := l.count 92 + l.count 10 + l.count 13
theorem exN_len (s : List UInt8) : (escP s).length = s.length + exN s := esc_count s
theorem exN_none {s : List UInt8} (h : exN s = 0) : escP s = s := esc_none s h
theorem olds_mem (c : UInt8) : c ∈ olds ↔ c = 13 ∨ c = 10 ∨ c = 92 := by unfold olds; simp
theorem escB_in {c : UInt8} (h : c ∈ olds) : (escB c).length = 2 := by
  rcases (olds_mem c).1 h with rfl | rfl | rfl <;> decide
theorem escB_out {c : UInt8} (h : c ∉ olds) : escB c = [c] := by
  have h1 : c ≠ 13 := fun e => h ((olds_mem c).2 (.inl e))
  have h2 : c ≠ 10 := fun e => h ((olds_mem c).2 (.inr (.inl e)))
  have h3 : c ≠ 92 := fun e => h ((olds_mem c).2 (.inr (.inr e)))
  unfold escB
  rw [if_neg h3, if_neg h2, if_neg h1]
theorem esc_take {l : List UInt8} {k : Nat} {c : UInt8} (h : l[k]? = some c) : escP (l.take (k + 1)) = escP (l.take k) ++ escB c := by
  rw [List.take_add_one, h, ← esc_snoc]
  rfl
theorem esc_room {l : List UInt8} {k : Nat} {c : UInt8} (h : l[k]? = some c) : (escP (l.take k)).length + (escB c).length ≤ (escP l).length := by
  have h1 : escP l = escP (l.take (k + 1)) ++ escP (l.drop (k + 1)) := by rw [← esc_app, List.take_append_drop]
  rw [h1, esc_take h, List.length_append, List.length_append]
  omega
theorem exN_in {l : List UInt8} {k : Nat} {c : UInt8} (h : l[k]? = some c) (hc : c ∈ olds) : exN (l.take (k + 1)) = exN (l.take k) + 1 := by
  have h1 := exN_len (l.take (k + 1))
  have h2 := exN_len (l.take k)
  have hk := (List.getElem?_eq_some_iff.1 h).1
  rw [esc_take h, List.length_append, escB_in hc, List.length_take] at h1
  rw [List.length_take] at h2
  omega
theorem exN_out {l : List UInt8} {k : Nat} {c : UInt8} (h : l[k]? = some c) (hc : c ∉ olds) : exN (l.take (k + 1)) = exN (l.take k) := by
  have h1 := exN_len (l.take (k + 1))
  have h2 := exN_len (l.take k)
  have hk := (List.getElem?_eq_some_iff.1 h).1
  rw [esc_take h, List.length_append, escB_out hc, List.length_take] at h1
  rw [List.length_take] at h2
  simp at h1
  omega
/-- by the list of what is replaced -/
def exQ (l : List UInt8) (q : Nat) : Nat := ((olds.take q).map fun c => l.count c).sum
theorem exQ_all (l : List UInt8) : exQ l 3 = exN l := by
  unfold exQ exN olds
  simp
  omega
theorem exQ_succ (l : List UInt8) (q : Nat) (c : UInt8) (h : olds[q]? = some c) : exQ l (q + 1) = exQ l q + l.count c := by
  unfold exQ
  rw [List.take_add_one, h]
  simp
theorem exN_le (l : List UInt8) (q : Nat) (hq : q ≤ 3) : exQ l q ≤ 3 * l.length := by
  have h1 := List.count_le_length (a := (13 : UInt8)) (l := l)
  have h2 := List.count_le_length (a := (10 : UInt8)) (l := l)
  have h3 := List.count_le_length (a := (92 : UInt8)) (l := l)
  obtain rfl | rfl | rfl | rfl : q = 0 ∨ q = 1 ∨ q = 2 ∨ q = 3 := by omega
  all_goals (unfold exQ olds; simp; try omega)
theorem countByte_is (l : List UInt8) (c : UInt8) : Lib.countByte l c = l.count c := rfl
end Go.Proofs.YtnhlnhmjnnopaaaGreatDoor
