/- EvalPlain, OpenFit, FitsPlain, Fits, MsgCasesG, MsgArgG, MsgTopG, MsgParseG, TopPlain: texts put together. -/
import Derived.Test.YtplaohmdllindaaGreatDoorQn27
import Derived.Test.YtplaohmdllindaaGreatDoorQn4
import Derived.Test.YtplaohmdllindaaGreatDoorQn13
import Derived.Test.YtplaohmdllindaaGreatDoorQn3
import Derived.Test.YtplaohmdllindaaGreatDoorQn2
import Derived.Test.YtplaohmdllindaaGreatDoorQn24
import Derived.Test.YtplaohmdllindaaGreatDoorQn15
import Derived.Test.YtplaohmdllindaaGreatDoorQn6
import Derived.Test.YtplaohmdllindaaGreatDoorQn1
import Derived.Test.YtplaohmdllindaaGreatDoorQn31
import Derived.Test.YtplaohmdllindaaGreatDoorQn26
set_option linter.unusedVariables false
set_option linter.unusedSimpArgs false
/- eval, in plain terms. No program stands here. -/
namespace Go.Proofs.YtplaohmdllindaaGreatDoor

def noArg : ArgC := ⟨⟨#[]⟩, false, 0, 0, ⟨#[]⟩⟩
/-- the arg of a name -/
def lookA (ags : List ArgC) (t : ByteArray) : ArgC := (ags.find? (hasA t)).getD noArg
instance (c s : Int) : Decidable (decOk c s) := by unfold decOk; exact inferInstance
/-- eval.Numeral: its fault, its text -/
def numP (c s : Int) : Int × ByteArray := if decOk c s then (0, numT c s.toNat) else (1, ⟨#[]⟩)
/-- the number less a Plural's offset -/
def lessP (c s off : Int) : Int × Int × Int := if decOk c s ∧ decOk (-off) 0 ∧ -1000000000000000 ≤ c - off * ten s.toNat ∧ c - off * ten s.toNat ≤ 1000000000000000 then (0, c - off * ten s.toNat, s) else (1, 0, 0)
/-- how much a case of a Plural counts -/
def rankP (kind : ByteArray) (c s : Int) (key : ByteArray) : Int :=
  if 0 ≤ exC key.data.toList ∧ c * ten 0 = exC key.data.toList * ten s.toNat then 3 else if key.toList == kind.toList then 2 else if key.toList == otherS.toList then 1 else 0
def bestGo (r : ByteArray → Int) : Nat → Nat → Int → List (ByteArray × List Nd) → Nat
  | _, best, _, [] => best
  | i, best, rank, k :: l => if rank < r k.1 then bestGo r (i + 1) i (r k.1) l else bestGo r (i + 1) best rank l
def choiceGo (s : ByteArray) : Nat → Nat → List (ByteArray × List Nd) → Nat
  | _, best, [] => best
  | i, best, k :: l => if k.1.toList == s.toList then i else choiceGo s (i + 1) (if k.1.toList == otherS.toList then i else best) l
def bodyAt (cs : List (ByteArray × List Nd)) (i : Nat) : List Nd := ((cs[i]?).map (·.2)).getD []
def showT (a : ArgC) : ByteArray := if a.isNum then decT a.coef a.scale.toNat else a.text
def bestP (S : SetC) (c s : Int) (l : Int × Int × Int) (cs : List (ByteArray × List Nd)) : Nat := bestGo (rankP (kindT (S.kind (opsC l.2.1 l.2.2.toNat))) c s) 0 0 0 cs
/-- what is said of a node: the fault, the text so far -/
def oneP (S : SetC) (look : ByteArray → ArgC) (g : List Nd → Int → Int → Int × ByteArray) (mc ms : Int) (x : Nd) : Int × ByteArray :=
  if x.kd = 1 then (0, x.t)
  else if x.kd = 6 then numP mc ms
  else if x.kd = 3 then numP (look x.t).coef (look x.t).scale
  else if x.kd = 4 then (if (lessP (look x.t).coef (look x.t).scale x.off).1 = 0 then g (bodyAt x.cs (bestP S (look x.t).coef (look x.t).scale (lessP (look x.t).coef (look x.t).scale x.off) x.cs)) (lessP (look x.t).coef (look x.t).scale x.off).2.1 (lessP (look x.t).coef (look x.t).scale x.off).2.2
      else ((lessP (look x.t).coef (look x.t).scale x.off).1, ⟨#[]⟩))
  else if x.kd = 5 then g (bodyAt x.cs (choiceGo (look x.t).text 0 0 x.cs)) mc ms
  else (0, showT (look x.t))
def sayGo (o : Nd → Int × ByteArray) : List Nd → Int × ByteArray
  | [] => (0, ⟨#[]⟩)
  | x :: r => if (o x).1 = 0 then ((sayGo o r).1, (o x).2 ++ (sayGo o r).2) else o x
/-- eval.say -/
def sayP (S : SetC) (look : ByteArray → ArgC) : Nat → List Nd → Int → Int → Int × ByteArray
  | 0, _, _, _ => (0, ⟨#[]⟩)
  | f + 1, ms, mc, sc => sayGo (oneP S look (sayP S look f) mc sc) ms

/-! the cases that are told lie there -/
theorem bestGo_lt (r : ByteArray → Int) : ∀ (cs : List (ByteArray × List Nd)) (i best : Nat) (rank : Int), bestGo r i best rank cs = best ∨ (i ≤ bestGo r i best rank cs ∧ bestGo r i best rank cs < i + cs.length)
  | [], _, _, _ => .inl rfl
  | k :: l, i, best, rank => by
    rw [bestGo]
    split
    · rcases bestGo_lt r l (i + 1) i (r k.1) with h | h
      · exact .inr (by rw [h, List.length_cons]; omega)
      · exact .inr (by rw [List.length_cons]; omega)
    · rcases bestGo_lt r l (i + 1) best rank with h | h
      · exact .inl h
      · exact .inr (by rw [List.length_cons]; omega)
theorem bestP_lt (S : SetC) (c s : Int) (l : Int × Int × Int) (cs : List (ByteArray × List Nd)) (h : 0 < cs.length) : bestP S c s l cs < cs.length := by
  unfold bestP
  rcases bestGo_lt (rankP (kindT (S.kind (opsC l.2.1 l.2.2.toNat))) c s) cs 0 0 0 with h1 | h1 <;> omega
theorem choiceGo_lt (s : ByteArray) : ∀ (cs : List (ByteArray × List Nd)) (i best : Nat), choiceGo s i best cs = best ∨ (i ≤ choiceGo s i best cs ∧ choiceGo s i best cs < i + cs.length)
  | [], _, _ => .inl rfl
  | k :: l, i, best => by
    rw [choiceGo]
    split
    · exact .inr (by rw [List.length_cons]; omega)
    · rcases choiceGo_lt s l (i + 1) (if k.1.toList == otherS.toList then i else best) with h | h
      · rw [h]
        split
        · exact .inr (by rw [List.length_cons]; omega)
        · exact .inl rfl
      · exact .inr (by rw [List.length_cons]; omega)
theorem choice_lt (s : ByteArray) (cs : List (ByteArray × List Nd)) (h : 0 < cs.length) : choiceGo s 0 0 cs < cs.length := by
  rcases choiceGo_lt s cs 0 0 with h1 | h1 <;> omega
theorem bodyAt_mem {cs : List (ByteArray × List Nd)} {i : Nat} (h : i < cs.length) : ∃ c ∈ cs, bodyAt cs i = c.2 := by
  refine ⟨cs[i], List.getElem_mem h, ?_⟩
  unfold bodyAt
  rw [List.getElem?_eq_getElem h]
  rfl

/-! what a check that finds nothing tells -/
theorem cases_zero (g : List Nd → Bool → Int) (kd : Int) (mark : Bool) : ∀ (cs : List (ByteArray × List Nd)) (seen : List ByteArray), casesP g kd mark seen cs = 0 → (∀ c ∈ cs, g c.2 (mark || decide (kd = 4)) = 0) ∧ (Lib.containsS seen otherS = true ∨ 0 < cs.length)
  | [], seen, h => by
    refine ⟨by simp, .inl ?_⟩
    unfold casesP at h
    split at h
    · rename_i h1; exact h1
    · cases h
  | k :: l, seen, h => by
    unfold casesP at h
    split at h
    · split at h
      · cases h
      · split at h
        · rename_i h0
          obtain ⟨a, _⟩ := cases_zero g kd mark l _ h
          refine ⟨fun c hc => ?_, .inr (by simp)⟩
          rcases List.mem_cons.1 hc with rfl | hc
          · exact h0
          · exact a c hc
        · rename_i h0
          exact absurd h h0
    · cases h
theorem checkGo_zero (g : List Nd → Bool → Int) (m : Bool) : ∀ (ms : List Nd) (p : Option Int), checkGo g m p ms = 0 → ∀ x ∈ ms, ∃ q, nodeP g q x m = 0
  | [], _, _ => by simp
  | x :: r, p, h => by
    unfold checkGo at h
    split at h
    · rename_i h0
      intro y hy
      rcases List.mem_cons.1 hy with rfl | hy
      · exact ⟨p, h0⟩
      · exact checkGo_zero g m r _ h y hy
    · rename_i h0
      exact absurd h h0
/-- a node that is right -/
theorem nodeP_zero {g : List Nd → Bool → Int} {q : Option Int} {x : Nd} {m : Bool} (h : nodeP g q x m = 0) :
    (x.kd = 1 ∨ x.kd = 2 ∨ x.kd = 3 ∨ x.kd = 4 ∨ x.kd = 5 ∨ (x.kd = 6 ∧ m = true)) ∧ (x.kd = 4 → 0 ≤ x.off ∧ x.off ≤ 9) ∧ (x.kd = 4 ∨ x.kd = 5 → 0 < x.cs.length ∧ ∀ c ∈ x.cs, g c.2 (m || decide (x.kd = 4)) = 0) := by
  unfold nodeP at h
  split at h
  · rename_i hf
    refine ⟨?_, ?_, ?_⟩
    · unfold fineB at hf
      split at hf
      · rename_i h1; exact .inl h1
      · split at hf
        · rename_i h1
          rcases h1 with h1 | h1 | h1 | h1
          · exact .inr (.inl h1)
          · exact .inr (.inr (.inl h1))
          · exact .inr (.inr (.inr (.inl h1)))
          · exact .inr (.inr (.inr (.inr (.inl h1))))
        · simp only [Bool.and_eq_true, decide_eq_true_eq] at hf
          exact .inr (.inr (.inr (.inr (.inr hf))))
    · intro h4
      split at h
      · cases h
      · rename_i h1
        refine ⟨?_, ?_⟩
        · exact Int.not_lt.1 fun h2 => h1 ⟨h4, .inl h2⟩
        · exact Int.not_lt.1 fun h2 => h1 ⟨h4, .inr h2⟩
    · intro h4
      split at h
      · cases h
      · try rw [if_pos h4] at h
        obtain ⟨a, b⟩ := cases_zero g x.kd m x.cs [] h
        refine ⟨?_, a⟩
        rcases b with b | b
        · have h0 : Lib.containsS [] otherS = false := rfl
          rw [h0] at b
          cases b
        · exact b
  · cases h

/-! which names count -/
def usesP (P : List UInt8 → Prop) : Nat → List Nd → Prop
  | 0, _ => True
  | f + 1, ms => ∀ x ∈ ms, (¬ (x.kd = 1 ∨ x.kd = 6) → P x.t.toList) ∧ ∀ c ∈ casesOf x, usesP P f c.2
theorem cases_mem {x : Nd} (h : x.kd = 4 ∨ x.kd = 5) : casesOf x = x.cs := if_pos h
/-! how long it is -/
def FitN (L : Nat) : Nat → List Nd → Prop
  | 0, _ => True
  | f + 1, ms => ∀ x ∈ ms, x.t.size ≤ L ∧ ∀ c ∈ x.cs, c.1.size ≤ L ∧ FitN L f c.2
theorem cntC_mem {f : Nat} {cs : List (ByteArray × List Nd)} {c : ByteArray × List Nd} (h : c ∈ cs) : cntP f c.2 ≤ cntC f cs := by
  unfold cntC
  induction cs with
  | nil => cases h
  | cons d r ih =>
    rw [List.map_cons, List.sum_cons]
    rcases List.mem_cons.1 h with rfl | h
    · exact Nat.le_add_right _ _
    · have := ih h
      omega
theorem sayGo_size {o : Nd → Int × ByteArray} {L f : Nat} : ∀ {ms : List Nd}, (∀ x ∈ ms, (o x).2.size ≤ (1 + cntC f (casesOf x)) * L) → (sayGo o ms).2.size ≤ (ms.length + cntC f (flatC ms)) * L
  | [], _ => Nat.zero_le _
  | x :: r, h => by
    have h1 := h x (List.mem_cons_self ..)
    have h2 := sayGo_size (ms := r) fun y hy => h y (List.mem_cons_of_mem _ hy)
    rw [flat_cons, cntC_append, List.length_cons, sayGo]
    have e : (r.length + 1 + (cntC f (casesOf x) + cntC f (flatC r))) * L = (1 + cntC f (casesOf x)) * L + (r.length + cntC f (flatC r)) * L := by rw [← Nat.add_mul]; congr 1; omega
    rw [e]
    split
    · rw [ByteArray.size_append]; omega
    · omega
theorem say_size (S : SetC) {look : ByteArray → ArgC} {L : Nat} (hL : 200 ≤ L) (hlook : ∀ t, (look t).text.size ≤ L ∧ ((look t).isNum = true → decOk (look t).coef (look t).scale)) : ∀ (f : Nat) (ms : List Nd) (mc sc : Int), FitN L f ms → (sayP S look f ms mc sc).2.size ≤ cntP f ms * L
  | 0, _, _, _, _ => Nat.zero_le _
  | f + 1, ms, mc, sc, h => by
    rw [cntP_succ]
    have hnum : ∀ c s, (numP c s).2.size ≤ 200 := fun c s => by
      unfold numP
      split
      · rename_i hd
        have := numT_size c s.toNat (by have h0 := hd.1; rw [show ((s.toNat : Nat) : Int) = s by omega]; exact hd)
        exact this
      · exact Nat.zero_le _
    have hb : ∀ (x : Nd) (i : Nat) (a b : Int), (x.kd = 4 ∨ x.kd = 5) → x ∈ ms → (sayP S look f (bodyAt x.cs i) a b).2.size ≤ (1 + cntC f (casesOf x)) * L := by
      intro x i a b hk hx
      by_cases hi : i < x.cs.length
      · obtain ⟨k, hk2, e⟩ := bodyAt_mem hi
        rw [e]
        have h1 := say_size S hL hlook f k.2 a b ((h x hx).2 k hk2).2
        have h2 : cntP f k.2 ≤ cntC f (casesOf x) := by rw [cases_mem hk]; exact cntC_mem hk2
        exact Nat.le_trans h1 (Nat.mul_le_mul_right _ (by omega))
      · unfold bodyAt
        rw [List.getElem?_eq_none (by omega)]
        cases f with
        | zero => exact Nat.zero_le _
        | succ f => exact Nat.zero_le _
    refine sayGo_size fun x hx => ?_
    have hone : L ≤ (1 + cntC f (casesOf x)) * L := by rw [Nat.add_mul]; omega
    unfold oneP
    split
    · exact Nat.le_trans (h x hx).1 hone
    · split
      · exact Nat.le_trans (hnum _ _) (by omega)
      · split
        · exact Nat.le_trans (hnum _ _) (by omega)
        · split
          · rename_i k4
            split
            · exact hb x _ _ _ (.inl k4) hx
            · exact Nat.zero_le _
          · split
            · rename_i k5
              exact hb x _ _ _ (.inr k5) hx
            · obtain ⟨h1, h2⟩ := hlook x.t
              show (showT (look x.t)).size ≤ _
              unfold showT
              split
              · rename_i hn
                have hd := h2 hn
                have := decT_size (look x.t).coef (look x.t).scale.toNat (by have h0 := hd.1; rw [show (((look x.t).scale.toNat : Nat) : Int) = (look x.t).scale by omega]; exact hd)
                omega
              · omega
end Go.Proofs.YtplaohmdllindaaGreatDoor

/- A message that came in, opened, with a bound on its texts. -/
namespace Go.Proofs.YtplaohmdllindaaGreatDoor
open Go.RowKit Go.ChangeShapes Go.WideShapes Go.Joins Go.Deep

section
variable {H : Type} {enc : TypeId × Value → H} {W : World} {base b0 : Nat} {r : Reach} {held : Bool}
end
end Go.Proofs.YtplaohmdllindaaGreatDoor

/- names.Fits, in plain terms; args in another order, and one more. No program stands here. -/
namespace Go.Proofs.YtplaohmdllindaaGreatDoor

def nmA (a : ArgC) : List UInt8 := a.name.data.toList
def argsP : List ArgC → List (List UInt8) → Int
  | [], _ => 0
  | a :: r, seen => if nameB (nmA a) then (if a.isNum = true ∧ ¬ decOk a.coef a.scale then 1 else if nmA a ∈ seen then 5 else argsP r (seen ++ [nmA a])) else 3
def needP (ags : List ArgC) : List Need → Int
  | [] => 0
  | n :: r => match ags.find? (hasA n.name) with
    | none => 2
    | some a => if (n.num && !a.isNum) || (n.text && a.isNum) then 7 else needP ags r
/-- names.Fits -/
def fitsP (f : Nat) (ms : List Nd) (ags : List ArgC) : Int := if namesP f ms = 0 then (if argsP ags [] = 0 then needP ags (allN f [] ms) else argsP ags []) else namesP f ms

theorem hasA_iff (t : ByteArray) (a : ArgC) : hasA t a = true ↔ nmA a = t.data.toList := by
  unfold hasA nmA
  rw [beq_iff_eq, Lib.toList_data, Lib.toList_data]
theorem args_zero : ∀ (ags : List ArgC) (seen : List (List UInt8)), argsP ags seen = 0 ↔ ((∀ a ∈ ags, nameB (nmA a) = true ∧ (a.isNum = true → decOk a.coef a.scale)) ∧ (ags.map nmA).Nodup ∧ ∀ a ∈ ags, nmA a ∉ seen)
  | [], seen => by simp [argsP]
  | a :: r, seen => by
    rw [argsP]
    by_cases h1 : nameB (nmA a) = true
    · rw [if_pos h1]
      by_cases h2 : a.isNum = true ∧ ¬ decOk a.coef a.scale
      · rw [if_pos h2]
        constructor
        · intro h; cases h
        · intro h; exact absurd ((h.1 a (List.mem_cons_self ..)).2 h2.1) h2.2
      · rw [if_neg h2]
        have h2' : a.isNum = true → decOk a.coef a.scale := fun h => Classical.byContradiction fun h' => h2 ⟨h, h'⟩
        by_cases h3 : nmA a ∈ seen
        · rw [if_pos h3]
          constructor
          · intro h; cases h
          · intro h; exact absurd h3 (h.2.2 a (List.mem_cons_self ..))
        · rw [if_neg h3, args_zero r, List.map_cons, List.nodup_cons]
          constructor
          · rintro ⟨g1, g2, g3⟩
            refine ⟨fun b hb => ?_, ⟨fun hm => ?_, g2⟩, fun b hb => ?_⟩
            · rcases List.mem_cons.1 hb with rfl | hb
              · exact ⟨h1, h2'⟩
              · exact g1 b hb
            · obtain ⟨b, hb, e⟩ := List.mem_map.1 hm
              exact g3 b hb (by rw [e]; simp)
            · rcases List.mem_cons.1 hb with rfl | hb
              · exact h3
              · exact fun hm => g3 b hb (List.mem_append_left _ hm)
          · rintro ⟨g1, ⟨g2, g4⟩, g3⟩
            refine ⟨fun b hb => g1 b (List.mem_cons_of_mem _ hb), g4, fun b hb hm => ?_⟩
            rcases List.mem_append.1 hm with hm | hm
            · exact g3 b (List.mem_cons_of_mem _ hb) hm
            · rw [List.mem_singleton] at hm
              exact g2 (hm ▸ List.mem_map_of_mem hb)
    · rw [if_neg h1]
      constructor
      · intro h; cases h
      · intro h; exact absurd (h.1 a (List.mem_cons_self ..)).1 h1
theorem fits_zero {f : Nat} {ms : List Nd} {ags : List ArgC} : fitsP f ms ags = 0 ↔ namesP f ms = 0 ∧ argsP ags [] = 0 ∧ needP ags (allN f [] ms) = 0 := by
  unfold fitsP
  by_cases h1 : namesP f ms = 0
  · rw [if_pos h1]
    by_cases h2 : argsP ags [] = 0
    · rw [if_pos h2]
      exact ⟨fun h => ⟨h1, h2, h⟩, fun h => h.2.2⟩
    · rw [if_neg h2]
      exact ⟨fun h => absurd h h2, fun h => absurd h.2.1 h2⟩
  · rw [if_neg h1]
    exact ⟨fun h => absurd h h1, fun h => absurd h.1 h1⟩
theorem names_msg {f : Nat} {ms : List Nd} (h : namesP f ms = 0) : msgP f ms = 0 := by
  unfold namesP at h
  split at h
  · rename_i h1; exact h1
  · exact h
/-- the text of a message -/
def sayT (S : SetC) (f : Nat) (ms : List Nd) (ags : List ArgC) : Int × ByteArray := if fitsP f ms ags = 0 then sayP S (lookA ags) f ms 0 0 else (fitsP f ms ags, ⟨#[]⟩)
/-! names of a message that is right -/
theorem uses_names {P : List UInt8 → Prop} : ∀ (f : Nat) (l : List Need) (ms : List Nd), usesP P f ms → (∀ s ∈ namesOf l, P s) → ∀ s ∈ namesOf (allN f l ms), P s
  | 0, _, _, _, h => h
  | f + 1, l, ms, hu, h => by
    rw [allN_succ]
    have hC : ∀ (cs : List (ByteArray × List Nd)) (l : List Need), (∀ c ∈ cs, usesP P f c.2) → (∀ s ∈ namesOf l, P s) → ∀ s ∈ namesOf (foldC f l cs), P s := by
      intro cs
      induction cs with
      | nil => intro l _ h; exact h
      | cons c r ih =>
        intro l hu h
        exact ih (allN f l c.2) (fun d hd => hu d (List.mem_cons_of_mem _ hd)) (uses_names f l c.2 (hu c (List.mem_cons_self ..)) h)
    have hM : ∀ (ms : List Nd) (l : List Need), usesP P (f + 1) ms → (∀ s ∈ namesOf l, P s) → ∀ s ∈ namesOf (foldM f l ms), P s := by
      intro ms
      induction ms with
      | nil => intro l _ h; exact h
      | cons x r ih =>
        intro l hu h
        obtain ⟨h1, h2⟩ := hu x (List.mem_cons_self ..)
        refine ih (foldC f (addN l x.kd x.t) (casesOf x)) (fun y hy => hu y (List.mem_cons_of_mem _ hy)) (hC _ _ h2 fun s hs => ?_)
        rw [names_add] at hs
        split at hs
        · exact h s hs
        · rename_i hk
          split at hs
          · exact h s hs
          · rcases List.mem_append.1 hs with hs | hs
            · exact h s hs
            · rw [List.mem_singleton] at hs
              rw [hs]
              exact h1 hk
    exact hM ms l hu h
theorem check_uses : ∀ (f : Nat) (ms : List Nd) (m : Bool), checkP f ms m = 0 → usesP (fun s => nameB s = true) f ms
  | 0, _, _, _ => trivial
  | f + 1, ms, m, h => fun x hx => by
    obtain ⟨q, hq⟩ := checkGo_zero _ _ _ _ h x hx
    obtain ⟨h1, _, h3⟩ := nodeP_zero hq
    refine ⟨fun hk => ?_, fun c hc => ?_⟩
    · unfold nodeP at hq
      split at hq
      · rename_i hf
        unfold fineB at hf
        rw [if_neg (fun e => hk (.inl e)), if_pos (by
          rcases h1 with h1 | h1 | h1 | h1 | h1 | ⟨h1, _⟩
          · exact absurd (.inl h1) hk
          · exact .inl h1
          · exact .inr (.inl h1)
          · exact .inr (.inr (.inl h1))
          · exact .inr (.inr (.inr h1))
          · exact absurd (.inr h1) hk)] at hf
        rw [Lib.toList_data]
        exact hf
      · cases hq
    · unfold casesOf at hc
      split at hc
      · rename_i hk
        exact check_uses f c.2 _ ((h3 hk).2 c hc)
      · cases hc
theorem name_len {l : List UInt8} (h : nameB l = true) : l.length ≤ 20 := Classical.byContradiction fun hn => by rw [nameB_long hn] at h; cases h
theorem needs_short {f : Nat} {ms : List Nd} (h : namesP f ms = 0) : ∀ n ∈ allN f [] ms, n.name.size ≤ 20 := by
  have h1 := (msg_small (names_msg h)).2
  have h2 := uses_names f [] ms (check_uses f ms false h1) (by simp [namesOf])
  intro n hn
  have h3 := name_len (h2 n.name.toList (List.mem_map_of_mem (f := fun n => n.name.toList) hn))
  rw [Lib.toList_data, Array.length_toList] at h3
  exact h3
/-- the map of what the args are -/
def kindsH (ags : List ArgC) : HL := ags.map fun a => (nmA a, .bool a.isNum)
theorem hlook_map {f : ArgC → Value} (t : ByteArray) : ∀ (ags : List ArgC), hlook (ags.map fun a => (nmA a, f a)) t.data.toList = (ags.find? (hasA t)).map f
  | [] => rfl
  | a :: r => by
    have ih := hlook_map (f := f) t r
    unfold hlook at ih ⊢
    rw [List.map_cons]
    by_cases h : hasA t a = true
    · rw [List.find?_cons_of_pos h, List.find?_cons_of_pos (by simpa using (hasA_iff t a).1 h)]
      rfl
    · rw [List.find?_cons_of_neg h, List.find?_cons_of_neg (by simp only [decide_eq_true_eq]; exact fun e => h ((hasA_iff t a).2 e))]
      exact ih
theorem kinds_keys (ags : List ArgC) : (kindsH ags).map (·.1) = ags.map nmA := by unfold kindsH; rw [List.map_map]; rfl
end Go.Proofs.YtplaohmdllindaaGreatDoor

/- names.Fits. -/
namespace Go.Proofs.YtplaohmdllindaaGreatDoor
open Go.RowKit Go.Maps

theorem zero_bool (w : World) : (zeroValue 4).run Tryz.prog w = .ok (.bool false) w := by kernel_rfl
theorem argsP_step {ags : List ArgC} {k : Nat} {x : ArgC} (h : ags[k]? = some x) (seen : List (List UInt8)) :
    argsP (ags.drop k) seen = if nameB (nmA x) then (if x.isNum = true ∧ ¬ decOk x.coef x.scale then 1 else if nmA x ∈ seen then 5 else argsP (ags.drop (k + 1)) (seen ++ [nmA x])) else 3 := by
  rw [drop_at h, argsP]
theorem needP_step {ags : List ArgC} {L : List Need} {k : Nat} {x : Need} (h : L[k]? = some x) :
    needP ags (L.drop k) = match ags.find? (hasA x.name) with
    | none => 2
    | some a => if (x.num && !a.isNum) || (x.text && a.isNum) then 7 else needP ags (L.drop (k + 1)) := by
  rw [drop_at h, needP]
  all_goals (cases ags.find? (hasA x.name) <;> rfl)

set_option maxHeartbeats 8000000 in
theorem names_fits (f : Nat) (v : Value) (ms : List Nd) (A : Option Addr) (c : Nat) (ags : List ArgC) (w : World) (hE : RuleEnv w) (hK : MKinds w) (hN : NodesIn f w v ms) (hA : ArgsIn w A ags) (hc : ags.length ≤ c) (hc2 : c ≤ 9223372036854775807) (hl : ags.length ≤ 1000000000000) (hz : ∀ a ∈ ags, a.name.size ≤ 140737488355328) :
    Calls Tryz.prog 28 #[v, .slice A ags.length c] w fun e w' => e = .returned (errOf (fitsP f ms ags)) ∧ Below w.heap.size w w' := by
  by_cases h : namesP f ms = 0
  · have hfp : fitsP f ms ags = if argsP ags [] = 0 then needP ags (allN f [] ms) else argsP ags [] := if_pos h
    have hmm := @run_makeMap Tryz.prog
    have KO := Lib.hid (names_of_ok f v ms w hE hK hN h)
    have HSH := Lib.hid (needs_short h)
    have HFP := Lib.hid hfp
    have HA := Lib.hid hA
    have HZ := Lib.hid hz
    obtain ⟨_, _, rfl, _, _, _⟩ := hN.form
    clear h hfp hE hK hN hA hz
    generalize fitsP f ms ags = FP at *
    generalize allN f [] ms = L at *
    have HR0 : Hid (argsP (ags.drop 0) ((ags.take 0).map nmA) = argsP ags []) := Lib.hid rfl
    have HF2 : Hid (FP = if argsP ags [] = 0 then needP ags L else argsP ags []) := HFP
    clear HFP
    generalize argsP ags [] = R at *
    go_enter Tryz.func28, Tryz.ntmps28
    go_wp2_with fail
    refine KO.out.mono ?_
    rintro e w1 ⟨⟨AL, cL, rfl, g1, g2, hL⟩, hb1⟩
    have s1 := hb1.size
    have HB := Lib.hid hb1
    have HL := Lib.hid hL
    have HA1 := Lib.hid (HA.out.below hb1)
    have hO0 : HMap (w1.alloc (.map #[] 0)) w1.heap.size 0 (kindsH (ags.take 0)) := hm_made w1
    have HO0 := Lib.hid hO0
    have HB0 : Hid (Below w1.heap.size w1 (w1.alloc (.map #[] 0))) := Lib.hid belx
    have HN0 : Hid (((ags.take 0).map nmA).Nodup) := Lib.hid (by simp)
    clear hb1 hL hO0 KO HA
    go_wp2_with fail
    go_loopw [28] (fun i wr => ∃ k : Nat, k ≤ ags.length ∧ i = .int .i64 k ∧ Hid (((ags.take k).map nmA).Nodup) ∧ Hid (argsP (ags.drop k) ((ags.take k).map nmA) = R) ∧ Hid (HMap wr w1.heap.size k (kindsH (ags.take k))) ∧ Hid (Below w1.heap.size w1 wr)) (fun i _ => ags.length - (intOf i).toNat)
    case atStart => exact ⟨0, Nat.zero_le _, rfl, HN0, HR0, HO0, HB0⟩
    case round =>
      obtain ⟨k, hk1, rfl, HND, HR, HO, HB1⟩ := hrel
      have sB := HB1.out.size
      by_cases hlt : k < ags.length
      · obtain ⟨b, o, rfl, hat⟩ := (HA1.out.below HB1.out).at (by omega)
        obtain ⟨x, hx⟩ : ∃ x, ags[k]? = some x := ⟨ags[k], List.getElem?_eq_getElem hlt⟩
        have hst := argsP_step hx ((ags.take k).map nmA)
        rw [HR.out] at hst
        obtain ⟨n0, n1, n2, n3, n4⟩ := hat k x hx
        have hxz := HZ.out x (List.mem_of_getElem? hx)
        have HX := Lib.hid hx
        have HST := Lib.hid hst
        have i0 : (0 : Int) ≤ (k : Int) := by omega
        have i1 : (k : Int) < (ags.length : Int) := by omega
        have i2 : (k : Int) ≤ (c : Int) := by omega
        have e1 : IntKind.i64.wrap ((k : Int) + 1) = (k : Int) + 1 := IntWalk.i64_in _ (by omega)
        have HS : Hid (Below w1.heap.size w1 (wr.alloc (.cells #[.string x.name, .bool x.isNum, .int .i64 x.coef, .int .i64 x.scale, .string x.text] 38))) := Lib.hid (HB1.out.alloc sB _)
        have HOS : Hid (HMap (wr.alloc (.cells #[.string x.name, .bool x.isNum, .int .i64 x.coef, .int .i64 x.scale, .string x.text] 38)) w1.heap.size k (kindsH (ags.take k))) := Lib.hid (HO.out.alloc _)
        clear hst hat hx HO HB1
        go_wp2_with fail
        refine (name_code x.name _ (by omega)).mono ?_
        rintro e w2 ⟨rfl, hb2⟩
        have a0 : w2.cell? ⟨wr.heap.size, 0, none⟩ = some (.string x.name) := carry hb2 (by go_simp)
        have a1 : w2.cell? ⟨wr.heap.size, 1, none⟩ = some (.bool x.isNum) := carry hb2 (by go_simp)
        have a2 : w2.cell? ⟨wr.heap.size, 2, none⟩ = some (.int .i64 x.coef) := carry hb2 (by go_simp)
        have a3 : w2.cell? ⟨wr.heap.size, 3, none⟩ = some (.int .i64 x.scale) := carry hb2 (by go_simp)
        have HO2 := Lib.hid (HOS.out.below hb2)
        have HB2 : Hid (Below w1.heap.size w1 w2) := Lib.hid (bel_call HS.out hb2 HS.out.size)
        have s2 := HB2.out.size
        clear hb2 HS HOS n0 n1 n2 n3 n4
        rw [show x.name.data.toList = nmA x from rfl]
        cases hnm : nameB (nmA x)
        · have HR3 : Hid (R = 3) := Lib.hid (HST.out.trans (if_neg (by rw [hnm]; decide)))
          have HFP : Hid (FP = 3) := Lib.hid (by rw [HF2.out, HR3.out]; rfl)
          clear HST hnm
          go_wp2_with fail
          go_ret
          rw [HFP.out]
          exact ⟨rfl, HB.out.trans (HB2.out.mono s1)⟩
        · have HSTa : Hid (R = if x.isNum = true ∧ ¬ decOk x.coef x.scale then 1 else if nmA x ∈ (ags.take k).map nmA then 5 else argsP (ags.drop (k + 1)) ((ags.take k).map nmA ++ [nmA x])) := Lib.hid (HST.out.trans (if_pos hnm))
          clear HST hnm
          cases hisn : x.isNum
          · have HST : Hid (R = if nmA x ∈ (ags.take k).map nmA then 5 else argsP (ags.drop (k + 1)) ((ags.take k).map nmA ++ [nmA x])) := Lib.hid (HSTa.out.trans (if_neg (by rw [hisn]; simp)))
            rw [hisn] at a1
            clear HSTa
            have HOC := HO2
            have HB1C := HB2
            have HBC : Hid (Below w.heap.size w w2) := Lib.hid (HB.out.trans (HB2.out.mono s1))
            by_cases hin : nmA x ∈ (ags.take k).map nmA
            · have hst := HST.out
              rw [if_pos hin] at hst
              have HFP : Hid (FP = 5) := Lib.hid (by rw [HF2.out, hst]; rfl)
              obtain ⟨v0, hv0⟩ : ∃ v0, hlook (kindsH (ags.take k)) x.name.data.toList = some v0 := by
                cases hq : hlook (kindsH (ags.take k)) x.name.data.toList with
                | none => exact absurd (kinds_keys (ags.take k) ▸ hin) (hlook_none_iff.1 hq)
                | some v => exact ⟨v, rfl⟩
              have hlk := hm_some HOC.out Tryz.underlying161 (zero_bool _) (by unfold maxLen; omega) (by rw [kinds_keys]; exact HND.out) hv0
              clear hin hst HST hv0
              go_wp2_with fail
              go_ret
              rw [HFP.out]
              exact ⟨rfl, HBC.out⟩
            · have hst := HST.out
              rw [if_neg hin] at hst
              have hlk := hm_none (s := x.name) HOC.out Tryz.underlying161 (zero_bool _) (by unfold maxLen; omega) (hlook_none_iff.2 (by rw [kinds_keys]; exact hin))
              obtain ⟨W5, hput, hOW, hFW⟩ := hm_put (s := x.name) HOC.out Tryz.underlying161 (by unfold maxLen; omega) (by unfold maxLen; omega) (.bool x.isNum)
              rw [hisn] at hput
              have hnd2 : ((ags.take (k + 1)).map nmA).Nodup := by
                rw [List.take_add_one, HX.out, List.map_append, List.nodup_append]
                refine ⟨HND.out, by simp, fun a ha b hb e => ?_⟩
                simp at hb
                exact hin (hb ▸ e ▸ ha)
              have HND2 := Lib.hid hnd2
              have HO2 : Hid (HMap W5 w1.heap.size (k + 1) (kindsH (ags.take (k + 1)))) := Lib.hid (by
                have e : kindsH (ags.take (k + 1)) = kindsH (ags.take k) ++ [(x.name.data.toList, .bool x.isNum)] := by unfold kindsH; rw [List.take_add_one, HX.out, List.map_append]; rfl
                rw [e]; exact hOW)
              have HB2 : Hid (Below w1.heap.size w1 W5) := Lib.hid (HB1C.out.trans (hFW.toBelow (by simp) HB1C.out.size))
              have HST2 : Hid (argsP (ags.drop (k + 1)) ((ags.take (k + 1)).map nmA) = R) := Lib.hid (by
                rw [List.take_add_one, HX.out, List.map_append]; exact hst.symm)
              clear hin hst HST hnd2 hOW hFW
              go_wp2_with fail
              go_roundw
              case rel => exact ⟨k + 1, by omega, by go_num, HND2, HST2, HO2, HB2⟩
              case measure => simp [intOf]; omega
          · by_cases hd : decOk x.coef x.scale
            · have HST : Hid (R = if nmA x ∈ (ags.take k).map nmA then 5 else argsP (ags.drop (k + 1)) ((ags.take k).map nmA ++ [nmA x])) := Lib.hid (HSTa.out.trans (if_neg (fun h => h.2 hd)))
              rw [hisn] at a1
              have HD := Lib.hid hd
              clear HSTa hd
              go_wp2_with fail
              refine (dec_check_ok x.coef x.scale _ HD.out).mono ?_
              rintro e w3 ⟨rfl, hb3⟩
              replace a0 := carry hb3 a0
              replace a1 := carry hb3 a1
              have HOC := Lib.hid (HO2.out.below hb3)
              have HB1C : Hid (Below w1.heap.size w1 w3) := Lib.hid (bel_call HB2.out hb3 s2)
              have HBC : Hid (Below w.heap.size w w3) := Lib.hid (HB.out.trans (HB1C.out.mono s1))
              clear hb3 a2 a3 HO2 HB2
              by_cases hin : nmA x ∈ (ags.take k).map nmA
              · have hst := HST.out
                rw [if_pos hin] at hst
                have HFP : Hid (FP = 5) := Lib.hid (by rw [HF2.out, hst]; rfl)
                obtain ⟨v0, hv0⟩ : ∃ v0, hlook (kindsH (ags.take k)) x.name.data.toList = some v0 := by
                  cases hq : hlook (kindsH (ags.take k)) x.name.data.toList with
                  | none => exact absurd (kinds_keys (ags.take k) ▸ hin) (hlook_none_iff.1 hq)
                  | some v => exact ⟨v, rfl⟩
                have hlk := hm_some HOC.out Tryz.underlying161 (zero_bool _) (by unfold maxLen; omega) (by rw [kinds_keys]; exact HND.out) hv0
                clear hin hst HST hv0
                go_wp2_with fail
                go_ret
                rw [HFP.out]
                exact ⟨rfl, HBC.out⟩
              · have hst := HST.out
                rw [if_neg hin] at hst
                have hlk := hm_none (s := x.name) HOC.out Tryz.underlying161 (zero_bool _) (by unfold maxLen; omega) (hlook_none_iff.2 (by rw [kinds_keys]; exact hin))
                obtain ⟨W5, hput, hOW, hFW⟩ := hm_put (s := x.name) HOC.out Tryz.underlying161 (by unfold maxLen; omega) (by unfold maxLen; omega) (.bool x.isNum)
                rw [hisn] at hput
                have hnd2 : ((ags.take (k + 1)).map nmA).Nodup := by
                  rw [List.take_add_one, HX.out, List.map_append, List.nodup_append]
                  refine ⟨HND.out, by simp, fun a ha b hb e => ?_⟩
                  simp at hb
                  exact hin (hb ▸ e ▸ ha)
                have HND2 := Lib.hid hnd2
                have HO2 : Hid (HMap W5 w1.heap.size (k + 1) (kindsH (ags.take (k + 1)))) := Lib.hid (by
                  have e : kindsH (ags.take (k + 1)) = kindsH (ags.take k) ++ [(x.name.data.toList, .bool x.isNum)] := by unfold kindsH; rw [List.take_add_one, HX.out, List.map_append]; rfl
                  rw [e]; exact hOW)
                have HB2 : Hid (Below w1.heap.size w1 W5) := Lib.hid (HB1C.out.trans (hFW.toBelow (by simp) HB1C.out.size))
                have HST2 : Hid (argsP (ags.drop (k + 1)) ((ags.take (k + 1)).map nmA) = R) := Lib.hid (by
                  rw [List.take_add_one, HX.out, List.map_append]; exact hst.symm)
                clear hin hst HST hnd2 hOW hFW
                go_wp2_with fail
                go_roundw
                case rel => exact ⟨k + 1, by omega, by go_num, HND2, HST2, HO2, HB2⟩
                case measure => simp [intOf]; omega
            · have HR1 : Hid (R = 1) := Lib.hid (HSTa.out.trans (if_pos ⟨hisn, hd⟩))
              have HFP : Hid (FP = 1) := Lib.hid (by rw [HF2.out, HR1.out]; rfl)
              rw [hisn] at a1
              have HD := Lib.hid hd
              clear HSTa hd
              go_wp2_with fail
              refine (dec_check_no x.coef x.scale _ HD.out).mono ?_
              rintro e w3 ⟨rfl, hb3⟩
              go_wp2_with fail
              go_ret
              rw [HFP.out]
              exact ⟨rfl, HB.out.trans ((bel_call HB2.out hb3 s2).mono s1)⟩
      · obtain rfl : k = ags.length := by omega
        have hR0 : R = 0 := by
          have := HR.out
          rw [List.drop_of_length_le (Nat.le_refl _), argsP] at this
          exact this.symm
        have HF3 : Hid (needP ags (L.drop 0) = FP) := Lib.hid (by rw [HF2.out, hR0]; rfl)
        have HOL : Hid (HMap wr w1.heap.size ags.length (kindsH ags)) := Lib.hid (by have := HO.out; rwa [List.take_length] at this)
        have HNL : Hid ((ags.map nmA).Nodup) := Lib.hid (by have := HND.out; rwa [List.take_length] at this)
        have HLW := Lib.hid (HL.out.below HB1.out)
        have HBW := Lib.hid (HB.out.trans (HB1.out.mono s1))
        have HR1 : Hid (Below wr.heap.size wr wr) := Lib.hid (Below.refl _ _)
        clear hR0 HF2 HR HO HND HL HB HB1 HR0 HO0 HB0 HN0 HA1
        go_wp2_with fail
        obtain ⟨W1, hW1⟩ : ∃ W1, W1 = wr := ⟨_, rfl⟩
        subst hW1
        go_loopw [62] (fun i wq => ∃ k : Nat, k ≤ L.length ∧ i = .int .i64 k ∧ Hid (needP ags (L.drop k) = FP) ∧ Hid (Below W1.heap.size W1 wq)) (fun i _ => L.length - (intOf i).toNat)
        case atStart => exact ⟨0, Nat.zero_le _, rfl, HF3, HR1⟩
        case round =>
          obtain ⟨j, hj1, rfl, HRj, HBj⟩ := hrel
          have sJ := HBj.out.size
          by_cases hlt : j < L.length
          · obtain ⟨b, o, rfl, hat⟩ := (HLW.out.below HBj.out).at (by omega)
            obtain ⟨x, hx⟩ : ∃ x, L[j]? = some x := ⟨L[j], List.getElem?_eq_getElem hlt⟩
            have hst := needP_step (ags := ags) hx
            rw [HRj.out] at hst
            obtain ⟨n0, n1, n2⟩ := hat j x hx
            have hxz := HSH.out x (List.mem_of_getElem? hx)
            have i0 : (0 : Int) ≤ (j : Int) := by omega
            have i1 : (j : Int) < (L.length : Int) := by omega
            have i2 : (j : Int) ≤ (cL : Int) := by omega
            have e1 : IntKind.i64.wrap ((j : Int) + 1) = (j : Int) + 1 := IntWalk.i64_in _ (by omega)
            have hbA : Below W1.heap.size W1 (wr.alloc (.cells #[.string x.name, .bool x.num, .bool x.text] 164)) := HBj.out.alloc sJ _
            have HBA := Lib.hid hbA
            have hmA := HOL.out.below hbA
            cases hf : ags.find? (hasA x.name) with
            | none =>
              rw [hf] at hst
              have HE2 : Hid (FP = 2) := Lib.hid hst
              have hlk := hm_none (s := x.name) hmA Tryz.underlying161 (zero_bool _) (by unfold maxLen; omega) (by unfold kindsH; rw [hlook_map, hf]; rfl)
              clear hst hat hx hbA hmA hf
              go_wp2_with fail
              go_ret
              rw [HE2.out]
              exact ⟨rfl, HBW.out.trans (HBA.out.mono HBW.out.size)⟩
            | some a =>
              rw [hf] at hst
              simp only at hst
              have hlk := hm_some (s := x.name) (v := .bool a.isNum) hmA Tryz.underlying161 (zero_bool _) (by unfold maxLen; omega) (by rw [kinds_keys]; exact HNL.out) (by unfold kindsH; rw [hlook_map, hf]; rfl)
              have HST := Lib.hid hst
              have HBB := Lib.hid (HBW.out.trans (HBA.out.mono HBW.out.size))
              clear hst hat hx hbA hmA hf
              obtain ⟨xn, xa, xt⟩ := x
              obtain ⟨an, ai, ac, as', at'⟩ := a
              simp only at *
              cases xa <;> cases xt <;> cases ai
              all_goals (simp only [Bool.false_and, Bool.true_and, Bool.and_false, Bool.and_true, Bool.or_false, Bool.false_or, Bool.or_true, Bool.true_or, Bool.not_true, Bool.not_false, if_true, if_false, Bool.false_eq_true, reduceIte] at HST)
              all_goals go_wp2_with fail
              all_goals first
                | (go_ret; rw [HST.out]; exact ⟨rfl, HBB.out⟩)
                | (go_roundw; (case rel => exact ⟨j + 1, by omega, by go_num, Lib.hid HST.out.symm, HBA⟩); (case measure => simp [intOf]; omega))
          · obtain rfl : j = L.length := by omega
            have hF0 : FP = 0 := by
              have := HRj.out
              rw [List.drop_of_length_le (Nat.le_refl _), needP] at this
              exact this.symm
            have HF0 := Lib.hid hF0
            clear hF0
            go_wp2_with fail
            go_ret
            rw [HF0.out]
            exact ⟨rfl, HBW.out.trans (HBj.out.mono HBW.out.size)⟩
  · have KN := Lib.hid (names_of_no f v ms w hE hK hN h)
    have hfp : fitsP f ms ags = namesP f ms := if_neg h
    have he : errOf (namesP f ms) = errT (namesP f ms) := if_neg h
    rw [hfp, he]
    obtain ⟨_, _, rfl, _, _, _⟩ := hN.form
    clear h hfp hE hK hN hA he
    generalize namesP f ms = E at *
    go_enter Tryz.func28, Tryz.ntmps28
    go_wp2_with fail
    refine KN.out.mono ?_
    rintro e w1 ⟨rfl, hb1⟩
    go_wp2_with fail
    go_ret
    exact ⟨rfl, hb1⟩
end Go.Proofs.YtplaohmdllindaaGreatDoor

/- msg.reader.cases at TopCounts' six cases. -/
namespace Go.Proofs.YtplaohmdllindaaGreatDoor
open Go.RowKit

end Go.Proofs.YtplaohmdllindaaGreatDoor

/- msg.reader.arg at TopCounts' Plural. -/
namespace Go.Proofs.YtplaohmdllindaaGreatDoor
open Go.RowKit

end Go.Proofs.YtplaohmdllindaaGreatDoor

/- msg.reader.message, msg.Parse at TopCounts' text. -/
namespace Go.Proofs.YtplaohmdllindaaGreatDoor
open Go.RowKit

end Go.Proofs.YtplaohmdllindaaGreatDoor

/- msg.Parse at a text whose message is right. -/
namespace Go.Proofs.YtplaohmdllindaaGreatDoor
open Go.RowKit

set_option maxHeartbeats 4000000 in
theorem parse_g (s : ByteArray) (f : Nat) (ms : List Nd) (w : World) (hs : s.size ≤ 2000) (hE : RuleEnv w) (hK : MKinds w) (hP : msgP f ms = 0)
    (hm : ∀ W r, RdAt W r s 0 → Calls Tryz.prog 26 #[.pointer (some ⟨r, 0, none⟩), .bool false] W fun e w' => ∃ A n c, e = .returned (.slice A n c) ∧ NodesFrom W.heap.size f w' (.slice A n c) ms ∧ RdAt w' r ⟨#[]⟩ 0 ∧ Off [r] W w') :
    Calls Tryz.prog 8 #[.string s] w fun e w' => ∃ A n c, e = .returned (.tuple #[.slice A n c, .nilIface]) ∧ NodesFrom w.heap.size f w' (.slice A n c) ms ∧ Below w.heap.size w w' := by
  have hmf : ∀ (fn : Fn) (first cap : Array Value) (w : World), (Instr.makeFunc fn first cap).run Tryz.prog w = .ok (.func fn first cap) w := fun _ _ _ _ => rfl
  have i1 : ¬ ((2000 : Int) < (s.size : Int)) := by omega
  have hr : RdAt (((w.alloc (.cells #[.slice none 0 0] 33)).alloc (.cells #[.nilIface] 28)).alloc (.cells #[.string s, .int .i64 0] 86)) (w.heap.size + 1 + 1) s 0 := ⟨by go_simp, by go_simp, by go_simp, by go_simp⟩
  have c0 : (((w.alloc (.cells #[.slice none 0 0] 33)).alloc (.cells #[.nilIface] 28)).alloc (.cells #[.string s, .int .i64 0] 86)).cell? ⟨w.heap.size, 0, none⟩ = some (.slice none 0 0) := by go_simp
  have c1 : (((w.alloc (.cells #[.slice none 0 0] 33)).alloc (.cells #[.nilIface] 28)).alloc (.cells #[.string s, .int .i64 0] 86)).cell? ⟨w.heap.size + 1, 0, none⟩ = some .nilIface := by go_simp
  have f0 : (((w.alloc (.cells #[.slice none 0 0] 33)).alloc (.cells #[.nilIface] 28)).alloc (.cells #[.string s, .int .i64 0] 86)).frozen? ⟨w.heap.size, 0, none⟩ = false := by go_simp
  have f1 : (((w.alloc (.cells #[.slice none 0 0] 33)).alloc (.cells #[.nilIface] 28)).alloc (.cells #[.string s, .int .i64 0] 86)).frozen? ⟨w.heap.size + 1, 0, none⟩ = false := by go_simp
  have s3 : (((w.alloc (.cells #[.slice none 0 0] 33)).alloc (.cells #[.nilIface] 28)).alloc (.cells #[.string s, .int .i64 0] 86)).heap.size = w.heap.size + 3 := by simp
  have o3 : Off [w.heap.size + 1 + 1] w (((w.alloc (.cells #[.slice none 0 0] 33)).alloc (.cells #[.nilIface] 28)).alloc (.cells #[.string s, .int .i64 0] 86)) := (((Off.refl _ w).alloc _).alloc _).alloc _
  have HR := Lib.hid (hm _ _ hr)
  have HC := Lib.hid (And.intro c0 (And.intro c1 (And.intro f0 (And.intro f1 (And.intro s3 o3)))))
  have HE := Lib.hid hE
  have HK := Lib.hid hK
  clear hr c0 c1 f0 f1 s3 o3 hm hE hK
  go_enter_defers Tryz.func8, Tryz.ntmps8
  go_wp2_with fail
  refine HR.out.mono ?_
  rintro e w4 ⟨A, n, c, rfl, hN, hR4, hO⟩
  obtain ⟨c0, c1, f0, f1, s3, o3⟩ := HC.out
  have l0 := lt_of_cell c0
  have l1 := lt_of_cell c1
  have k0 := hO.cell c0 (by first | (simp; done) | (simp; omega))
  have k1 := hO.cell c1 (by simp)
  have j0 := (hO.frozen (o := 0) l0 (by first | (simp; done) | (simp; omega))).trans f0
  have j1 := (hO.frozen (o := 0) l1 (by simp)).trans f1
  have s4 := hO.size
  rw [s3] at hN s4
  have o4 := o3.trans hO
  have hb4 : Below w.heap.size w w4 := o4.toBelow (fun k hk => by simp at hk; omega) (Nat.le_refl _)
  clear c0 c1 f0 f1 s3 o3 hO o4 l0 l1 HR HC
  obtain ⟨d0, d1, d2, d3⟩ := hR4
  have hof5 : Off [w.heap.size] w4 (w4.setCell ⟨w.heap.size, 0, none⟩ (.slice A n c)) := (Off.refl _ _).setCell _ _ (by simp)
  have S0 : (w4.setCell ⟨w.heap.size, 0, none⟩ (.slice A n c)).cell? ⟨w.heap.size + 1 + 1, 0, none⟩ = some (.string ⟨#[]⟩) := cell_other d0 (by first | (simp; done) | (simp; omega))
  have HN5 := Lib.hid (hN.off hof5 (fun k hk => by simp only [List.mem_singleton] at hk; omega))
  have r0 : (w4.setCell ⟨w.heap.size, 0, none⟩ (.slice A n c)).cell? ⟨w.heap.size, 0, none⟩ = some (.slice A n c) := cell_same k0
  have r1 : (w4.setCell ⟨w.heap.size, 0, none⟩ (.slice A n c)).cell? ⟨w.heap.size + 1, 0, none⟩ = some .nilIface := cell_other k1 (by simp)
  have v0 : (w4.setCell ⟨w.heap.size, 0, none⟩ (.slice A n c)).frozen? ⟨w.heap.size, 0, none⟩ = false := by rw [World.frozen?_setCell]; exact j0
  have v1 : (w4.setCell ⟨w.heap.size, 0, none⟩ (.slice A n c)).frozen? ⟨w.heap.size + 1, 0, none⟩ = false := by rw [World.frozen?_setCell]; exact j1
  have hb5 : Below w.heap.size w (w4.setCell ⟨w.heap.size, 0, none⟩ (.slice A n c)) := bel_set hb4 (Nat.le_refl _)
  have KC := Lib.hid (msg_any f (.slice A n c) ms _ (HE.out.below hb5) (HK.out.below hb5) HN5.out.all)
  rw [hP, show errOf 0 = Value.nilIface from if_pos rfl] at KC
  clear hN hof5
  go_wp2_with fail
  refine KC.out.mono ?_
  rintro e w6 ⟨rfl, hb6⟩
  have t0 := carry hb6 r0
  have t1 := carry hb6 r1
  have u0 := carryF hb6 (lt_of_cell r0) v0
  have u1 := carryF hb6 (lt_of_cell r1) v1
  have hbb : Below w.heap.size w w6 := hb5.trans (hb6.mono hb5.size)
  have hof : Off [w.heap.size, w.heap.size + 1] w6 ((w6.setCell ⟨w.heap.size, 0, none⟩ (.slice A n c)).setCell ⟨w.heap.size + 1, 0, none⟩ .nilIface) := ((Off.refl _ _).setCell _ _ (by simp)).setCell _ _ (by simp)
  have HN7 := Lib.hid ((HN5.out.off ((Off.refl [] _).below hb6 (Nat.le_refl _)) (by simp)).off hof (fun k hk => by simp at hk; omega))
  clear r0 r1 v0 v1 hb5 hb6 hb4 k0 k1 j0 j1 S0 d0 d1 d2 d3 hof
  have z0 : ((w6.setCell ⟨w.heap.size, 0, none⟩ (.slice A n c)).setCell ⟨w.heap.size + 1, 0, none⟩ .nilIface).cell? ⟨w.heap.size, 0, none⟩ = some (.slice A n c) := cell_other (cell_same t0) (by simp)
  have z1 : ((w6.setCell ⟨w.heap.size, 0, none⟩ (.slice A n c)).setCell ⟨w.heap.size + 1, 0, none⟩ .nilIface).cell? ⟨w.heap.size + 1, 0, none⟩ = some .nilIface := cell_same (cell_other t1 (by simp))
  have hz : Below w.heap.size w ((w6.setCell ⟨w.heap.size, 0, none⟩ (.slice A n c)).setCell ⟨w.heap.size + 1, 0, none⟩ .nilIface) := bel_set (bel_set hbb (Nat.le_refl _)) (Nat.le_succ _)
  go_wp2_with fail
  refine leaves_cons (f := 25) (args := #[.pointer (some ⟨w.heap.size, 0, none⟩), .pointer (some ⟨w.heap.size + 1, 0, none⟩)]) (by simp) (by simp [go_sem]) ?_
  refine (parse_idle _ _ _).mono ?_
  rintro e u' w7 ⟨rfl, rfl, rfl⟩
  refine ⟨.tuple #[.slice A n c, .nilIface], ?_, A, n, c, rfl, HN7.out.mono (by omega), hz⟩
  have hfr : Tryz.f8.results = #[.cell 2 33, .cell 3 28] := rfl
  simp [results, hfr, go_sem, z0, z1]
def helloS : ByteArray := ⟨#[104, 101, 108, 108, 111]⟩
def helloN : List Nd := [Nd.mk 1 helloS 0 []]
theorem parse_hello (w : World) (hE : RuleEnv w) (hK : MKinds w) : Calls Tryz.prog 8 #[.string helloS] w fun e w' => ∃ A n c, e = .returned (.tuple #[.slice A n c, .nilIface]) ∧ NodesIn 1 w' (.slice A n c) helloN ∧ Below w.heap.size w w' := by
  refine (parse_g helloS 1 helloN w (by decide) hE hK (by decide +kernel) (fun W r h => (message_words r helloS W h (bareB_to (by decide +kernel)) (by decide +kernel) (by decide)).mono fun e w' ⟨v, he, h2, h3, h4⟩ => ?_)).mono ?_
  · obtain ⟨A, c, rfl, _⟩ := h2.form
    exact ⟨A, _, c, he, nodes_of (f := 0) h2 rfl (by decide) (fun i x hx => by
      match i, hx with
      | 0, hx =>
        injection hx with hx
        subst hx
        exact ⟨by decide, ⟨by decide, by decide⟩, ⟨by decide, by decide⟩, none, 0, 0, rfl, leaf⟩), h3, h4⟩
  · rintro e w' ⟨A, n, c, rfl, h1, h2⟩
    exact ⟨A, n, c, rfl, h1.all, h2⟩
end Go.Proofs.YtplaohmdllindaaGreatDoor

/- TopCounts' message, in plain terms. -/
namespace Go.Proofs.YtplaohmdllindaaGreatDoor

theorem app_none (b : ByteArray) : b ++ (⟨#[]⟩ : ByteArray) = b := by
  apply ByteArray.ext
  simp
def topA (c s : Int) : List ArgC := [⟨⟨#[110]⟩, true, c, s, ⟨#[]⟩⟩]
theorem has_n (c s : Int) : hasA ⟨#[110]⟩ ⟨⟨#[110]⟩, true, c, s, ⟨#[]⟩⟩ = true := (hasA_iff _ _).2 rfl
theorem find_n (c s : Int) : (topA c s).find? (hasA ⟨#[110]⟩) = some ⟨⟨#[110]⟩, true, c, s, ⟨#[]⟩⟩ := by
  unfold topA
  rw [List.find?_cons_of_pos (has_n c s)]
theorem top_args (c s : Int) : argsP (topA c s) [] = if decOk c s then 0 else 1 := by
  have hn : nameB [110] = true := by decide +kernel
  unfold topA argsP nmA
  rw [if_pos hn]
  by_cases h : decOk c s
  · rw [if_neg (by simp [h]), if_neg (by simp), if_pos h]
    rfl
  · rw [if_pos ⟨rfl, h⟩, if_neg h]
theorem look_n (c s : Int) : lookA (topA c s) ⟨#[110]⟩ = ⟨⟨#[110]⟩, true, c, s, ⟨#[]⟩⟩ := by
  unfold lookA
  rw [find_n]
  rfl
end Go.Proofs.YtplaohmdllindaaGreatDoor
