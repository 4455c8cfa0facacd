/- EvalPlain, OpenFit, FitsPlain, Fits: texts put together. -/
import Derived.Test.YthlcjlmaaaappaaGreatDoorEw25
import Derived.Test.YthlcjlmaaaappaaGreatDoorEw26
import Derived.Test.YthlcjlmaaaappaaGreatDoorEw12
import Derived.Test.YthlcjlmaaaappaaGreatDoorEw3
import Derived.Test.YthlcjlmaaaappaaGreatDoorEw22
import Derived.Test.YthlcjlmaaaappaaGreatDoorEw17
import Derived.Test.YthlcjlmaaaappaaGreatDoorEw1
import Derived.Test.YthlcjlmaaaappaaGreatDoorEw7
set_option linter.unusedVariables false
set_option linter.unusedSimpArgs false
/- eval, in plain terms. No program stands here. -/
namespace Go.Proofs.YthlcjlmaaaappaaGreatDoor

def noArg : ArgC := ⟨⟨#[]⟩, false, 0, 0, ⟨#[]⟩⟩
/-- the arg of a name -/
def lookA (ags : List ArgC) (t : ByteArray) : ArgC := (ags.find? (hasA t)).getD noArg
instance (c s : Int) : Decidable (decOk c s) := by unfold decOk; exact inferInstance
/-- eval.Numeral: its fault, its text -/
def numP (c s : Int) : Int × ByteArray := if decOk c s then (0, numT c s.toNat) else (1, ⟨#[]⟩)
/-- the number less a Plural's offset -/
def lessP (c s off : Int) : Int × Int × Int := if decOk c s ∧ decOk (-off) 0 ∧ -1000000000000000 ≤ c - off * ten s.toNat ∧ c - off * ten s.toNat ≤ 1000000000000000 then (0, c - off * ten s.toNat, s) else (1, 0, 0)
/-- how much a case of a Plural counts -/
def rankP (kind : ByteArray) (c s : Int) (key : ByteArray) : Int :=
  if 0 ≤ exC key.data.toList ∧ c * ten 0 = exC key.data.toList * ten s.toNat then 3 else if key.toList == kind.toList then 2 else if key.toList == otherS.toList then 1 else 0
def bestGo (r : ByteArray → Int) : Nat → Nat → Int → List (ByteArray × List Nd) → Nat
  | _, best, _, [] => best
  | i, best, rank, k :: l => if rank < r k.1 then bestGo r (i + 1) i (r k.1) l else bestGo r (i + 1) best rank l
def choiceGo (s : ByteArray) : Nat → Nat → List (ByteArray × List Nd) → Nat
  | _, best, [] => best
  | i, best, k :: l => if k.1.toList == s.toList then i else choiceGo s (i + 1) (if k.1.toList == otherS.toList then i else best) l
def bodyAt (cs : List (ByteArray × List Nd)) (i : Nat) : List Nd := ((cs[i]?).map (·.2)).getD []
def showT (a : ArgC) : ByteArray := if a.isNum then decT a.coef a.scale.toNat else a.text
def bestP (S : SetC) (c s : Int) (l : Int × Int × Int) (cs : List (ByteArray × List Nd)) : Nat := bestGo (rankP (kindT (S.kind (opsC l.2.1 l.2.2.toNat))) c s) 0 0 0 cs
/-- what is said of a node: the fault, the text so far -/
def oneP (S : SetC) (look : ByteArray → ArgC) (g : List Nd → Int → Int → Int × ByteArray) (mc ms : Int) (x : Nd) : Int × ByteArray :=
  if x.kd = 1 then (0, x.t)
  else if x.kd = 6 then numP mc ms
  else if x.kd = 3 then numP (look x.t).coef (look x.t).scale
  else if x.kd = 4 then (if (lessP (look x.t).coef (look x.t).scale x.off).1 = 0 then g (bodyAt x.cs (bestP S (look x.t).coef (look x.t).scale (lessP (look x.t).coef (look x.t).scale x.off) x.cs)) (lessP (look x.t).coef (look x.t).scale x.off).2.1 (lessP (look x.t).coef (look x.t).scale x.off).2.2
      else ((lessP (look x.t).coef (look x.t).scale x.off).1, ⟨#[]⟩))
  else if x.kd = 5 then g (bodyAt x.cs (choiceGo (look x.t).text 0 0 x.cs)) mc ms
  else (0, showT (look x.t))
def sayGo (o : Nd → Int × ByteArray) : List Nd → Int × ByteArray
  | [] => (0, ⟨#[]⟩)
  | x :: r => if (o x).1 = 0 then ((sayGo o r).1, (o x).2 ++ (sayGo o r).2) else o x
/-- eval.say -/
def sayP (S : SetC) (look : ByteArray → ArgC) : Nat → List Nd → Int → Int → Int × ByteArray
  | 0, _, _, _ => (0, ⟨#[]⟩)
  | f + 1, ms, mc, sc => sayGo (oneP S look (sayP S look f) mc sc) ms

/-! the cases that are told lie there -/
theorem bestGo_lt (r : ByteArray → Int) : ∀ (cs : List (ByteArray × List Nd)) (i best : Nat) (rank : Int), bestGo r i best rank cs = best ∨ (i ≤ bestGo r i best rank cs ∧ bestGo r i best rank cs < i + cs.length)
  | [], _, _, _ => .inl rfl
  | k :: l, i, best, rank => by
    rw [bestGo]
    split
    · rcases bestGo_lt r l (i + 1) i (r k.1) with h | h
      · exact .inr (by rw [h, List.length_cons]; omega)
      · exact .inr (by rw [List.length_cons]; omega)
    · rcases bestGo_lt r l (i + 1) best rank with h | h
      · exact .inl h
      · exact .inr (by rw [List.length_cons]; omega)
theorem bestP_lt (S : SetC) (c s : Int) (l : Int × Int × Int) (cs : List (ByteArray × List Nd)) (h : 0 < cs.length) : bestP S c s l cs < cs.length := by
  unfold bestP
  rcases bestGo_lt (rankP (kindT (S.kind (opsC l.2.1 l.2.2.toNat))) c s) cs 0 0 0 with h1 | h1 <;> omega
theorem choiceGo_lt (s : ByteArray) : ∀ (cs : List (ByteArray × List Nd)) (i best : Nat), choiceGo s i best cs = best ∨ (i ≤ choiceGo s i best cs ∧ choiceGo s i best cs < i + cs.length)
  | [], _, _ => .inl rfl
  | k :: l, i, best => by
    rw [choiceGo]
    split
    · exact .inr (by rw [List.length_cons]; omega)
    · rcases choiceGo_lt s l (i + 1) (if k.1.toList == otherS.toList then i else best) with h | h
      · rw [h]
        split
        · exact .inr (by rw [List.length_cons]; omega)
        · exact .inl rfl
      · exact .inr (by rw [List.length_cons]; omega)
theorem choice_lt (s : ByteArray) (cs : List (ByteArray × List Nd)) (h : 0 < cs.length) : choiceGo s 0 0 cs < cs.length := by
  rcases choiceGo_lt s cs 0 0 with h1 | h1 <;> omega
theorem bodyAt_mem {cs : List (ByteArray × List Nd)} {i : Nat} (h : i < cs.length) : ∃ c ∈ cs, bodyAt cs i = c.2 := by
  refine ⟨cs[i], List.getElem_mem h, ?_⟩
  unfold bodyAt
  rw [List.getElem?_eq_getElem h]
  rfl

/-! what a check that finds nothing tells -/
theorem cases_zero (g : List Nd → Bool → Int) (kd : Int) (mark : Bool) : ∀ (cs : List (ByteArray × List Nd)) (seen : List ByteArray), casesP g kd mark seen cs = 0 → (∀ c ∈ cs, g c.2 (mark || decide (kd = 4)) = 0) ∧ (Lib.containsS seen otherS = true ∨ 0 < cs.length)
  | [], seen, h => by
    refine ⟨by simp, .inl ?_⟩
    unfold casesP at h
    split at h
    · rename_i h1; exact h1
    · cases h
  | k :: l, seen, h => by
    unfold casesP at h
    split at h
    · split at h
      · cases h
      · split at h
        · rename_i h0
          obtain ⟨a, _⟩ := cases_zero g kd mark l _ h
          refine ⟨fun c hc => ?_, .inr (by simp)⟩
          rcases List.mem_cons.1 hc with rfl | hc
          · exact h0
          · exact a c hc
        · rename_i h0
          exact absurd h h0
    · cases h
theorem checkGo_zero (g : List Nd → Bool → Int) (m : Bool) : ∀ (ms : List Nd) (p : Option Int), checkGo g m p ms = 0 → ∀ x ∈ ms, ∃ q, nodeP g q x m = 0
  | [], _, _ => by simp
  | x :: r, p, h => by
    unfold checkGo at h
    split at h
    · rename_i h0
      intro y hy
      rcases List.mem_cons.1 hy with rfl | hy
      · exact ⟨p, h0⟩
      · exact checkGo_zero g m r _ h y hy
    · rename_i h0
      exact absurd h h0
/-- a node that is right -/
theorem nodeP_zero {g : List Nd → Bool → Int} {q : Option Int} {x : Nd} {m : Bool} (h : nodeP g q x m = 0) :
    (x.kd = 1 ∨ x.kd = 2 ∨ x.kd = 3 ∨ x.kd = 4 ∨ x.kd = 5 ∨ (x.kd = 6 ∧ m = true)) ∧ (x.kd = 4 → 0 ≤ x.off ∧ x.off ≤ 9) ∧ (x.kd = 4 ∨ x.kd = 5 → 0 < x.cs.length ∧ ∀ c ∈ x.cs, g c.2 (m || decide (x.kd = 4)) = 0) := by
  unfold nodeP at h
  split at h
  · rename_i hf
    refine ⟨?_, ?_, ?_⟩
    · unfold fineB at hf
      split at hf
      · rename_i h1; exact .inl h1
      · split at hf
        · rename_i h1
          rcases h1 with h1 | h1 | h1 | h1
          · exact .inr (.inl h1)
          · exact .inr (.inr (.inl h1))
          · exact .inr (.inr (.inr (.inl h1)))
          · exact .inr (.inr (.inr (.inr (.inl h1))))
        · simp only [Bool.and_eq_true, decide_eq_true_eq] at hf
          exact .inr (.inr (.inr (.inr (.inr hf))))
    · intro h4
      split at h
      · cases h
      · rename_i h1
        refine ⟨?_, ?_⟩
        · exact Int.not_lt.1 fun h2 => h1 ⟨h4, .inl h2⟩
        · exact Int.not_lt.1 fun h2 => h1 ⟨h4, .inr h2⟩
    · intro h4
      split at h
      · cases h
      · try rw [if_pos h4] at h
        obtain ⟨a, b⟩ := cases_zero g x.kd m x.cs [] h
        refine ⟨?_, a⟩
        rcases b with b | b
        · have h0 : Lib.containsS [] otherS = false := rfl
          rw [h0] at b
          cases b
        · exact b
  · cases h

/-! which names count -/
def usesP (P : List UInt8 → Prop) : Nat → List Nd → Prop
  | 0, _ => True
  | f + 1, ms => ∀ x ∈ ms, (¬ (x.kd = 1 ∨ x.kd = 6) → P x.t.toList) ∧ ∀ c ∈ casesOf x, usesP P f c.2
theorem usesP.mono {P Q : List UInt8 → Prop} (h : ∀ t, P t → Q t) : ∀ {f : Nat} {ms : List Nd}, usesP P f ms → usesP Q f ms
  | 0, _, _ => trivial
  | f + 1, ms, hu => fun x hx => ⟨fun hk => h _ ((hu x hx).1 hk), fun c hc => usesP.mono h ((hu x hx).2 c hc)⟩
theorem names_sub_add (l : List Need) (kd : Int) (t : ByteArray) : ∀ s ∈ namesOf l, s ∈ namesOf (addN l kd t) := by
  intro s hs
  rw [names_add]
  split
  · exact hs
  · split
    · exact hs
    · exact List.mem_append_left _ hs
theorem names_new (l : List Need) (kd : Int) (t : ByteArray) (h : ¬ (kd = 1 ∨ kd = 6)) : t.toList ∈ namesOf (addN l kd t) := by
  rw [names_add, if_neg h]
  split
  · rename_i h1; exact h1
  · simp
theorem foldC_sub {f : Nat} (hA : ∀ (l : List Need) (ms : List Nd), ∀ s ∈ namesOf l, s ∈ namesOf (allN f l ms)) : ∀ (cs : List (ByteArray × List Nd)) (l : List Need), ∀ s ∈ namesOf l, s ∈ namesOf (foldC f l cs)
  | [], _, s, hs => hs
  | c :: r, l, s, hs => foldC_sub hA r (allN f l c.2) s (hA l c.2 s hs)
theorem names_sub : ∀ (f : Nat) (l : List Need) (ms : List Nd), ∀ s ∈ namesOf l, s ∈ namesOf (allN f l ms)
  | 0, _, _, s, hs => hs
  | f + 1, l, ms, s, hs => by
    rw [allN_succ]
    have : ∀ (ms : List Nd) (l : List Need), ∀ s ∈ namesOf l, s ∈ namesOf (foldM f l ms) := by
      intro ms
      induction ms with
      | nil => intro l s hs; exact hs
      | cons x r ih =>
        intro l s hs
        exact ih _ s (foldC_sub (names_sub f) _ _ s (names_sub_add _ _ _ s hs))
    exact this ms l s hs
theorem foldC_uses {f : Nat} (hU : ∀ (l : List Need) (ms : List Nd), usesP (· ∈ namesOf (allN f l ms)) f ms) : ∀ (cs : List (ByteArray × List Nd)) (l : List Need), ∀ c ∈ cs, usesP (· ∈ namesOf (foldC f l cs)) f c.2
  | [], _ => by simp
  | k :: r, l => by
    intro c hc
    rcases List.mem_cons.1 hc with rfl | hc
    · exact (hU l c.2).mono fun t ht => foldC_sub (names_sub f) r _ t ht
    · exact foldC_uses hU r _ c hc
theorem all_uses : ∀ (f : Nat) (l : List Need) (ms : List Nd), usesP (· ∈ namesOf (allN f l ms)) f ms
  | 0, _, _ => trivial
  | f + 1, l, ms => by
    rw [allN_succ]
    have hsub : ∀ (ms : List Nd) (l : List Need), ∀ s ∈ namesOf l, s ∈ namesOf (foldM f l ms) := fun ms l s hs => names_sub (f + 1) l ms s hs
    have : ∀ (ms : List Nd) (l : List Need), ∀ x ∈ ms, (¬ (x.kd = 1 ∨ x.kd = 6) → x.t.toList ∈ namesOf (foldM f l ms)) ∧ ∀ c ∈ casesOf x, usesP (· ∈ namesOf (foldM f l ms)) f c.2 := by
      intro ms
      induction ms with
      | nil => intro l x hx; cases hx
      | cons y r ih =>
        intro l x hx
        show (¬ (x.kd = 1 ∨ x.kd = 6) → x.t.toList ∈ namesOf (foldM f (foldC f (addN l y.kd y.t) (casesOf y)) r)) ∧ ∀ c ∈ casesOf x, usesP (· ∈ namesOf (foldM f (foldC f (addN l y.kd y.t) (casesOf y)) r)) f c.2
        rcases List.mem_cons.1 hx with rfl | hx
        · refine ⟨fun hk => hsub r _ _ (foldC_sub (names_sub f) _ _ _ (names_new l x.kd x.t hk)), fun c hc => ?_⟩
          exact (foldC_uses (all_uses f) (casesOf x) (addN l x.kd x.t) c hc).mono fun t ht => hsub r _ t ht
        · exact ih _ x hx
    exact this ms l
theorem cases_mem {x : Nd} (h : x.kd = 4 ∨ x.kd = 5) : casesOf x = x.cs := if_pos h
theorem bodyAt_uses {P : List UInt8 → Prop} {f : Nat} {cs : List (ByteArray × List Nd)} (h : ∀ c ∈ cs, usesP P f c.2) (i : Nat) : usesP P f (bodyAt cs i) := by
  by_cases hi : i < cs.length
  · obtain ⟨c, hc, e⟩ := bodyAt_mem hi
    rw [e]
    exact h c hc
  · unfold bodyAt
    rw [List.getElem?_eq_none (by omega)]
    cases f with
    | zero => trivial
    | succ f => intro x hx; cases hx
theorem sayGo_eq {o o' : Nd → Int × ByteArray} : ∀ {ms : List Nd}, (∀ x ∈ ms, o x = o' x) → sayGo o ms = sayGo o' ms
  | [], _ => rfl
  | x :: r, h => by
    rw [sayGo, sayGo, h x (List.mem_cons_self ..), sayGo_eq (fun y hy => h y (List.mem_cons_of_mem _ hy))]
/-- what is said hangs on the names that count alone -/
theorem say_look (S : SetC) {look look' : ByteArray → ArgC} {P : List UInt8 → Prop} (hP : ∀ t : ByteArray, P t.toList → look t = look' t) : ∀ (f : Nat) (ms : List Nd) (mc sc : Int), usesP P f ms → sayP S look f ms mc sc = sayP S look' f ms mc sc
  | 0, _, _, _, _ => rfl
  | f + 1, ms, mc, sc, hu => by
    refine sayGo_eq fun x hx => ?_
    obtain ⟨h1, h2⟩ := hu x hx
    unfold oneP
    split
    · rfl
    · rename_i k1
      split
      · rfl
      · rename_i k6
        have hl := hP x.t (h1 (fun h => h.elim k1 k6))
        rw [hl]
        split
        · rfl
        · split
          · rename_i k4
            split
            · exact say_look S hP f _ _ _ (bodyAt_uses (by rw [cases_mem (.inl k4)] at h2; exact h2) _)
            · rfl
          · split
            · rename_i k5
              exact say_look S hP f _ _ _ (bodyAt_uses (by rw [cases_mem (.inr k5)] at h2; exact h2) _)
            · rfl
/-- where no # counts what it stands for does not matter -/
theorem say_mark (S : SetC) (look : ByteArray → ArgC) : ∀ (f : Nat) (ms : List Nd) (a b c d : Int), checkP f ms false = 0 → sayP S look f ms a b = sayP S look f ms c d
  | 0, _, _, _, _, _, _ => rfl
  | f + 1, ms, a, b, c, d, h => by
    refine sayGo_eq fun x hx => ?_
    obtain ⟨q, hq⟩ := checkGo_zero _ _ _ _ h x hx
    obtain ⟨h1, _, h3⟩ := nodeP_zero hq
    unfold oneP
    split
    · rfl
    · split
      · rename_i k6
        rcases h1 with h1 | h1 | h1 | h1 | h1 | ⟨_, h1⟩ <;> first | omega | cases h1
      · split
        · rfl
        · split
          · rfl
          · split
            · rename_i k5
              obtain ⟨hp, hc⟩ := h3 (.inr k5)
              obtain ⟨k, hk, e⟩ := bodyAt_mem (choice_lt (look x.t).text x.cs hp)
              rw [e]
              have := hc k hk
              rw [show (false || decide (x.kd = 4)) = false by rw [decide_eq_false (by omega)]; rfl] at this
              exact say_mark S look f k.2 a b c d this
            · rfl

/-! how long it is -/
def FitN (L : Nat) : Nat → List Nd → Prop
  | 0, _ => True
  | f + 1, ms => ∀ x ∈ ms, x.t.size ≤ L ∧ ∀ c ∈ x.cs, c.1.size ≤ L ∧ FitN L f c.2
theorem cntC_mem {f : Nat} {cs : List (ByteArray × List Nd)} {c : ByteArray × List Nd} (h : c ∈ cs) : cntP f c.2 ≤ cntC f cs := by
  unfold cntC
  induction cs with
  | nil => cases h
  | cons d r ih =>
    rw [List.map_cons, List.sum_cons]
    rcases List.mem_cons.1 h with rfl | h
    · exact Nat.le_add_right _ _
    · have := ih h
      omega
theorem sayGo_size {o : Nd → Int × ByteArray} {L f : Nat} : ∀ {ms : List Nd}, (∀ x ∈ ms, (o x).2.size ≤ (1 + cntC f (casesOf x)) * L) → (sayGo o ms).2.size ≤ (ms.length + cntC f (flatC ms)) * L
  | [], _ => Nat.zero_le _
  | x :: r, h => by
    have h1 := h x (List.mem_cons_self ..)
    have h2 := sayGo_size (ms := r) fun y hy => h y (List.mem_cons_of_mem _ hy)
    rw [flat_cons, cntC_append, List.length_cons, sayGo]
    have e : (r.length + 1 + (cntC f (casesOf x) + cntC f (flatC r))) * L = (1 + cntC f (casesOf x)) * L + (r.length + cntC f (flatC r)) * L := by rw [← Nat.add_mul]; congr 1; omega
    rw [e]
    split
    · rw [ByteArray.size_append]; omega
    · omega
theorem say_size (S : SetC) {look : ByteArray → ArgC} {L : Nat} (hL : 200 ≤ L) (hlook : ∀ t, (look t).text.size ≤ L ∧ ((look t).isNum = true → decOk (look t).coef (look t).scale)) : ∀ (f : Nat) (ms : List Nd) (mc sc : Int), FitN L f ms → (sayP S look f ms mc sc).2.size ≤ cntP f ms * L
  | 0, _, _, _, _ => Nat.zero_le _
  | f + 1, ms, mc, sc, h => by
    rw [cntP_succ]
    have hnum : ∀ c s, (numP c s).2.size ≤ 200 := fun c s => by
      unfold numP
      split
      · rename_i hd
        have := numT_size c s.toNat (by have h0 := hd.1; rw [show ((s.toNat : Nat) : Int) = s by omega]; exact hd)
        exact this
      · exact Nat.zero_le _
    have hb : ∀ (x : Nd) (i : Nat) (a b : Int), (x.kd = 4 ∨ x.kd = 5) → x ∈ ms → (sayP S look f (bodyAt x.cs i) a b).2.size ≤ (1 + cntC f (casesOf x)) * L := by
      intro x i a b hk hx
      by_cases hi : i < x.cs.length
      · obtain ⟨k, hk2, e⟩ := bodyAt_mem hi
        rw [e]
        have h1 := say_size S hL hlook f k.2 a b ((h x hx).2 k hk2).2
        have h2 : cntP f k.2 ≤ cntC f (casesOf x) := by rw [cases_mem hk]; exact cntC_mem hk2
        exact Nat.le_trans h1 (Nat.mul_le_mul_right _ (by omega))
      · unfold bodyAt
        rw [List.getElem?_eq_none (by omega)]
        cases f with
        | zero => exact Nat.zero_le _
        | succ f => exact Nat.zero_le _
    refine sayGo_size fun x hx => ?_
    have hone : L ≤ (1 + cntC f (casesOf x)) * L := by rw [Nat.add_mul]; omega
    unfold oneP
    split
    · exact Nat.le_trans (h x hx).1 hone
    · split
      · exact Nat.le_trans (hnum _ _) (by omega)
      · split
        · exact Nat.le_trans (hnum _ _) (by omega)
        · split
          · rename_i k4
            split
            · exact hb x _ _ _ (.inl k4) hx
            · exact Nat.zero_le _
          · split
            · rename_i k5
              exact hb x _ _ _ (.inr k5) hx
            · obtain ⟨h1, h2⟩ := hlook x.t
              show (showT (look x.t)).size ≤ _
              unfold showT
              split
              · rename_i hn
                have hd := h2 hn
                have := decT_size (look x.t).coef (look x.t).scale.toNat (by have h0 := hd.1; rw [show (((look x.t).scale.toNat : Nat) : Int) = (look x.t).scale by omega]; exact hd)
                omega
              · omega
end Go.Proofs.YthlcjlmaaaappaaGreatDoor

/- A message that came in, opened, with a bound on its texts. -/
namespace Go.Proofs.YthlcjlmaaaappaaGreatDoor
open Go.RowKit Go.ChangeShapes Go.WideShapes Go.Joins Go.Deep

section
variable {H : Type} {enc : TypeId × Value → H} {W : World} {base b0 : Nat} {r : Reach} {held : Bool}
theorem bulk_str (s : ByteArray) : Rows.uptoBulk (DataW.lit (H := H) (.string s.data.toList)) = s.size + 1 := by
  rw [Rows.uptoBulk, Array.length_toList]
  rfl
set_option maxRecDepth 100000 in
theorem open_fit (L : Nat) (N : Nat) : ∀ (fuel : Nat) (v : Value) (y : DataW H × List MemPlace), DataW.trod enc Tryz.prog W base (fun _ => true) held fuel 23 [v] = some y → Rows.uptoBulk y.1 ≤ N → N ≤ L →
    (y.1.weights Tryz.prog 23).all (· ≤ reachBytes) = true → ∃ ms, NodesIn N W v ms ∧ FitN L N ms := by
  induction N with
  | zero => intro fuel v y _ h; have := bulk_pos y.1; omega
  | succ N ih =>
    intro fuel v y h hbk hNL hw
    have hby : Tryz.prog.bytesOf 30 = 56 := by kernel_rfl
    have hby2 : Tryz.prog.bytesOf 33 = 40 := by kernel_rfl
    rcases open_fields Tryz.underlying23 Tryz.underlying30 (by kernel_rfl) (by kernel_rfl) h with ⟨hcs, hx⟩ | ⟨a, len, cap, m, D, hcs, hl, hm, hmm, hx, hi⟩
    · simp only [List.cons.injEq, and_true] at hcs
      subst hcs
      exact ⟨[], ⟨none, 0, rfl, Nat.le_refl _, by omega, by simp, .inl rfl⟩, fun x hx => by cases hx⟩
    · simp only [List.cons.injEq, and_true] at hcs
      subst hcs
      simp only [if_true] at hmm
      subst hmm
      rw [hx] at hw hbk
      simp only [DataW.weights, Tryz.underlying23, List.all_cons, List.all_append, Bool.and_eq_true, decide_eq_true_eq, hby, List.length_map, List.length_range, reachBytes] at hw
      obtain ⟨w1, w2, _⟩ := hw
      have wl : len * 56 ≤ 140737488351232 := Nat.le_trans (Nat.mul_le_mul_right _ (Nat.le_add_right _ _)) (of_decide_eq_true w1)
      simp only [Rows.uptoBulk] at hbk
      have hk : ∀ i, i < len → ∃ x : Nd, x.t.size ≤ 140737488355328 ∧ (-9223372036854775808 ≤ x.off ∧ x.off ≤ 9223372036854775807) ∧ (-9223372036854775808 ≤ x.kd ∧ x.kd ≤ 9223372036854775807) ∧
          W.cell? (a.add (i * 4)) = some (.int .i64 x.kd) ∧ W.cell? (a.add (i * 4 + 1)) = some (.string x.t) ∧ W.cell? (a.add (i * 4 + 2)) = some (.int .i64 x.off) ∧ (∃ vc, W.cell? (a.add (i * 4 + 3)) = some vc ∧ CasesN (NodesIn N W) W vc x.cs) ∧ x.t.size ≤ L ∧ ∀ c ∈ x.cs, c.1.size ≤ L ∧ FitN L N c.2 := by
        intro i hil
        obtain ⟨ys, n, hD, hyl, hcell⟩ := hi i (by omega)
        have hwi := weightsAll_mem w2 (D i) (List.mem_map_of_mem (List.mem_range.2 hil))
        have hbi := bulk_mem (List.mem_map_of_mem (f := D) (List.mem_range.2 hil))
        obtain ⟨v0, y0, c0, e0, t0⟩ := hcell 0 _ rfl
        obtain ⟨v1, y1, c1, e1, t1⟩ := hcell 1 _ rfl
        obtain ⟨v2, y2, c2, e2, t2⟩ := hcell 2 _ rfl
        obtain ⟨v3, y3, c3, e3, t3⟩ := hcell 3 _ rfl
        obtain rfl : ys = [y0, y1, y2, y3] := by
          match ys, hyl with
          | [a0, a1, a2, a3], _ =>
            simp at e0 e1 e2 e3
            rw [e0, e1, e2, e3]
        rw [hD] at hwi hbi
        simp only [DataW.weights, Tryz.underlying30, List.map_cons, List.map_nil, DataW.weightsEach, List.all_append, Bool.and_eq_true] at hwi
        simp only [List.map_cons, List.map_nil, Rows.uptoBulk, Rows.uptoBulkAll] at hbi
        obtain ⟨_, q1, _, q3, _⟩ := hwi
        obtain ⟨n0, x0, _, z0⟩ := DataW.trod_int Tryz.underlying3 t0
        obtain ⟨t, x1, r1, _⟩ := DataW.trod_string Tryz.underlying9 t1
        obtain ⟨n2, x2, _, z2⟩ := DataW.trod_int Tryz.underlying3 t2
        simp only [List.cons.injEq, and_true] at x0 x1 x2
        subst x0 x1 x2
        rw [r1] at q1
        have q1' := size_of_weight (s := t) q1
        -- the cases
        have hC : ∃ cs, CasesN (NodesIn N W) W v3 cs ∧ ∀ c ∈ cs, c.1.size ≤ L ∧ FitN L N c.2 := by
          rcases open_fields Tryz.underlying28 Tryz.underlying33 (by kernel_rfl) (by kernel_rfl) t3 with ⟨hcs, hx⟩ | ⟨a2, len2, cap2, m2, D2, hcs2, hl2, hm2, hmm2, hx2, hi2⟩
          · simp only [List.cons.injEq, and_true] at hcs
            subst hcs
            exact ⟨[], ⟨none, 0, rfl, Nat.le_refl _, by omega, by simp, .inl rfl⟩, fun x hx => by cases hx⟩
          · simp only [List.cons.injEq, and_true] at hcs2
            subst hcs2
            simp only [if_true] at hmm2
            subst hmm2
            rw [hx2] at q3 hbi
            simp only [DataW.weights, Tryz.underlying28, List.all_cons, List.all_append, Bool.and_eq_true, decide_eq_true_eq, hby2, List.length_map, List.length_range, reachBytes] at q3
            obtain ⟨u1, u2, _⟩ := q3
            have ul : len2 * 40 ≤ 140737488351232 := Nat.le_trans (Nat.mul_le_mul_right _ (Nat.le_add_right _ _)) (of_decide_eq_true u1)
            simp only [Rows.uptoBulk] at hbi
            have hk2 : ∀ i, i < len2 → ∃ k : ByteArray × List Nd, k.1.size ≤ 140737488355328 ∧ W.cell? (a2.add (i * 2)) = some (.string k.1) ∧ (∃ vb, W.cell? (a2.add (i * 2 + 1)) = some vb ∧ NodesIn N W vb k.2) ∧ k.1.size ≤ L ∧ FitN L N k.2 := by
              intro j hjl
              obtain ⟨zs, n', hD', hzl, hcell'⟩ := hi2 j (by omega)
              have hwj := weightsAll_mem u2 (D2 j) (List.mem_map_of_mem (List.mem_range.2 hjl))
              have hbj := bulk_mem (List.mem_map_of_mem (f := D2) (List.mem_range.2 hjl))
              obtain ⟨u0, z0, d0, f0, s0⟩ := hcell' 0 _ rfl
              obtain ⟨u1, z1, d1, f1, s1⟩ := hcell' 1 _ rfl
              obtain rfl : zs = [z0, z1] := by
                match zs, hzl with
                | [a0, a1], _ =>
                  simp at f0 f1
                  rw [f0, f1]
              rw [hD'] at hwj hbj
              simp only [DataW.weights, Tryz.underlying33, List.map_cons, List.map_nil, DataW.weightsEach, List.all_append, Bool.and_eq_true] at hwj
              simp only [List.map_cons, List.map_nil, Rows.uptoBulk, Rows.uptoBulkAll] at hbj
              obtain ⟨p0, p1, _⟩ := hwj
              obtain ⟨k, x0, r0, _⟩ := DataW.trod_string Tryz.underlying9 s0
              simp only [List.cons.injEq, and_true] at x0
              subst x0
              rw [r0] at p0
              obtain ⟨body, hbody, hfit⟩ := ih n' u1 z1 s1 (by omega) (by omega) p1
              rw [r0] at hbj
              simp only [bulk_str] at hbj
              exact ⟨(k, body), size_of_weight (s := k) p0, d0, ⟨u1, d1, hbody⟩, by show k.size ≤ L; omega, hfit⟩
            obtain ⟨cs, hlen, hcs⟩ := list_of len2 hk2
            refine ⟨cs, ⟨some a2, m2, by rw [hlen], by rw [hlen]; exact hl2, by simp only [maxLen] at hm2; omega, by omega, ?_⟩, fun c hc => by
              obtain ⟨j, hj⟩ := List.mem_iff_getElem?.1 hc
              exact (hcs j c hj).2.2.2⟩
            by_cases h0 : cs = []
            · exact .inl h0
            · right
              obtain ⟨k, hk⟩ : ∃ k, cs[0]? = some k := ⟨cs[0]'(by have := List.length_pos_iff.2 h0; omega), List.getElem?_eq_getElem _⟩
              obtain ⟨b, o, rfl⟩ := addr_plain (hcs 0 k hk).2.1 (by simp)
              refine ⟨b, o, rfl, fun j k hk => ?_⟩
              have := hcs j k hk
              rw [Go.WideShapes.add_plain, Go.WideShapes.add_plain] at this
              exact ⟨this.1, this.2.1, this.2.2.1⟩
        obtain ⟨cs, hC, hCF⟩ := hC
        rw [r1] at hbi
        simp only [bulk_str] at hbi
        exact ⟨.mk n0 t n2 cs, q1', wf_i64 z2, wf_i64 z0, c0, c1, c2, ⟨v3, c3, hC⟩, by show t.size ≤ L; omega, hCF⟩
      obtain ⟨ms, hlen, hms⟩ := list_of len hk
      refine ⟨ms, ⟨some a, m, by rw [hlen], by rw [hlen]; exact hl, by simp only [maxLen] at hm; omega, by omega, ?_⟩, fun x hx => by
        obtain ⟨j, hj⟩ := List.mem_iff_getElem?.1 hx
        obtain ⟨_, _, _, _, _, _, _, hf⟩ := hms j x hj
        exact hf⟩
      by_cases h0 : ms = []
      · exact .inl h0
      · right
        obtain ⟨x, hx⟩ : ∃ x, ms[0]? = some x := ⟨ms[0]'(by have := List.length_pos_iff.2 h0; omega), List.getElem?_eq_getElem _⟩
        obtain ⟨b, o, rfl⟩ := addr_plain (hms 0 x hx).2.2.2.1 (by simp)
        refine ⟨b, o, rfl, fun j x hx => ?_⟩
        have := hms j x hx
        rw [Go.WideShapes.add_plain, Go.WideShapes.add_plain, Go.WideShapes.add_plain, Go.WideShapes.add_plain] at this
        obtain ⟨g1, g2, g3, g4, g5, g6, g7, _⟩ := this
        exact ⟨g1, g2, g3, g4, g5, g6, g7⟩
set_option maxRecDepth 100000 in
theorem open_msgF {L : Nat} {v : Value} {d : DataW H} {p : List MemPlace} (hv : Value.okWide Tryz.prog W r b0 23 v) (h : DataW.Trod enc Tryz.prog W base (fun _ => true) held 23 v d p) (hw : (d.weights Tryz.prog 23).all (· ≤ reachBytes) = true) (hL : Rows.uptoBulk d ≤ L) :
    ∃ f ms, NodesIn f W v ms ∧ FitN L f ms := by
  obtain ⟨a0, len, cap, rfl⟩ := okWide_slice Tryz.underlying23 hv
  obtain ⟨fuel, hf⟩ := h
  exact ⟨_, open_fit L _ fuel _ _ hf (Nat.le_refl _) hL hw⟩
end
end Go.Proofs.YthlcjlmaaaappaaGreatDoor

/- names.Fits, in plain terms; args in another order, and one more. No program stands here. -/
namespace Go.Proofs.YthlcjlmaaaappaaGreatDoor

def nmA (a : ArgC) : List UInt8 := a.name.data.toList
def argsP : List ArgC → List (List UInt8) → Int
  | [], _ => 0
  | a :: r, seen => if nameB (nmA a) then (if a.isNum = true ∧ ¬ decOk a.coef a.scale then 1 else if nmA a ∈ seen then 5 else argsP r (seen ++ [nmA a])) else 3
def needP (ags : List ArgC) : List Need → Int
  | [] => 0
  | n :: r => match ags.find? (hasA n.name) with
    | none => 2
    | some a => if (n.num && !a.isNum) || (n.text && a.isNum) then 7 else needP ags r
/-- names.Fits -/
def fitsP (f : Nat) (ms : List Nd) (ags : List ArgC) : Int := if namesP f ms = 0 then (if argsP ags [] = 0 then needP ags (allN f [] ms) else argsP ags []) else namesP f ms

theorem hasA_iff (t : ByteArray) (a : ArgC) : hasA t a = true ↔ nmA a = t.data.toList := by
  unfold hasA nmA
  rw [beq_iff_eq, Lib.toList_data, Lib.toList_data]
theorem args_zero : ∀ (ags : List ArgC) (seen : List (List UInt8)), argsP ags seen = 0 ↔ ((∀ a ∈ ags, nameB (nmA a) = true ∧ (a.isNum = true → decOk a.coef a.scale)) ∧ (ags.map nmA).Nodup ∧ ∀ a ∈ ags, nmA a ∉ seen)
  | [], seen => by simp [argsP]
  | a :: r, seen => by
    rw [argsP]
    by_cases h1 : nameB (nmA a) = true
    · rw [if_pos h1]
      by_cases h2 : a.isNum = true ∧ ¬ decOk a.coef a.scale
      · rw [if_pos h2]
        constructor
        · intro h; cases h
        · intro h; exact absurd ((h.1 a (List.mem_cons_self ..)).2 h2.1) h2.2
      · rw [if_neg h2]
        have h2' : a.isNum = true → decOk a.coef a.scale := fun h => Classical.byContradiction fun h' => h2 ⟨h, h'⟩
        by_cases h3 : nmA a ∈ seen
        · rw [if_pos h3]
          constructor
          · intro h; cases h
          · intro h; exact absurd h3 (h.2.2 a (List.mem_cons_self ..))
        · rw [if_neg h3, args_zero r, List.map_cons, List.nodup_cons]
          constructor
          · rintro ⟨g1, g2, g3⟩
            refine ⟨fun b hb => ?_, ⟨fun hm => ?_, g2⟩, fun b hb => ?_⟩
            · rcases List.mem_cons.1 hb with rfl | hb
              · exact ⟨h1, h2'⟩
              · exact g1 b hb
            · obtain ⟨b, hb, e⟩ := List.mem_map.1 hm
              exact g3 b hb (by rw [e]; simp)
            · rcases List.mem_cons.1 hb with rfl | hb
              · exact h3
              · exact fun hm => g3 b hb (List.mem_append_left _ hm)
          · rintro ⟨g1, ⟨g2, g4⟩, g3⟩
            refine ⟨fun b hb => g1 b (List.mem_cons_of_mem _ hb), g4, fun b hb hm => ?_⟩
            rcases List.mem_append.1 hm with hm | hm
            · exact g3 b (List.mem_cons_of_mem _ hb) hm
            · rw [List.mem_singleton] at hm
              exact g2 (hm ▸ List.mem_map_of_mem hb)
    · rw [if_neg h1]
      constructor
      · intro h; cases h
      · intro h; exact absurd (h.1 a (List.mem_cons_self ..)).1 h1
/-- what is found of names that are all unlike -/
theorem find_iff {ags : List ArgC} (hn : (ags.map nmA).Nodup) (t : ByteArray) (a : ArgC) : ags.find? (hasA t) = some a ↔ a ∈ ags ∧ nmA a = t.data.toList := by
  induction ags with
  | nil => simp
  | cons b r ih =>
    rw [List.map_cons, List.nodup_cons] at hn
    by_cases hb : hasA t b = true
    · rw [List.find?_cons_of_pos hb]
      have hb' := (hasA_iff t b).1 hb
      constructor
      · intro h
        cases h
        exact ⟨List.mem_cons_self .., hb'⟩
      · rintro ⟨hm, e⟩
        rcases List.mem_cons.1 hm with rfl | hm
        · rfl
        · exact absurd (List.mem_map.2 ⟨a, hm, e.trans hb'.symm⟩) hn.1
    · rw [List.find?_cons_of_neg hb, ih hn.2]
      constructor
      · rintro ⟨hm, e⟩
        exact ⟨List.mem_cons_of_mem _ hm, e⟩
      · rintro ⟨hm, e⟩
        rcases List.mem_cons.1 hm with rfl | hm
        · exact absurd ((hasA_iff t a).2 e) hb
        · exact ⟨hm, e⟩
theorem need_zero (ags : List ArgC) : ∀ (l : List Need), needP ags l = 0 ↔ ∀ n ∈ l, ∃ a, ags.find? (hasA n.name) = some a ∧ ((n.num && !a.isNum) || (n.text && a.isNum)) = false
  | [] => by simp [needP]
  | n :: r => by
    rw [needP]
    cases hf : ags.find? (hasA n.name) with
    | none =>
      constructor
      · intro h; cases h
      · intro h
        obtain ⟨a, h1, _⟩ := h n (List.mem_cons_self ..)
        rw [hf] at h1
        cases h1
    | some a =>
      simp only
      by_cases hq : ((n.num && !a.isNum) || (n.text && a.isNum)) = true
      · rw [if_pos hq]
        constructor
        · intro h; cases h
        · intro h
          obtain ⟨b, h1, h2⟩ := h n (List.mem_cons_self ..)
          rw [hf] at h1
          cases h1
          rw [hq] at h2
          cases h2
      · rw [if_neg hq, need_zero ags r]
        constructor
        · intro h m hm
          rcases List.mem_cons.1 hm with rfl | hm
          · exact ⟨a, hf, by simpa using hq⟩
          · exact h m hm
        · intro h m hm
          exact h m (List.mem_cons_of_mem _ hm)
theorem fits_zero {f : Nat} {ms : List Nd} {ags : List ArgC} : fitsP f ms ags = 0 ↔ namesP f ms = 0 ∧ argsP ags [] = 0 ∧ needP ags (allN f [] ms) = 0 := by
  unfold fitsP
  by_cases h1 : namesP f ms = 0
  · rw [if_pos h1]
    by_cases h2 : argsP ags [] = 0
    · rw [if_pos h2]
      exact ⟨fun h => ⟨h1, h2, h⟩, fun h => h.2.2⟩
    · rw [if_neg h2]
      exact ⟨fun h => absurd h h2, fun h => absurd h.2.1 h2⟩
  · rw [if_neg h1]
    exact ⟨fun h => absurd h h1, fun h => absurd h.1 h1⟩
theorem names_msg {f : Nat} {ms : List Nd} (h : namesP f ms = 0) : msgP f ms = 0 := by
  unfold namesP at h
  split at h
  · rename_i h1; exact h1
  · exact h
/-- args that fit: ags many more of other names, in whatever order, do ags well, and the same is found -/
theorem fits_more {f : Nat} {ms : List Nd} {ags bs : List ArgC} (h : fitsP f ms ags = 0) (hb : argsP bs [] = 0) (hs : ∀ a ∈ ags, a ∈ bs) :
    fitsP f ms bs = 0 ∧ ∀ t : ByteArray, t.toList ∈ namesOf (allN f [] ms) → lookA ags t = lookA bs t := by
  obtain ⟨h1, h2, h3⟩ := fits_zero.1 h
  obtain ⟨a1, a2, _⟩ := (args_zero ags []).1 h2
  obtain ⟨b1, b2, _⟩ := (args_zero bs []).1 hb
  rw [need_zero] at h3
  have hf : ∀ (t : ByteArray) (a : ArgC), ags.find? (hasA t) = some a → bs.find? (hasA t) = some a := fun t a ha => by
    rw [find_iff a2] at ha
    rw [find_iff b2]
    exact ⟨hs a ha.1, ha.2⟩
  refine ⟨fits_zero.2 ⟨h1, hb, (need_zero bs _).2 fun n hn => ?_⟩, fun t ht => ?_⟩
  · obtain ⟨a, ha, hq⟩ := h3 n hn
    exact ⟨a, hf _ _ ha, hq⟩
  · obtain ⟨n, hn, e⟩ := List.mem_map.1 ht
    obtain ⟨a, ha, _⟩ := h3 n hn
    have ha' : ags.find? (hasA t) = some a := by
      rw [find_iff a2] at ha ⊢
      exact ⟨ha.1, by rw [ha.2, ← Lib.toList_data, ← Lib.toList_data]; exact e⟩
    unfold lookA
    rw [ha', hf _ _ ha']
theorem nmA_sub {ags : List ArgC} {z : ArgC} (ha : argsP ags [] = 0) (hz : nameB (nmA z) = true ∧ (z.isNum = true → decOk z.coef z.scale)) (hno : ∀ a ∈ ags, nmA a ≠ nmA z) {bs : List ArgC} (hp : bs.Perm (z :: ags)) : argsP bs [] = 0 := by
  obtain ⟨a1, a2, _⟩ := (args_zero ags []).1 ha
  refine (args_zero bs []).2 ⟨fun b hb => ?_, ?_, by simp⟩
  · rcases List.mem_cons.1 (hp.mem_iff.1 hb) with rfl | hb
    · exact hz
    · exact a1 b hb
  · rw [(hp.map nmA).nodup_iff, List.map_cons, List.nodup_cons]
    exact ⟨fun hm => by
      obtain ⟨a, h1, h2⟩ := List.mem_map.1 hm
      exact hno a h1 h2, a2⟩
/-- the text of a message -/
def sayT (S : SetC) (f : Nat) (ms : List Nd) (ags : List ArgC) : Int × ByteArray := if fitsP f ms ags = 0 then sayP S (lookA ags) f ms 0 0 else (fitsP f ms ags, ⟨#[]⟩)
theorem sayT_more {S : SetC} {f : Nat} {ms : List Nd} {ags bs : List ArgC} (h : (sayT S f ms ags).1 = 0) (hb : argsP bs [] = 0) (hs : ∀ a ∈ ags, a ∈ bs) : sayT S f ms bs = sayT S f ms ags := by
  have h0 : fitsP f ms ags = 0 := by
    unfold sayT at h
    split at h
    · rename_i h1; exact h1
    · exact h
  obtain ⟨h1, h2⟩ := fits_more h0 hb hs
  unfold sayT
  rw [if_pos h0, if_pos h1]
  exact (say_look S h2 f ms 0 0 (all_uses f [] ms)).symm
/-! names of a message that is right -/
theorem uses_names {P : List UInt8 → Prop} : ∀ (f : Nat) (l : List Need) (ms : List Nd), usesP P f ms → (∀ s ∈ namesOf l, P s) → ∀ s ∈ namesOf (allN f l ms), P s
  | 0, _, _, _, h => h
  | f + 1, l, ms, hu, h => by
    rw [allN_succ]
    have hC : ∀ (cs : List (ByteArray × List Nd)) (l : List Need), (∀ c ∈ cs, usesP P f c.2) → (∀ s ∈ namesOf l, P s) → ∀ s ∈ namesOf (foldC f l cs), P s := by
      intro cs
      induction cs with
      | nil => intro l _ h; exact h
      | cons c r ih =>
        intro l hu h
        exact ih (allN f l c.2) (fun d hd => hu d (List.mem_cons_of_mem _ hd)) (uses_names f l c.2 (hu c (List.mem_cons_self ..)) h)
    have hM : ∀ (ms : List Nd) (l : List Need), usesP P (f + 1) ms → (∀ s ∈ namesOf l, P s) → ∀ s ∈ namesOf (foldM f l ms), P s := by
      intro ms
      induction ms with
      | nil => intro l _ h; exact h
      | cons x r ih =>
        intro l hu h
        obtain ⟨h1, h2⟩ := hu x (List.mem_cons_self ..)
        refine ih (foldC f (addN l x.kd x.t) (casesOf x)) (fun y hy => hu y (List.mem_cons_of_mem _ hy)) (hC _ _ h2 fun s hs => ?_)
        rw [names_add] at hs
        split at hs
        · exact h s hs
        · rename_i hk
          split at hs
          · exact h s hs
          · rcases List.mem_append.1 hs with hs | hs
            · exact h s hs
            · rw [List.mem_singleton] at hs
              rw [hs]
              exact h1 hk
    exact hM ms l hu h
theorem check_uses : ∀ (f : Nat) (ms : List Nd) (m : Bool), checkP f ms m = 0 → usesP (fun s => nameB s = true) f ms
  | 0, _, _, _ => trivial
  | f + 1, ms, m, h => fun x hx => by
    obtain ⟨q, hq⟩ := checkGo_zero _ _ _ _ h x hx
    obtain ⟨h1, _, h3⟩ := nodeP_zero hq
    refine ⟨fun hk => ?_, fun c hc => ?_⟩
    · unfold nodeP at hq
      split at hq
      · rename_i hf
        unfold fineB at hf
        rw [if_neg (fun e => hk (.inl e)), if_pos (by
          rcases h1 with h1 | h1 | h1 | h1 | h1 | ⟨h1, _⟩
          · exact absurd (.inl h1) hk
          · exact .inl h1
          · exact .inr (.inl h1)
          · exact .inr (.inr (.inl h1))
          · exact .inr (.inr (.inr h1))
          · exact absurd (.inr h1) hk)] at hf
        rw [Lib.toList_data]
        exact hf
      · cases hq
    · unfold casesOf at hc
      split at hc
      · rename_i hk
        exact check_uses f c.2 _ ((h3 hk).2 c hc)
      · cases hc
theorem name_len {l : List UInt8} (h : nameB l = true) : l.length ≤ 20 := Classical.byContradiction fun hn => by rw [nameB_long hn] at h; cases h
theorem needs_short {f : Nat} {ms : List Nd} (h : namesP f ms = 0) : ∀ n ∈ allN f [] ms, n.name.size ≤ 20 := by
  have h1 := (msg_small (names_msg h)).2
  have h2 := uses_names f [] ms (check_uses f ms false h1) (by simp [namesOf])
  intro n hn
  have h3 := name_len (h2 n.name.toList (List.mem_map_of_mem (f := fun n => n.name.toList) hn))
  rw [Lib.toList_data, Array.length_toList] at h3
  exact h3
/-- the map of what the args are -/
def kindsH (ags : List ArgC) : HL := ags.map fun a => (nmA a, .bool a.isNum)
theorem hlook_map {f : ArgC → Value} (t : ByteArray) : ∀ (ags : List ArgC), hlook (ags.map fun a => (nmA a, f a)) t.data.toList = (ags.find? (hasA t)).map f
  | [] => rfl
  | a :: r => by
    have ih := hlook_map (f := f) t r
    unfold hlook at ih ⊢
    rw [List.map_cons]
    by_cases h : hasA t a = true
    · rw [List.find?_cons_of_pos h, List.find?_cons_of_pos (by simpa using (hasA_iff t a).1 h)]
      rfl
    · rw [List.find?_cons_of_neg h, List.find?_cons_of_neg (by simp only [decide_eq_true_eq]; exact fun e => h ((hasA_iff t a).2 e))]
      exact ih
theorem kinds_keys (ags : List ArgC) : (kindsH ags).map (·.1) = ags.map nmA := by unfold kindsH; rw [List.map_map]; rfl
end Go.Proofs.YthlcjlmaaaappaaGreatDoor

/- names.Fits. -/
namespace Go.Proofs.YthlcjlmaaaappaaGreatDoor
open Go.RowKit Go.Maps

theorem zero_bool (w : World) : (zeroValue 4).run Tryz.prog w = .ok (.bool false) w := by kernel_rfl
theorem argsP_step {ags : List ArgC} {k : Nat} {x : ArgC} (h : ags[k]? = some x) (seen : List (List UInt8)) :
    argsP (ags.drop k) seen = if nameB (nmA x) then (if x.isNum = true ∧ ¬ decOk x.coef x.scale then 1 else if nmA x ∈ seen then 5 else argsP (ags.drop (k + 1)) (seen ++ [nmA x])) else 3 := by
  rw [drop_at h, argsP]
theorem needP_step {ags : List ArgC} {L : List Need} {k : Nat} {x : Need} (h : L[k]? = some x) :
    needP ags (L.drop k) = match ags.find? (hasA x.name) with
    | none => 2
    | some a => if (x.num && !a.isNum) || (x.text && a.isNum) then 7 else needP ags (L.drop (k + 1)) := by
  rw [drop_at h, needP]
  all_goals (cases ags.find? (hasA x.name) <;> rfl)

set_option maxHeartbeats 8000000 in
theorem names_fits (f : Nat) (v : Value) (ms : List Nd) (A : Option Addr) (c : Nat) (ags : List ArgC) (w : World) (hE : RuleEnv w) (hK : MKinds w) (hN : NodesIn f w v ms) (hA : ArgsIn w A ags) (hc : ags.length ≤ c) (hc2 : c ≤ 9223372036854775807) (hl : ags.length ≤ 1000000000000) (hz : ∀ a ∈ ags, a.name.size ≤ 140737488355328) :
    Calls Tryz.prog 39 #[v, .slice A ags.length c] w fun e w' => e = .returned (errOf (fitsP f ms ags)) ∧ Below w.heap.size w w' := by
  by_cases h : namesP f ms = 0
  · have hfp : fitsP f ms ags = if argsP ags [] = 0 then needP ags (allN f [] ms) else argsP ags [] := if_pos h
    have hmm := @run_makeMap Tryz.prog
    have KO := Lib.hid (names_of_ok f v ms w hE hK hN h)
    have HSH := Lib.hid (needs_short h)
    have HFP := Lib.hid hfp
    have HA := Lib.hid hA
    have HZ := Lib.hid hz
    obtain ⟨_, _, rfl, _, _, _⟩ := hN.form
    clear h hfp hE hK hN hA hz
    generalize fitsP f ms ags = FP at *
    generalize allN f [] ms = L at *
    have HR0 : Hid (argsP (ags.drop 0) ((ags.take 0).map nmA) = argsP ags []) := Lib.hid rfl
    have HF2 : Hid (FP = if argsP ags [] = 0 then needP ags L else argsP ags []) := HFP
    clear HFP
    generalize argsP ags [] = R at *
    go_enter Tryz.func39, Tryz.ntmps39
    go_wp2_with fail
    refine KO.out.mono ?_
    rintro e w1 ⟨⟨AL, cL, rfl, g1, g2, hL⟩, hb1⟩
    have s1 := hb1.size
    have HB := Lib.hid hb1
    have HL := Lib.hid hL
    have HA1 := Lib.hid (HA.out.below hb1)
    have hO0 : HMap (w1.alloc (.map #[] 0)) w1.heap.size 0 (kindsH (ags.take 0)) := hm_made w1
    have HO0 := Lib.hid hO0
    have HB0 : Hid (Below w1.heap.size w1 (w1.alloc (.map #[] 0))) := Lib.hid (by (repeat (first | with_reducible exact Below.refl _ _ | with_reducible refine bel_set ?_ ?_ | with_reducible refine bel_alloc ?_ ?_ | with_reducible refine Below.drew ?_ | with_reducible refine bel_drewN _ ?_ | with_reducible refine bel_call ?_ (by assumption) ?_)); all_goals (first | (simp; done) | omega | (simp; omega)))
    have HN0 : Hid (((ags.take 0).map nmA).Nodup) := Lib.hid (by simp)
    clear hb1 hL hO0 KO HA
    go_wp2_with fail
    go_loopw [28] (fun i wr => ∃ k : Nat, k ≤ ags.length ∧ i = .int .i64 k ∧ Hid (((ags.take k).map nmA).Nodup) ∧ Hid (argsP (ags.drop k) ((ags.take k).map nmA) = R) ∧ Hid (HMap wr w1.heap.size k (kindsH (ags.take k))) ∧ Hid (Below w1.heap.size w1 wr)) (fun i _ => ags.length - (intOf i).toNat)
    case atStart => exact ⟨0, Nat.zero_le _, rfl, HN0, HR0, HO0, HB0⟩
    case round =>
      obtain ⟨k, hk1, rfl, HND, HR, HO, HB1⟩ := hrel
      have sB := HB1.out.size
      by_cases hlt : k < ags.length
      · obtain ⟨b, o, rfl, hat⟩ := (HA1.out.below HB1.out).at (by omega)
        obtain ⟨x, hx⟩ : ∃ x, ags[k]? = some x := ⟨ags[k], List.getElem?_eq_getElem hlt⟩
        have hst := argsP_step hx ((ags.take k).map nmA)
        rw [HR.out] at hst
        obtain ⟨n0, n1, n2, n3, n4⟩ := hat k x hx
        have hxz := HZ.out x (List.mem_of_getElem? hx)
        have HX := Lib.hid hx
        have HST := Lib.hid hst
        have i0 : (0 : Int) ≤ (k : Int) := by omega
        have i1 : (k : Int) < (ags.length : Int) := by omega
        have i2 : (k : Int) ≤ (c : Int) := by omega
        have e1 : IntKind.i64.wrap ((k : Int) + 1) = (k : Int) + 1 := IntWalk.i64_in _ (by omega)
        have HS : Hid (Below w1.heap.size w1 (wr.alloc (.cells #[.string x.name, .bool x.isNum, .int .i64 x.coef, .int .i64 x.scale, .string x.text] 53))) := Lib.hid (HB1.out.alloc sB _)
        have HOS : Hid (HMap (wr.alloc (.cells #[.string x.name, .bool x.isNum, .int .i64 x.coef, .int .i64 x.scale, .string x.text] 53)) w1.heap.size k (kindsH (ags.take k))) := Lib.hid (HO.out.alloc _)
        clear hst hat hx HO HB1
        go_wp2_with fail
        refine (name_code x.name _ (by omega)).mono ?_
        rintro e w2 ⟨rfl, hb2⟩
        have a0 : w2.cell? ⟨wr.heap.size, 0, none⟩ = some (.string x.name) := carry hb2 (by go_simp)
        have a1 : w2.cell? ⟨wr.heap.size, 1, none⟩ = some (.bool x.isNum) := carry hb2 (by go_simp)
        have a2 : w2.cell? ⟨wr.heap.size, 2, none⟩ = some (.int .i64 x.coef) := carry hb2 (by go_simp)
        have a3 : w2.cell? ⟨wr.heap.size, 3, none⟩ = some (.int .i64 x.scale) := carry hb2 (by go_simp)
        have HO2 := Lib.hid (HOS.out.below hb2)
        have HB2 : Hid (Below w1.heap.size w1 w2) := Lib.hid (bel_call HS.out hb2 HS.out.size)
        have s2 := HB2.out.size
        clear hb2 HS HOS n0 n1 n2 n3 n4
        rw [show x.name.data.toList = nmA x from rfl]
        cases hnm : nameB (nmA x)
        · have HR3 : Hid (R = 3) := Lib.hid (HST.out.trans (if_neg (by rw [hnm]; decide)))
          have HFP : Hid (FP = 3) := Lib.hid (by rw [HF2.out, HR3.out]; rfl)
          clear HST hnm
          go_wp2_with fail
          go_ret
          rw [HFP.out]
          exact ⟨rfl, HB.out.trans (HB2.out.mono s1)⟩
        · have HSTa : Hid (R = if x.isNum = true ∧ ¬ decOk x.coef x.scale then 1 else if nmA x ∈ (ags.take k).map nmA then 5 else argsP (ags.drop (k + 1)) ((ags.take k).map nmA ++ [nmA x])) := Lib.hid (HST.out.trans (if_pos hnm))
          clear HST hnm
          cases hisn : x.isNum
          · have HST : Hid (R = if nmA x ∈ (ags.take k).map nmA then 5 else argsP (ags.drop (k + 1)) ((ags.take k).map nmA ++ [nmA x])) := Lib.hid (HSTa.out.trans (if_neg (by rw [hisn]; simp)))
            rw [hisn] at a1
            clear HSTa
            have HOC := HO2
            have HB1C := HB2
            have HBC : Hid (Below w.heap.size w w2) := Lib.hid (HB.out.trans (HB2.out.mono s1))
            by_cases hin : nmA x ∈ (ags.take k).map nmA
            · have hst := HST.out
              rw [if_pos hin] at hst
              have HFP : Hid (FP = 5) := Lib.hid (by rw [HF2.out, hst]; rfl)
              obtain ⟨v0, hv0⟩ : ∃ v0, hlook (kindsH (ags.take k)) x.name.data.toList = some v0 := by
                cases hq : hlook (kindsH (ags.take k)) x.name.data.toList with
                | none => exact absurd (kinds_keys (ags.take k) ▸ hin) (hlook_none_iff.1 hq)
                | some v => exact ⟨v, rfl⟩
              have hlk := hm_some HOC.out Tryz.underlying123 (zero_bool _) (by unfold maxLen; omega) (by rw [kinds_keys]; exact HND.out) hv0
              clear hin hst HST hv0
              go_wp2_with fail
              go_ret
              rw [HFP.out]
              exact ⟨rfl, HBC.out⟩
            · have hst := HST.out
              rw [if_neg hin] at hst
              have hlk := hm_none (s := x.name) HOC.out Tryz.underlying123 (zero_bool _) (by unfold maxLen; omega) (hlook_none_iff.2 (by rw [kinds_keys]; exact hin))
              obtain ⟨W5, hput, hOW, hFW⟩ := hm_put (s := x.name) HOC.out Tryz.underlying123 (by unfold maxLen; omega) (by unfold maxLen; omega) (.bool x.isNum)
              rw [hisn] at hput
              have hnd2 : ((ags.take (k + 1)).map nmA).Nodup := by
                rw [List.take_add_one, HX.out, List.map_append, List.nodup_append]
                refine ⟨HND.out, by simp, fun a ha b hb e => ?_⟩
                simp at hb
                exact hin (hb ▸ e ▸ ha)
              have HND2 := Lib.hid hnd2
              have HO2 : Hid (HMap W5 w1.heap.size (k + 1) (kindsH (ags.take (k + 1)))) := Lib.hid (by
                have e : kindsH (ags.take (k + 1)) = kindsH (ags.take k) ++ [(x.name.data.toList, .bool x.isNum)] := by unfold kindsH; rw [List.take_add_one, HX.out, List.map_append]; rfl
                rw [e]; exact hOW)
              have HB2 : Hid (Below w1.heap.size w1 W5) := Lib.hid (HB1C.out.trans (hFW.toBelow (by simp) HB1C.out.size))
              have HST2 : Hid (argsP (ags.drop (k + 1)) ((ags.take (k + 1)).map nmA) = R) := Lib.hid (by
                rw [List.take_add_one, HX.out, List.map_append]; exact hst.symm)
              clear hin hst HST hnd2 hOW hFW
              go_wp2_with fail
              go_roundw
              case rel => exact ⟨k + 1, by omega, by go_num, HND2, HST2, HO2, HB2⟩
              case measure => simp [intOf]; omega
          · by_cases hd : decOk x.coef x.scale
            · have HST : Hid (R = if nmA x ∈ (ags.take k).map nmA then 5 else argsP (ags.drop (k + 1)) ((ags.take k).map nmA ++ [nmA x])) := Lib.hid (HSTa.out.trans (if_neg (fun h => h.2 hd)))
              rw [hisn] at a1
              have HD := Lib.hid hd
              clear HSTa hd
              go_wp2_with fail
              refine (dec_check_ok x.coef x.scale _ HD.out).mono ?_
              rintro e w3 ⟨rfl, hb3⟩
              replace a0 := carry hb3 a0
              replace a1 := carry hb3 a1
              have HOC := Lib.hid (HO2.out.below hb3)
              have HB1C : Hid (Below w1.heap.size w1 w3) := Lib.hid (bel_call HB2.out hb3 s2)
              have HBC : Hid (Below w.heap.size w w3) := Lib.hid (HB.out.trans (HB1C.out.mono s1))
              clear hb3 a2 a3 HO2 HB2
              by_cases hin : nmA x ∈ (ags.take k).map nmA
              · have hst := HST.out
                rw [if_pos hin] at hst
                have HFP : Hid (FP = 5) := Lib.hid (by rw [HF2.out, hst]; rfl)
                obtain ⟨v0, hv0⟩ : ∃ v0, hlook (kindsH (ags.take k)) x.name.data.toList = some v0 := by
                  cases hq : hlook (kindsH (ags.take k)) x.name.data.toList with
                  | none => exact absurd (kinds_keys (ags.take k) ▸ hin) (hlook_none_iff.1 hq)
                  | some v => exact ⟨v, rfl⟩
                have hlk := hm_some HOC.out Tryz.underlying123 (zero_bool _) (by unfold maxLen; omega) (by rw [kinds_keys]; exact HND.out) hv0
                clear hin hst HST hv0
                go_wp2_with fail
                go_ret
                rw [HFP.out]
                exact ⟨rfl, HBC.out⟩
              · have hst := HST.out
                rw [if_neg hin] at hst
                have hlk := hm_none (s := x.name) HOC.out Tryz.underlying123 (zero_bool _) (by unfold maxLen; omega) (hlook_none_iff.2 (by rw [kinds_keys]; exact hin))
                obtain ⟨W5, hput, hOW, hFW⟩ := hm_put (s := x.name) HOC.out Tryz.underlying123 (by unfold maxLen; omega) (by unfold maxLen; omega) (.bool x.isNum)
                rw [hisn] at hput
                have hnd2 : ((ags.take (k + 1)).map nmA).Nodup := by
                  rw [List.take_add_one, HX.out, List.map_append, List.nodup_append]
                  refine ⟨HND.out, by simp, fun a ha b hb e => ?_⟩
                  simp at hb
                  exact hin (hb ▸ e ▸ ha)
                have HND2 := Lib.hid hnd2
                have HO2 : Hid (HMap W5 w1.heap.size (k + 1) (kindsH (ags.take (k + 1)))) := Lib.hid (by
                  have e : kindsH (ags.take (k + 1)) = kindsH (ags.take k) ++ [(x.name.data.toList, .bool x.isNum)] := by unfold kindsH; rw [List.take_add_one, HX.out, List.map_append]; rfl
                  rw [e]; exact hOW)
                have HB2 : Hid (Below w1.heap.size w1 W5) := Lib.hid (HB1C.out.trans (hFW.toBelow (by simp) HB1C.out.size))
                have HST2 : Hid (argsP (ags.drop (k + 1)) ((ags.take (k + 1)).map nmA) = R) := Lib.hid (by
                  rw [List.take_add_one, HX.out, List.map_append]; exact hst.symm)
                clear hin hst HST hnd2 hOW hFW
                go_wp2_with fail
                go_roundw
                case rel => exact ⟨k + 1, by omega, by go_num, HND2, HST2, HO2, HB2⟩
                case measure => simp [intOf]; omega
            · have HR1 : Hid (R = 1) := Lib.hid (HSTa.out.trans (if_pos ⟨hisn, hd⟩))
              have HFP : Hid (FP = 1) := Lib.hid (by rw [HF2.out, HR1.out]; rfl)
              rw [hisn] at a1
              have HD := Lib.hid hd
              clear HSTa hd
              go_wp2_with fail
              refine (dec_check_no x.coef x.scale _ HD.out).mono ?_
              rintro e w3 ⟨rfl, hb3⟩
              go_wp2_with fail
              go_ret
              rw [HFP.out]
              exact ⟨rfl, HB.out.trans ((bel_call HB2.out hb3 s2).mono s1)⟩
      · obtain rfl : k = ags.length := by omega
        have hR0 : R = 0 := by
          have := HR.out
          rw [List.drop_of_length_le (Nat.le_refl _), argsP] at this
          exact this.symm
        have HF3 : Hid (needP ags (L.drop 0) = FP) := Lib.hid (by rw [HF2.out, hR0]; rfl)
        have HOL : Hid (HMap wr w1.heap.size ags.length (kindsH ags)) := Lib.hid (by have := HO.out; rwa [List.take_length] at this)
        have HNL : Hid ((ags.map nmA).Nodup) := Lib.hid (by have := HND.out; rwa [List.take_length] at this)
        have HLW := Lib.hid (HL.out.below HB1.out)
        have HBW := Lib.hid (HB.out.trans (HB1.out.mono s1))
        have HR1 : Hid (Below wr.heap.size wr wr) := Lib.hid (Below.refl _ _)
        clear hR0 HF2 HR HO HND HL HB HB1 HR0 HO0 HB0 HN0 HA1
        go_wp2_with fail
        obtain ⟨W1, hW1⟩ : ∃ W1, W1 = wr := ⟨_, rfl⟩
        subst hW1
        go_loopw [62] (fun i wq => ∃ k : Nat, k ≤ L.length ∧ i = .int .i64 k ∧ Hid (needP ags (L.drop k) = FP) ∧ Hid (Below W1.heap.size W1 wq)) (fun i _ => L.length - (intOf i).toNat)
        case atStart => exact ⟨0, Nat.zero_le _, rfl, HF3, HR1⟩
        case round =>
          obtain ⟨j, hj1, rfl, HRj, HBj⟩ := hrel
          have sJ := HBj.out.size
          by_cases hlt : j < L.length
          · obtain ⟨b, o, rfl, hat⟩ := (HLW.out.below HBj.out).at (by omega)
            obtain ⟨x, hx⟩ : ∃ x, L[j]? = some x := ⟨L[j], List.getElem?_eq_getElem hlt⟩
            have hst := needP_step (ags := ags) hx
            rw [HRj.out] at hst
            obtain ⟨n0, n1, n2⟩ := hat j x hx
            have hxz := HSH.out x (List.mem_of_getElem? hx)
            have i0 : (0 : Int) ≤ (j : Int) := by omega
            have i1 : (j : Int) < (L.length : Int) := by omega
            have i2 : (j : Int) ≤ (cL : Int) := by omega
            have e1 : IntKind.i64.wrap ((j : Int) + 1) = (j : Int) + 1 := IntWalk.i64_in _ (by omega)
            have hbA : Below W1.heap.size W1 (wr.alloc (.cells #[.string x.name, .bool x.num, .bool x.text] 127)) := HBj.out.alloc sJ _
            have HBA := Lib.hid hbA
            have hmA := HOL.out.below hbA
            cases hf : ags.find? (hasA x.name) with
            | none =>
              rw [hf] at hst
              have HE2 : Hid (FP = 2) := Lib.hid hst
              have hlk := hm_none (s := x.name) hmA Tryz.underlying123 (zero_bool _) (by unfold maxLen; omega) (by unfold kindsH; rw [hlook_map, hf]; rfl)
              clear hst hat hx hbA hmA hf
              go_wp2_with fail
              go_ret
              rw [HE2.out]
              exact ⟨rfl, HBW.out.trans (HBA.out.mono HBW.out.size)⟩
            | some a =>
              rw [hf] at hst
              simp only at hst
              have hlk := hm_some (s := x.name) (v := .bool a.isNum) hmA Tryz.underlying123 (zero_bool _) (by unfold maxLen; omega) (by rw [kinds_keys]; exact HNL.out) (by unfold kindsH; rw [hlook_map, hf]; rfl)
              have HST := Lib.hid hst
              have HBB := Lib.hid (HBW.out.trans (HBA.out.mono HBW.out.size))
              clear hst hat hx hbA hmA hf
              obtain ⟨xn, xa, xt⟩ := x
              obtain ⟨an, ai, ac, as', at'⟩ := a
              simp only at *
              cases xa <;> cases xt <;> cases ai
              all_goals (simp only [Bool.false_and, Bool.true_and, Bool.and_false, Bool.and_true, Bool.or_false, Bool.false_or, Bool.or_true, Bool.true_or, Bool.not_true, Bool.not_false, if_true, if_false, Bool.false_eq_true, reduceIte] at HST)
              all_goals go_wp2_with fail
              all_goals first
                | (go_ret; rw [HST.out]; exact ⟨rfl, HBB.out⟩)
                | (go_roundw; (case rel => exact ⟨j + 1, by omega, by go_num, Lib.hid HST.out.symm, HBA⟩); (case measure => simp [intOf]; omega))
          · obtain rfl : j = L.length := by omega
            have hF0 : FP = 0 := by
              have := HRj.out
              rw [List.drop_of_length_le (Nat.le_refl _), needP] at this
              exact this.symm
            have HF0 := Lib.hid hF0
            clear hF0
            go_wp2_with fail
            go_ret
            rw [HF0.out]
            exact ⟨rfl, HBW.out.trans (HBj.out.mono HBW.out.size)⟩
  · have KN := Lib.hid (names_of_no f v ms w hE hK hN h)
    have hfp : fitsP f ms ags = namesP f ms := if_neg h
    have he : errOf (namesP f ms) = errT (namesP f ms) := if_neg h
    rw [hfp, he]
    obtain ⟨_, _, rfl, _, _, _⟩ := hN.form
    clear h hfp hE hK hN hA he
    generalize namesP f ms = E at *
    go_enter Tryz.func39, Tryz.ntmps39
    go_wp2_with fail
    refine KN.out.mono ?_
    rintro e w1 ⟨rfl, hb1⟩
    go_wp2_with fail
    go_ret
    exact ⟨rfl, hb1⟩
end Go.Proofs.YthlcjlmaaaappaaGreatDoor
