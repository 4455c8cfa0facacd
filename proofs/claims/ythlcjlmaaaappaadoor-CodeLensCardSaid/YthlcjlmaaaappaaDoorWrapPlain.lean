/- A message within a Select: what it asks for, in plain terms. -/
import Derived.Test.YthlcjlmaaaappaaDoorNeedAll
namespace Go.Proofs.YthlcjlmaaaappaaDoor

def namesOf (l : List Need) : List (List UInt8) := l.map fun n => n.name.toList
theorem hasN_iff (t : ByteArray) (n : Need) : hasN t n = true ↔ n.name.toList = t.toList := by unfold hasN; exact beq_iff_eq
theorem names_modify (l : List Need) (i : Nat) (kd : Int) : namesOf (l.modify i (flagN kd)) = namesOf l := by
  unfold namesOf
  apply List.ext_getElem?
  intro j
  rw [List.getElem?_map, List.getElem?_map, List.getElem?_modify]
  cases l[j]? with
  | none => rfl
  | some n => by_cases h : i = j <;> simp [h, flagN]
theorem mem_names {l : List Need} {t : ByteArray} : t.toList ∈ namesOf l ↔ ∃ (i : Nat) (n : Need), l[i]? = some n ∧ hasN t n = true := by
  unfold namesOf
  constructor
  · intro h
    obtain ⟨n, hn, he⟩ := List.mem_map.1 h
    obtain ⟨i, hi⟩ := List.mem_iff_getElem?.1 hn
    exact ⟨i, n, hi, (hasN_iff t n).2 he⟩
  · rintro ⟨i, n, h, he⟩
    exact List.mem_map.2 ⟨n, List.mem_of_getElem? h, (hasN_iff t n).1 he⟩
theorem names_grow (l : List Need) (t : ByteArray) : namesOf (growN l t).1 = if t.toList ∈ namesOf l then namesOf l else namesOf l ++ [t.toList] := by
  unfold growN
  cases h : l.findIdx? (hasN t) with
  | none =>
    rw [if_neg]
    · unfold namesOf; rw [List.map_append]; rfl
    · rw [mem_names]
      rintro ⟨i, n, hi, hn⟩
      have := List.findIdx?_eq_none_iff.1 h n (List.mem_of_getElem? hi)
      rw [hn] at this; cases this
  | some i =>
    obtain ⟨hi, h1, _⟩ := List.findIdx?_eq_some_iff_getElem.1 h
    rw [if_pos (mem_names.2 ⟨i, l[i], List.getElem?_eq_getElem hi, h1⟩)]
theorem names_add (l : List Need) (kd : Int) (t : ByteArray) : namesOf (addN l kd t) = if kd = 1 ∨ kd = 6 then namesOf l else if t.toList ∈ namesOf l then namesOf l else namesOf l ++ [t.toList] := by
  unfold addN
  split
  · rfl
  · rw [names_modify, names_grow]
def Uniq (l : List Need) : Prop := (namesOf l).Nodup
theorem uniq_add {l : List Need} (h : Uniq l) (kd : Int) (t : ByteArray) : Uniq (addN l kd t) := by
  unfold Uniq at *
  rw [names_add]
  split
  · exact h
  · split
    · exact h
    · rename_i h2
      rw [List.nodup_append]
      exact ⟨h, by simp, fun a ha b hb => by simp at hb; subst hb; exact fun e => h2 (e ▸ ha)⟩

theorem allN_rel {R : List Need → List Need → Prop} (h : ∀ l l' kd t, R l l' → R (addN l kd t) (addN l' kd t)) : ∀ (f : Nat) (ms : List Nd) (l l' : List Need), R l l' → R (allN f l ms) (allN f l' ms)
  | 0, _, _, _, hr => hr
  | f + 1, ms, l, l', hr => by
    have hC : ∀ (cs : List (ByteArray × List Nd)) (l l' : List Need), R l l' → R (foldC f l cs) (foldC f l' cs) := by
      intro cs
      induction cs with
      | nil => intro l l' hr; exact hr
      | cons c r ih => intro l l' hr; exact ih _ _ (allN_rel h f c.2 l l' hr)
    rw [allN_succ, allN_succ]
    have hM : ∀ (ms : List Nd) (l l' : List Need), R l l' → R (foldM f l ms) (foldM f l' ms) := by
      intro ms
      induction ms with
      | nil => intro l l' hr; exact hr
      | cons x r ih => intro l l' hr; exact ih _ _ (hC _ _ _ (h _ _ _ _ hr))
    exact hM ms l l' hr

/-- an element of a list of unlike names is known by its name -/
theorem uniq_at {l : List Need} (h : Uniq l) {i j : Nat} {a b : Need} (hi : l[i]? = some a) (hj : l[j]? = some b) (he : a.name.toList = b.name.toList) : i = j := by
  unfold Uniq namesOf at h
  have hil := (List.getElem?_eq_some_iff.1 hi).1
  have hjl := (List.getElem?_eq_some_iff.1 hj).1
  have hii : (l.map fun n => n.name.toList)[i]? = some a.name.toList := by rw [List.getElem?_map, hi]; rfl
  have hjj : (l.map fun n => n.name.toList)[j]? = some b.name.toList := by rw [List.getElem?_map, hj]; rfl
  exact (List.getElem?_inj (by rw [List.length_map]; exact hil) h).1 (by rw [hii, hjj, he])
/-- the element of a name, behind an addition -/
theorem mem_add {l : List Need} (hu : Uniq l) {kd : Int} {t : ByteArray} {n : Need} (h : n ∈ addN l kd t) :
    (n ∈ l ∧ (kd = 1 ∨ kd = 6 ∨ ¬ n.name.toList = t.toList)) ∨ (¬ (kd = 1 ∨ kd = 6) ∧ ∃ m, n = flagN kd m ∧ m.name.toList = t.toList ∧ (m ∈ l ∨ ((∀ x ∈ l, ¬ x.name.toList = t.toList) ∧ m = ⟨t, false, false⟩))) := by
  unfold addN at h
  split at h
  · rename_i hk
    exact .inl ⟨h, hk.elim .inl fun h => .inr (.inl h)⟩
  · rename_i hk
    obtain ⟨j, hj⟩ := List.mem_iff_getElem?.1 h
    rw [List.getElem?_modify] at hj
    cases hf : l.findIdx? (hasN t) with
    | none =>
      have hg : growN l t = (l ++ [Need.mk t false false], l.length) := by unfold growN; rw [hf]
      rw [hg] at hj
      simp only at hj
      have hno : ∀ x ∈ l, ¬ x.name.toList = t.toList := fun x hx he => by
        have := List.findIdx?_eq_none_iff.1 hf x hx
        rw [(hasN_iff t x).2 he] at this; cases this
      by_cases hjl : j = l.length
      · subst hjl
        simp at hj
        exact .inr ⟨hk, _, hj.symm, rfl, .inr ⟨hno, rfl⟩⟩
      · have hlt : j < l.length := by
          rcases Nat.lt_or_ge j l.length with h | h
          · exact h
          · rw [List.getElem?_append_right h] at hj
            have : ([Need.mk t false false] : List Need)[j - l.length]? = none := List.getElem?_eq_none (by simp; omega)
            rw [this] at hj
            simp at hj
        rw [List.getElem?_append_left hlt] at hj
        have hne : ¬ l.length = j := fun e => hjl e.symm
        simp [hne, hlt] at hj
        have hm : n ∈ l := hj ▸ List.getElem_mem _
        exact .inl ⟨hm, .inr (.inr (hno n hm))⟩
    | some i =>
      have hg : growN l t = (l, i) := by unfold growN; rw [hf]
      rw [hg] at hj
      simp only at hj
      obtain ⟨hi, h1, h2⟩ := List.findIdx?_eq_some_iff_getElem.1 hf
      by_cases hij : i = j
      · subst hij
        rw [List.getElem?_eq_getElem hi] at hj
        simp at hj
        exact .inr ⟨hk, l[i], hj.symm, (hasN_iff t _).1 h1, .inl (List.getElem_mem _)⟩
      · cases hlj : l[j]? with
        | none => rw [hlj] at hj; simp at hj
        | some m =>
          rw [hlj] at hj
          simp [hij] at hj
          subst hj
          refine .inl ⟨List.mem_of_getElem? hlj, .inr (.inr fun he => hij ?_)⟩
          exact uniq_at hu (List.getElem?_eq_getElem hi) hlj (((hasN_iff t _).1 h1).trans he.symm)
/-- what is there stays there -/
theorem add_mem {l : List Need} {kd : Int} {t : ByteArray} {n : Need} (h : n ∈ l) (hu : Uniq l) : (kd = 1 ∨ kd = 6 ∨ ¬ n.name.toList = t.toList → n ∈ addN l kd t) ∧ (¬ (kd = 1 ∨ kd = 6) → n.name.toList = t.toList → flagN kd n ∈ addN l kd t) := by
  obtain ⟨j, hj⟩ := List.mem_iff_getElem?.1 h
  have hjl := (List.getElem?_eq_some_iff.1 hj).1
  unfold addN
  constructor
  · intro hk
    split
    · exact h
    · rename_i hk2
      have hne : ¬ n.name.toList = t.toList := by
        rcases hk with h1 | h1 | h1
        · exact absurd (.inl h1) hk2
        · exact absurd (.inr h1) hk2
        · exact h1
      apply List.mem_of_getElem? (i := j)
      rw [List.getElem?_modify]
      cases hf : l.findIdx? (hasN t) with
      | none =>
        have hg : growN l t = (l ++ [Need.mk t false false], l.length) := by unfold growN; rw [hf]
        rw [hg]
        simp only
        rw [List.getElem?_append_left hjl, hj]
        have : ¬ l.length = j := by omega
        simp [this]
      | some i =>
        have hg : growN l t = (l, i) := by unfold growN; rw [hf]
        rw [hg]
        simp only
        obtain ⟨hi, h1, _⟩ := List.findIdx?_eq_some_iff_getElem.1 hf
        have hij : ¬ i = j := fun e => by
          subst e
          have : l[i] = n := (List.getElem?_eq_some_iff.1 hj).2
          rw [this] at h1
          exact hne ((hasN_iff t n).1 h1)
        rw [hj]
        simp [hij]
  · intro hk he
    rw [if_neg hk]
    cases hf : l.findIdx? (hasN t) with
    | none =>
      have := List.findIdx?_eq_none_iff.1 hf n h
      rw [(hasN_iff t n).2 he] at this; cases this
    | some i =>
      have hg : growN l t = (l, i) := by unfold growN; rw [hf]
      rw [hg]
      simp only
      obtain ⟨hi, h1, _⟩ := List.findIdx?_eq_some_iff_getElem.1 hf
      have hij : i = j := uniq_at hu (List.getElem?_eq_getElem hi) hj (((hasN_iff t _).1 h1).trans he.symm)
      subst hij
      apply List.mem_of_getElem? (i := i)
      rw [List.getElem?_modify, hj]
      simp
theorem add_new {l : List Need} {kd : Int} {t : ByteArray} (hk : ¬ (kd = 1 ∨ kd = 6)) (hno : ∀ x ∈ l, ¬ x.name.toList = t.toList) : flagN kd ⟨t, false, false⟩ ∈ addN l kd t := by
  unfold addN
  rw [if_neg hk]
  have hf : l.findIdx? (hasN t) = none := by
    rw [List.findIdx?_eq_none_iff]
    intro x hx
    cases h : hasN t x
    · rfl
    · exact absurd ((hasN_iff t x).1 h) (hno x hx)
  have hg : growN l t = (l ++ [Need.mk t false false], l.length) := by unfold growN; rw [hf]
  rw [hg]
  simp only
  apply List.mem_of_getElem? (i := l.length)
  rw [List.getElem?_modify]
  simp

/-- whatever the one asks for the other asks for too -/
def Sim (l l' : List Need) : Prop := Uniq l ∧ Uniq l' ∧ ∀ n ∈ l, ∃ n' ∈ l', n'.name.toList = n.name.toList ∧ (n.num = true → n'.num = true) ∧ (n.text = true → n'.text = true)
theorem flag_mono {kd : Int} {n n' : Need} (h1 : n.num = true → n'.num = true) (h2 : n.text = true → n'.text = true) : ((flagN kd n).num = true → (flagN kd n').num = true) ∧ ((flagN kd n).text = true → (flagN kd n').text = true) := by
  unfold flagN
  simp only [Bool.or_eq_true]
  exact ⟨fun h => h.imp h1 id, fun h => h.imp h2 id⟩
theorem sim_add {l l' : List Need} (h : Sim l l') (kd : Int) (t : ByteArray) : Sim (addN l kd t) (addN l' kd t) := by
  obtain ⟨hu, hu', hs⟩ := h
  refine ⟨uniq_add hu _ _, uniq_add hu' _ _, fun n hn => ?_⟩
  rcases mem_add hu hn with ⟨hm, hk⟩ | ⟨hk, m, rfl, hmn, hm⟩
  · obtain ⟨n', hn', e1, e2, e3⟩ := hs n hm
    by_cases hk2 : kd = 1 ∨ kd = 6 ∨ ¬ n'.name.toList = t.toList
    · exact ⟨n', (add_mem hn' hu').1 hk2, e1, e2, e3⟩
    · rw [e1] at hk2; exact absurd hk hk2
  · rcases hm with hm | ⟨hno, rfl⟩
    · obtain ⟨n', hn', e1, e2, e3⟩ := hs m hm
      have := flag_mono (kd := kd) e2 e3
      exact ⟨_, (add_mem hn' hu').2 hk (e1.trans hmn), e1, this.1, this.2⟩
    · by_cases hex : ∃ x ∈ l', x.name.toList = t.toList
      · obtain ⟨x, hx, hxe⟩ := hex
        have := flag_mono (kd := kd) (n := ⟨t, false, false⟩) (n' := x) (fun h => by cases h) (fun h => by cases h)
        exact ⟨_, (add_mem hx hu').2 hk hxe, hxe, this.1, this.2⟩
      · exact ⟨_, add_new hk (fun x hx he => hex ⟨x, hx, he⟩), rfl, id, id⟩
theorem sim_both {l l' : List Need} (h : Sim l l') (hb : l.any (fun n => n.num && n.text) = true) : l'.any (fun n => n.num && n.text) = true := by
  obtain ⟨n, hn, hf⟩ := List.any_eq_true.1 hb
  obtain ⟨n', hn', _, e2, e3⟩ := h.2.2 n hn
  rw [Bool.and_eq_true] at hf
  exact List.any_eq_true.2 ⟨n', hn', by rw [e2 hf.1, e3 hf.2]; rfl⟩

theorem add_cons {e : Need} {l : List Need} {kd : Int} {t : ByteArray} (h : ¬ e.name.toList = t.toList) : addN (e :: l) kd t = e :: addN l kd t := by
  unfold addN
  split
  · rfl
  · have hf : hasN t e = false := by
      cases hq : hasN t e
      · rfl
      · exact absurd ((hasN_iff t e).1 hq) h
    have hg : growN (e :: l) t = (e :: (growN l t).1, (growN l t).2 + 1) := by
      unfold growN
      rw [List.findIdx?_cons, hf]
      cases l.findIdx? (hasN t) with
      | none => rfl
      | some i => rfl
    rw [hg]
    rfl
/-- one more ahead, if its name is not asked for -/
theorem all_cons (e : Need) (f : Nat) (ms : List Nd) (h : ¬ e.name.toList ∈ namesOf (allN f [] ms)) : allN f [e] ms = e :: allN f [] ms := by
  have := allN_rel (R := fun l l' => e.name.toList ∈ namesOf l ∨ l' = e :: l) (fun l l' kd t hr => by
    rcases hr with hr | rfl
    · left
      rw [names_add]
      split
      · exact hr
      · split
        · exact hr
        · exact List.mem_append_left _ hr
    · by_cases hk : kd = 1 ∨ kd = 6
      · right
        unfold addN; rw [if_pos hk, if_pos hk]
      · by_cases he : e.name.toList = t.toList
        · left
          rw [names_add, if_neg hk, he]
          split
          · assumption
          · exact List.mem_append_right _ (List.mem_singleton.2 rfl)
        · exact .inr (add_cons he)) f ms [] [e] (.inr rfl)
  exact this.resolve_left h

/-- within a Select -/
def wrapS (name : ByteArray) (ms : List Nd) : List Nd := [.mk 5 name 0 [(otherS, ms)]]
theorem wrap_all (name : ByteArray) (f : Nat) (ms : List Nd) : allN (f + 1) [] (wrapS name ms) = allN f [⟨name, false, true⟩] ms := rfl

theorem runSz_fine {g : List Nd → Nat × Bool} {f : Nat} : ∀ (cs : List (ByteArray × List Nd)) (n : Nat), (∀ c ∈ cs, (g c.2).2 = false ∧ (g c.2).1 = cntP f c.2) → n + cntC f cs ≤ 60 → (runSz g n cs).2 = false
  | [], n, _, h => by unfold runSz; exact decide_eq_false (by simp [cntC] at h; omega)
  | c :: r, n, h, h2 => by
    obtain ⟨h3, h4⟩ := h c (List.mem_cons_self ..)
    rw [cntC_cons] at h2
    unfold runSz
    rw [h3, h4, decide_eq_false (by omega), if_neg (by decide)]
    exact runSz_fine r _ (fun d hd => h d (List.mem_cons_of_mem _ hd)) (by omega)
theorem size_up : ∀ (f : Nat) (ms : List Nd) (d : Nat), (sizeP f ms (d + 1)).2 = false → (sizeP f ms d).2 = false
  | 0, _, _, _ => rfl
  | f + 1, ms, d, h => by
    unfold sizeP at h ⊢
    split at h
    · cases h
    · rename_i hh
      rw [if_neg (by omega)]
      obtain ⟨_, h2, h3⟩ := runSz_cnt (f := f) (fun b hb => by
        cases f with
        | zero => rfl
        | succ f => exact (size_cnt (f + 1) b (d + 1 + 1) (fun h => by cases h) hb).1) (flatC ms) ms.length h
      refine runSz_fine (f := f) _ _ (fun c hc => ?_) h2
      have h4 := size_up f c.2 (d + 1) (h3 c hc)
      refine ⟨h4, ?_⟩
      cases f with
      | zero => rfl
      | succ f => exact (size_cnt (f + 1) c.2 (d + 1) (fun h => by cases h) h4).1

theorem wrap_size (name : ByteArray) (f : Nat) (ms : List Nd) (d : Nat) (hd : d < 6) : sizeP (f + 1) (wrapS name ms) d = if (sizeP f ms (d + 1)).2 || decide (60 < 1 + (sizeP f ms (d + 1)).1) then (1 + (sizeP f ms (d + 1)).1, true) else (1 + (sizeP f ms (d + 1)).1, decide (60 < 1 + (sizeP f ms (d + 1)).1)) := by
  conv => { lhs; unfold sizeP }
  rw [if_neg (by omega)]
  rfl
theorem key_other (kd : Int) : keyB kd otherS = true := by
  unfold keyB
  split
  · decide +kernel
  · rw [show Lib.containsS kinds6 otherS = true by rw [Lib.containsS_iff]; exact List.mem_of_getElem? (i := 5) rfl]
    rfl
theorem cases_other (g : List Nd → Bool → Int) (kd : Int) (mark : Bool) (ms : List Nd) : casesP g kd mark [] [(otherS, ms)] = g ms (mark || decide (kd = 4)) := by
  have h1 : Lib.containsS [] otherS = false := rfl
  have h2 : Lib.containsS [otherS] otherS = true := by rw [Lib.containsS_iff]; exact List.mem_singleton.2 rfl
  unfold casesP
  rw [if_pos (key_other kd)]
  simp only [h1, Bool.false_eq_true, if_false]
  split
  · rename_i h
    rw [h]
    unfold casesP
    rw [List.nil_append, if_pos h2]
  · rfl
theorem wrap_check (name : ByteArray) (f : Nat) (ms : List Nd) (mark : Bool) (h : checkP (f + 1) (wrapS name ms) mark = 0) : checkP f ms mark = 0 ∧ nameB name.data.toList = true := by
  have h1 : checkP (f + 1) (wrapS name ms) mark = if nodeP (checkP f) none (.mk 5 name 0 [(otherS, ms)]) mark = 0 then 0 else nodeP (checkP f) none (.mk 5 name 0 [(otherS, ms)]) mark := rfl
  have h2 : nodeP (checkP f) none (.mk 5 name 0 [(otherS, ms)]) mark = if nameB name.data.toList then casesP (checkP f) 5 mark [] [(otherS, ms)] else 3 := rfl
  rw [h1] at h
  have h3 : nodeP (checkP f) none (.mk 5 name 0 [(otherS, ms)]) mark = 0 := by
    split at h
    · assumption
    · exact h
  rw [h2] at h3
  split at h3
  · rename_i hn
    rw [cases_other] at h3
    have : (mark || decide ((5 : Int) = 4)) = mark := by simp
    rw [this] at h3
    exact ⟨h3, hn⟩
  · cases h3
theorem wrap_msg (name : ByteArray) (f : Nat) (ms : List Nd) (h : msgP (f + 1) (wrapS name ms) = 0) : msgP f ms = 0 := by
  unfold msgP at h ⊢
  split at h
  · cases h
  · rename_i hs
    have hs2 : (sizeP (f + 1) (wrapS name ms) 0).2 = false := by
      cases hq : (sizeP (f + 1) (wrapS name ms) 0).2
      · rfl
      · exact absurd hq hs
    rw [wrap_size _ _ _ _ (by decide)] at hs2
    have h1 : (sizeP f ms 1).2 = false := by
      split at hs2
      · cases hs2
      · rename_i hh
        cases hq : (sizeP f ms (0 + 1)).2
        · rfl
        · rw [hq] at hh; exact absurd rfl hh
    rw [size_up f ms 0 h1, if_neg (by decide)]
    exact (wrap_check name f ms false h).1
/-- a fault within is a fault without -/
theorem wrap_names (name : ByteArray) (f : Nat) (ms : List Nd) (h : ¬ namesP f ms = 0) : ¬ namesP (f + 1) (wrapS name ms) = 0 := by
  intro h0
  unfold namesP at h h0
  split at h0
  · rename_i hm
    rw [if_pos (wrap_msg name f ms hm)] at h
    split at h
    · rename_i hb
      have hs : Sim (allN f [] ms) (allN f [⟨name, false, true⟩] ms) := allN_rel (R := Sim) (fun l l' kd t hr => sim_add hr kd t) f ms [] _ ⟨List.nodup_nil, by simp [Uniq, namesOf], fun n hn => by cases hn⟩
      have := sim_both hs hb
      rw [wrap_all, if_pos this] at h0
      cases h0
    · exact h rfl
  · rename_i hm
    exact hm h0
end Go.Proofs.YthlcjlmaaaappaaDoor
