/- TagText, TagRow, Less: texts put together. -/
import Derived.Test.YtnhlnhmjnnopaaaDoorFe5
import Derived.Test.YtnhlnhmjnnopaaaDoorFe8
import Derived.Test.YtnhlnhmjnnopaaaDoorFe3
import Derived.Maps.AppendAt
set_option linter.unusedVariables false
set_option linter.unusedSimpArgs false
/- tag.Text of a right tag. -/
namespace Go.Proofs.YtnhlnhmjnnopaaaDoor
open Go.RowKit

theorem StrsIn.lit3 (w : World) (a b c : ByteArray) (k : Nat) (hk : k = w.heap.size) : StrsIn (w.alloc (.cells #[.string a, .string b, .string c] 9)) (some ⟨k, 0, none⟩) [a, b, c] := by
  subst hk
  refine .inr ⟨_, 0, rfl, fun j x hx => ?_⟩
  rw [World.cell?_alloc_at _ _ _ _ rfl]
  have hj : j < 3 := (List.getElem?_eq_some_iff.1 hx).1
  match j, hj with
  | 0, _ => cases hx; rfl
  | 1, _ => cases hx; rfl
  | 2, _ => cases hx; rfl
theorem parts_map (l s r : ByteArray) (vs : List ByteArray) : (([l, s, r] ++ vs).filter (fun x => !x.data.toList.isEmpty)).map (·.data.toList) = partsL l.data.toList s.data.toList r.data.toList (listsOf vs) := by
  unfold partsL listsOf
  rw [show [l.data.toList, s.data.toList, r.data.toList] ++ vs.map (·.data.toList) = ([l, s, r] ++ vs).map (·.data.toList) by simp, List.filter_map]
  rfl
theorem text_len {l s r : Bs} {vs : List Bs} (h : tagErr l s r vs = 0) : (tagText l s r vs).length ≤ 100 := by
  obtain ⟨h1, h2, h3, h4, h5⟩ := tagErr_ok h
  have hl := madeB_len h1
  have hs : s.length ≤ 4 := by
    rcases h2 with h2 | h2
    · rw [h2]; simp
    · exact Nat.le_of_eq (scriptB_len h2)
  have hr : r.length ≤ 3 := by
    rcases h3 with h3 | h3
    · rw [h3]; simp
    · exact (regionB_len h3).2
  have hv : ∀ vs : List Bs, (∀ v ∈ vs, v.length ≤ 8) → Lib.lens vs ≤ 8 * vs.length := by
    intro vs
    induction vs with
    | nil => intro _; simp [Lib.lens]
    | cons x t ih =>
      intro h
      have e1 := ih (fun v hv => h v (List.mem_cons_of_mem _ hv))
      have e2 := h x List.mem_cons_self
      simp only [Lib.lens, List.map_cons, List.sum_cons, List.length_cons] at *
      omega
  have h8 := hv vs (fun v h => (madeB_len (varErr_len vs [] h4 v h)).2.1)
  have e := parts_ok h
  unfold tagText
  rw [join_len, e]
  have f1 : Lib.lens ([s].filter (fun x => !x.isEmpty)) ≤ 4 ∧ ([s].filter (fun x => !x.isEmpty)).length ≤ 1 := by
    by_cases hh : s.isEmpty <;> simp [List.filter_cons, hh, Lib.lens] <;> omega
  have f2 : Lib.lens ([r].filter (fun x => !x.isEmpty)) ≤ 3 ∧ ([r].filter (fun x => !x.isEmpty)).length ≤ 1 := by
    by_cases hh : r.isEmpty <;> simp [List.filter_cons, hh, Lib.lens] <;> omega
  have la : ∀ a b : List Bs, Lib.lens (a ++ b) = Lib.lens a + Lib.lens b := by
    intro a b; simp [Lib.lens]
  have lc : ∀ (a : Bs) (b : List Bs), Lib.lens (a :: b) = a.length + Lib.lens b := by
    intro a b; simp [Lib.lens]
  rw [lc, la, la]
  generalize [s].filter (fun x => !x.isEmpty) = S at *
  generalize [r].filter (fun x => !x.isEmpty) = R at *
  simp only [List.length_cons, List.length_nil, List.length_append, Nat.zero_add, Nat.one_mul]
  omega

set_option maxHeartbeats 2000000 in
theorem tag_text (l s r : ByteArray) (A : Option Addr) (c : Nat) (vs : List ByteArray) (w : World) (hX : StrsIn w A vs) (hA : A = none → c = 0) (hok : tagErr l.data.toList s.data.toList r.data.toList (listsOf vs) = 0) :
    Calls Tryd.prog 17 #[tagV l s r A vs.length c] w fun e w' => e = .returned (.string ⟨(tagText l.data.toList s.data.toList r.data.toList (listsOf vs)).toArray⟩) ∧ Below w.heap.size w w' := by
  have hn : vs.length ≤ 3 := by
    have := (tagErr_ok hok).2.2.2.2
    simpa using this
  have hlen := text_len hok
  have hpm := parts_map l s r vs
  have hne := parts_ne hok
  unfold tagText at hlen ⊢
  rw [← hpm] at hlen hne ⊢
  generalize hJ : Lib.join ((([l, s, r] ++ vs).filter (fun x => !x.data.toList.isEmpty)).map (·.data.toList)) [45] = J at hlen ⊢
  have HL := Lib.hid hlen
  have HJ := Lib.hid hJ
  have HX := Lib.hid hX
  have HA := Lib.hid hA
  clear hlen hne hX hA hok hpm hJ
  go_enter Tryd.func17, Tryd.ntmps17
  go_wp2_with fail
  have hcc := fun W (e : W = ((w.alloc (.cells #[.string l, .string s, .string r, .slice A vs.length c] 47)).alloc (.cells #[.string l, .string s, .string r] 9)).alloc (.cells #[.slice (some ⟨w.heap.size + 1, 0, none⟩) 3 3, .slice A vs.length c] 45)) =>
    concat2 (w.heap.size + 1 + 1) (some ⟨w.heap.size + 1, 0, none⟩) A 3 c [l, s, r] vs W (by subst e; go_simp) (by subst e; go_simp)
      (by subst e; exact ((StrsIn.lit3 (w.alloc _) l s r _ (by simp)).alloc _)) (by subst e; exact ((HX.out.alloc _).alloc _).alloc _) (fun h => by cases h) HA.out (by simp) (by simp; omega) 2
  refine (hcc _ rfl).mono ?_
  clear hcc
  rintro e w1 ⟨v, rfl, ho, hb1⟩
  have s1 := hb1.size
  obtain ⟨A3, c3, rfl, _, _, _⟩ := ho.form
  have hcap := ho.cap.2
  have hpos : 0 < ([l, s, r] ++ vs).length := by simp
  have hle : ([l, s, r] ++ vs).length ≤ 6 := by simp; omega
  generalize [l, s, r] ++ vs = ps at *
  have hds : w.heap.size < w1.heap.size := by simp at s1; omega
  have KD := Lib.hid (del_empty (A := A3) (c := c3) ps.length w1 rfl ho hpos s1)
  have hfl : (ps.filter (fun x => !x.data.toList.isEmpty)).length ≤ ps.length := List.length_filter_le _ _
  clear ho
  generalize ps.filter (fun x => !x.data.toList.isEmpty) = ys at *
  go_wp2_with fail
  refine KD.out.mono ?_
  rintro e w2 ⟨rfl, hs2, hb2⟩
  have KJ := Lib.hid (strings_joinW (A := A3) (c := c3) _ ⟨#[45]⟩ w2 rfl hs2 (by omega) (by omega) (by rw [show (ByteArray.mk #[45]).data.toList = [45] from rfl, HJ.out]; exact Nat.le_trans HL.out (by decide)))
  clear hs2 KD
  go_wp2_with fail
  refine KJ.out.mono ?_
  rintro e w3 ⟨rfl, hb3⟩
  have s2 := hb2.size
  go_wp2_with fail
  go_ret
  exact ⟨by rw [← HJ.out]; rfl, (by (repeat (first | with_reducible exact Below.refl _ _ | with_reducible refine bel_set ?_ ?_ | with_reducible refine bel_alloc ?_ ?_ | with_reducible refine Below.drew ?_ | with_reducible refine bel_drewN _ ?_ | with_reducible refine bel_call ?_ (by assumption) ?_)); all_goals (first | (simp; done) | omega | (simp; omega)))⟩
end Go.Proofs.YtnhlnhmjnnopaaaDoor

/- Rows of tags that are the call's own. -/
namespace Go.Proofs.YtnhlnhmjnnopaaaDoor
open Go.RowKit

structure TagD where
  c : TagC
  A : Option Addr
  n : Nat
def TagD.val (t : TagD) : Value := tagV t.c.l t.c.s t.c.r t.A t.c.vs.length t.n
def TagD.cells (t : TagD) : List Value := [.string t.c.l, .string t.c.s, .string t.c.r, .slice t.A t.c.vs.length t.n]

/-- these texts lie in a block of texts -/
def StrsT (w : World) (A : Option Addr) (vs : List ByteArray) : Prop :=
  vs = [] ∨ ∃ bk o cs fr, A = some ⟨bk, o, none⟩ ∧ w.heap[bk]? = some (.cells cs 9 fr) ∧ ∀ (j : Nat) x, vs[j]? = some x → cs[o + j]? = some (.string x)
theorem StrsT.strs {w : World} {A : Option Addr} {vs : List ByteArray} (h : StrsT w A vs) : StrsIn w A vs := by
  rcases h with h | ⟨bk, o, cs, fr, rfl, h1, h2⟩
  · exact .inl h
  · exact .inr ⟨bk, o, rfl, fun j x hx => by simp [World.cell?, h1, h2 j x hx]⟩
theorem heap_lt {w : World} {b : Nat} {o : Obj} (h : w.heap[b]? = some o) : b < w.heap.size := (Array.getElem?_eq_some_iff.1 h).1
theorem StrsT.off {w w' : World} {A : Option Addr} {vs : List ByteArray} {l : List Nat} (h : StrsT w A vs) (hb : Off l w w') (hl : ∀ k ∈ l, ∀ cs fr, w.heap[k]? ≠ some (.cells cs 9 fr)) : StrsT w' A vs := by
  rcases h with h | ⟨bk, o, cs, fr, rfl, h1, h2⟩
  · exact .inl h
  · refine .inr ⟨bk, o, cs, fr, rfl, ?_, h2⟩
    rw [hb.block bk (heap_lt h1) (fun hm => hl bk hm cs fr h1)]
    exact h1
theorem StrsT.below {w w' : World} {A : Option Addr} {vs : List ByteArray} (h : StrsT w A vs) (hb : Below w.heap.size w w') : StrsT w' A vs :=
  h.off ((Off.refl [] w).below hb (Nat.le_refl _)) (fun k hk => by cases hk)
theorem OwnsS.typed {w : World} {base : Nat} {A : Option Addr} {n c : Nat} {xs : List ByteArray} (h : OwnsS w base (.slice A n c) xs) : StrsT w A xs := by
  rcases h.2 with ⟨h1, h2⟩ | ⟨g, cap, cur, h1, h3, h4, h5, h6, h7, h8⟩
  · exact .inl (List.length_eq_zero_iff.1 h2)
  · cases h1
    refine .inr ⟨g, 0, cur, _, rfl, h4, fun j x hx => ?_⟩
    have h9 : (cur.toList.take (xs.length * 1))[j]? = some (.string x) := by rw [h8, List.getElem?_map, hx]; rfl
    rw [List.getElem?_take] at h9
    split at h9
    · rw [Nat.zero_add, ← Array.getElem?_toList]; exact h9
    · cases h9

def TagD.ok (w : World) (t : TagD) : Prop := StrsT w t.A t.c.vs ∧ (t.A = none → t.n = 0) ∧ t.c.vs.length ≤ t.n
theorem TagD.ok.below {w w' : World} {t : TagD} (h : t.ok w) (hb : Below w.heap.size w w') : t.ok w' := ⟨h.1.below hb, h.2⟩
theorem TagD.ok.off {w w' : World} {t : TagD} {l : List Nat} (h : t.ok w) (hb : Off l w w') (hl : ∀ k ∈ l, ∀ cs fr, w.heap[k]? ≠ some (.cells cs 9 fr)) : t.ok w' := ⟨h.1.off hb hl, h.2⟩

def tagCells (ts : List TagD) : List Value := (ts.map TagD.cells).flatten
theorem tagCells_len (ts : List TagD) : (tagCells ts).length = ts.length * 4 := by
  induction ts with
  | nil => rfl
  | cons t r ih =>
    unfold tagCells at *
    rw [List.map_cons, List.flatten_cons, List.length_append, ih, List.length_cons]
    show 4 + r.length * 4 = _
    omega
theorem tagCells_at (ts : List TagD) : ∀ (j : Nat) t i v, ts[j]? = some t → t.cells[i]? = some v → (tagCells ts)[j * 4 + i]? = some v := by
  induction ts with
  | nil => intro j t i v h; simp at h
  | cons x r ih =>
    intro j t i v h hv
    unfold tagCells at *
    rw [List.map_cons, List.flatten_cons]
    have hx : x.cells.length = 4 := rfl
    cases j with
    | zero =>
      simp at h
      subst h
      have hi : i < 4 := by have := (List.getElem?_eq_some_iff.1 hv).1; rw [hx] at this; exact this
      rw [Nat.zero_mul, Nat.zero_add, List.getElem?_append_left (by rw [hx]; exact hi)]
      exact hv
    | succ j =>
      simp only [List.getElem?_cons_succ] at h
      rw [List.getElem?_append_right (by rw [hx]; omega), hx, show (j + 1) * 4 + i - 4 = j * 4 + i by omega]
      exact ih j t i v h hv

/-- A row of tags that is the call's own. -/
def OwnsT (w : World) (base : Nat) (v : Value) (ts : List TagD) : Prop := w.ownsRow base 47 4 v ts.length (tagCells ts)
theorem OwnsT.alloc {w : World} {base : Nat} {v : Value} {ts : List TagD} (h : OwnsT w base v ts) (o : Obj) : OwnsT (w.alloc o) base v ts := World.ownsRow.alloc h o
theorem OwnsT.off {w w' : World} {base : Nat} {v : Value} {ts : List TagD} {l : List Nat} (h : OwnsT w base v ts) (hb : Off l w w') (hl : ∀ k, v.ownBlock = some k → k ∉ l) : OwnsT w' base v ts := by
  refine ⟨h.1, ?_⟩
  rcases h.2 with h2 | ⟨g, cap, cur, rfl, h3, h4, h5⟩
  · exact .inl h2
  · refine .inr ⟨g, cap, cur, rfl, h3, ?_, h5⟩
    rw [hb.block g (heap_lt h4) (hl g rfl)]
    exact h4
theorem OwnsT.below {w w' : World} {base : Nat} {v : Value} {ts : List TagD} (h : OwnsT w base v ts) (hb : Below w.heap.size w w') : OwnsT w' base v ts :=
  h.off ((Off.refl [] w).below hb (Nat.le_refl _)) (fun k _ => by simp)
theorem OwnsT.base {w : World} {base b' : Nat} {v : Value} {ts : List TagD} (h : OwnsT w base v ts) (hb : b' ≤ base) : OwnsT w b' v ts := by
  refine ⟨h.1, ?_⟩
  rcases h.2 with h2 | ⟨g, cap, cur, h1, h3, h4⟩
  · exact .inl h2
  · exact .inr ⟨g, cap, cur, h1, by omega, h4⟩
/-- its own block is no block of texts -/
theorem OwnsT.other {w : World} {base : Nat} {v : Value} {ts : List TagD} (h : OwnsT w base v ts) : ∀ k ∈ v.ownBlock.toList, ∀ cs fr, w.heap[k]? ≠ some (.cells cs 9 fr) := by
  intro k hk cs fr he
  rcases h.2 with ⟨h2, _⟩ | ⟨g, cap, cur, rfl, h3, h4, h5⟩
  · rw [h2] at hk; simp [Value.ownBlock] at hk
  · simp [Value.ownBlock] at hk
    subst hk
    rw [he] at h4
    injection h4 with h4
    injection h4 with _ ht
    exact absurd ht (by decide)
theorem OwnsT.form {w : World} {base : Nat} {v : Value} {ts : List TagD} (h : OwnsT w base v ts) (hp : 0 < ts.length) : ∃ g c, v = .slice (some ⟨g, 0, none⟩) ts.length c ∧ ts.length ≤ c ∧ base ≤ g ∧ g < w.heap.size ∧
    (∀ (j : Nat) t i u, ts[j]? = some t → t.cells[i]? = some u → w.cell? ⟨g, j * 4 + i, none⟩ = some u) := by
  rcases h.2 with ⟨_, h2⟩ | ⟨g, cap, cur, rfl, h3, h4, h5, _⟩
  · omega
  · refine ⟨g, cap, rfl, h5, h3, heap_lt h4, fun j t i u ht hu => ?_⟩
    have := World.ownsRow.cells h (g := g) rfl (j * 4 + i) u (tagCells_at ts j t i u ht hu)
    rw [Go.WideShapes.add_plain, Nat.zero_add] at this
    exact this
theorem OwnsT.grown {wa wb : World} {base : Nat} {v : Value} {ts : List TagD} (h : OwnsT wa base v ts) (hoff : Off v.ownBlock.toList wa wb) (hb : base ≤ wa.heap.size) : Below base wa wb := by
  refine hoff.toBelow (fun k hk => ?_) hb
  rcases h.2 with ⟨h2, _⟩ | ⟨g, cap, cur, rfl, h3, h4, h5⟩
  · rw [h2] at hk; simp [Value.ownBlock] at hk
  · simp [Value.ownBlock] at hk
    omega
theorem OwnsT.lit1 (w : World) (t : TagD) : OwnsT (w.alloc (.cells #[.string t.c.l, .string t.c.s, .string t.c.r, .slice t.A t.c.vs.length t.n] 47)) w.heap.size (.slice (some ⟨w.heap.size, 0, none⟩) 1 1) [t] :=
  World.ownsRow_lit w #[.string t.c.l, .string t.c.s, .string t.c.r, .slice t.A t.c.vs.length t.n] 1 (Nat.le_refl _) (by simp [maxLen]) rfl

theorem infoTag : ∃ i, Tryd.prog.info? 47 = some i ∧ i.zero = some (.agg #[.string ⟨#[]⟩, .string ⟨#[]⟩, .string ⟨#[]⟩, .slice none 0 0]) ∧ i.size = 4 ∧ i.bytes = 72 := by
  have h : (Tryd.prog.info? 47).map (fun i => (i.zero, i.size, i.bytes)) = some (some (.agg #[.string ⟨#[]⟩, .string ⟨#[]⟩, .string ⟨#[]⟩, .slice none 0 0]), 4, 72) := by kernel_rfl
  obtain ⟨i, hi, h2⟩ := Option.map_eq_some_iff.1 h
  simp only [Prod.mk.injEq] at h2
  exact ⟨i, hi, h2.1, h2.2.1, h2.2.2⟩

set_option maxRecDepth 100000 in
theorem append_tag {w : World} {base : Nat} {v : Value} {ts : List TagD} {b c : Nat} (t : TagD) (h : OwnsT w base v ts) (hc : ∀ i u, t.cells[i]? = some u → w.cell? ⟨b, i, none⟩ = some u) (ty : TypeId) (hb : base ≤ w.heap.size) (hn : ts.length ≤ 1000000) :
    ∃ v' w', (Builtin.append_ #[50, 50] ty #[v, .slice (some ⟨b, 0, none⟩) 1 c]).run Tryd.prog w = .ok v' w' ∧ OwnsT w' base v' (ts ++ [t]) ∧ Off v.ownBlock.toList w w' ∧ (v'.ownBlock = v.ownBlock ∨ v'.ownBlock = some w.heap.size) := by
  obtain ⟨i, hi, hz, hsz, hby⟩ := infoTag
  obtain ⟨v', w', h1, h2, h3, _, hat⟩ := run_append_own_at (P := Tryd.prog) w base 50 ty 47 i _ 4 72 Tryd.underlying50 hi hz hsz hby rfl (by omega) v ts.length _ h
    ⟨b, 0, none⟩ 1 c t.cells rfl (fun j u hj => by rw [Go.WideShapes.add_plain, Nat.zero_add]; exact hc j u hj)
    (by intro u hu; simp [TagD.cells] at hu; rcases hu with rfl | rfl | rfl | rfl <;> rfl) (by show ts.length + 1 ≤ 9223372036854775807; omega) (by omega) hb
  refine ⟨v', w', h1, ?_, grown_off h3 (fun k hk => by simp [hk]), hat⟩
  unfold OwnsT
  rw [List.length_append]
  have e : tagCells (ts ++ [t]) = tagCells ts ++ t.cells := by unfold tagCells; simp
  rw [e]
  exact h2
theorem wpList_append_tag {w : World} {ops : Array Oper} {rest : List Oper} {o : Oper} {a : Act} {Q : Exit → Act → World → Prop} (hgd : o.guard = none) (s x : Operand)
    (ho : o.op = .call { callee := .builtin .append, args := #[s, x], argTypes := #[50, 50] }) {base : Nat} {v : Value} {ts : List TagD} {b c : Nat} (t : TagD)
    (hs : a.eval s = v) {xv : Value} (hx : a.eval x = xv) (hxv : xv = .slice (some ⟨b, 0, none⟩) 1 c) (hown : OwnsT w base v ts) (hc : ∀ i u, t.cells[i]? = some u → w.cell? ⟨b, i, none⟩ = some u) (hb : base ≤ w.heap.size) (hn : ts.length ≤ 1000000)
    (h : ∀ v' w', OwnsT w' base v' (ts ++ [t]) → Off v.ownBlock.toList w w' → (v'.ownBlock = v.ownBlock ∨ v'.ownBlock = some w.heap.size) → wpList Tryd.prog ops Q rest (a.put o.dst v') w') : wpList Tryd.prog ops Q (o :: rest) a w := by
  refine wpList_plain hgd fun K hK => ?_
  obtain ⟨v', w', hr, h2, h3, h4⟩ := append_tag (c := c) t hown hc o.type hb hn
  rw [← hxv] at hr
  clear hxv hc hown hb hn
  unfold Oper.wp execOp
  simp only [ho, resolve, invoke, builtin, Sem.run_bind, Sem.run_pure, Result.andThen_ok, List.map_toArray, List.map_cons, List.map_nil, hs, hx, hr]
  exact hK _ _ (h v' w' h2 h3 h4)
end Go.Proofs.YtnhlnhmjnnopaaaDoor

/- chain.less. -/
namespace Go.Proofs.YtnhlnhmjnnopaaaDoor
open Go.RowKit

theorem StrsIn.front {w : World} {A : Option Addr} {vs : List ByteArray} (h : StrsIn w A vs) (m : Nat) : StrsIn w A (vs.take m) := by
  rcases h with h | ⟨bk, o, hA, hc⟩
  · subst h; exact .inl (by simp)
  · refine .inr ⟨bk, o, hA, fun j x hx => hc j x ?_⟩
    rw [List.getElem?_take] at hx
    split at hx
    · exact hx
    · cases hx
def strNe (s : ByteArray) : Prop := s.data.toList.isEmpty = false
theorem ne_facts {s : ByteArray} (h : s.data.toList.isEmpty = false) : ¬ s.toList = [] ∧ s.toList.isEmpty = false := by
  have h1 : ¬ s.toList = [] := by rw [Lib.toList_data]; intro hq; rw [hq] at h; cases h
  exact ⟨h1, by cases hq : s.toList with | nil => exact absurd hq h1 | cons x xl => rfl⟩
theorem emp_facts {s : ByteArray} (h : s.data.toList.isEmpty = true) : s.toList = [] := by rw [Lib.toList_data]; exact List.isEmpty_iff.1 h

theorem wpList_append_n {w : World} {ops : Array Oper} {rest : List Oper} {o : Oper} {a : Act} {Q : Exit → Act → World → Prop} (hgd : o.guard = none) (s x : Operand)
    (ho : o.op = .call { callee := .builtin .append, args := #[s, x], argTypes := #[45, 45] }) {base : Nat} {v : Value} {xs ys : List ByteArray} {A : Option Addr} {m c : Nat} (hm : ys.length = m)
    (hs : a.eval s = v) (hx : a.eval x = .slice A m c) (hown : OwnsS w base v xs) (hy : StrsIn w A ys) (hA : A = none → c = 0) (hb : base ≤ w.heap.size) (hn : xs.length + m ≤ 8000000000000)
    (h : ∀ v' w', OwnsS w' base v' (xs ++ ys) → Off v.ownBlock.toList w w' → wpList Tryd.prog ops Q rest (a.put o.dst v') w') : wpList Tryd.prog ops Q (o :: rest) a w := by
  subst hm
  exact wpList_append_many hgd s x ho hs hx hown hy hA hb hn h

theorem bel_fin {B : Nat} {a b c : World} (h : Below B a b) (k : Below B b c) : Below B a c := h.trans k

set_option maxHeartbeats 1000000 in
theorem less_vs (t : TagD) (m : Nat) (w : World) (h : t.ok w) (hm : t.c.vs.length = m + 1) (h3 : m ≤ 1000) :
    Calls Tryd.prog 37 #[t.val] w fun e w' => ∃ t' : TagD, t'.c = { t.c with vs := t.c.vs.dropLast } ∧ e = .returned (.tuple #[t'.val, .bool true]) ∧ t'.ok w' ∧ Below w.heap.size w w' := by
  obtain ⟨⟨l, s, r, vs⟩, A, n⟩ := t
  simp only [TagD.val] at hm ⊢
  have hd : vs.dropLast = vs.take m := by rw [List.dropLast_eq_take, hm]; rfl
  rw [hm, hd]
  have hlen : (vs.take m).length = m := by rw [List.length_take]; omega
  have hX := h.1.strs.front m
  have hA : A = none → n = 0 := h.2.1
  have hn : m + 1 ≤ n := by have := h.2.2; simp only at this; omega
  generalize vs.take m = us at *
  clear h hd
  have HX := Lib.hid hX
  have HA := Lib.hid hA
  have HL := Lib.hid hlen
  clear hX hA hlen hm
  have HLIT : Hid (∀ W : World, W.heap.size = w.heap.size + 1 + 1 → OwnsS (W.alloc (.cells #[] 9)) (w.heap.size + 1 + 1) (.slice (some ⟨w.heap.size + 1 + 1, 0, none⟩) 0 0) []) := Lib.hid fun W hW => by
    have := OwnsS.lit W (base := w.heap.size + 1 + 1) (by omega)
    rw [hW] at this
    exact this
  go_enter Tryd.func37, Tryd.ntmps37
  go_wp2_with
    (at_builtin
     refine wpList_append_n rfl _ _ rfl HL.out (xs := []) rfl rfl (HLIT.out _ (by simp)) (((HX.out.alloc _).alloc _).alloc _) HA.out (by first | (simp; done) | (simp; omega)) (by first | (simp; done) | (simp; omega)) ?_
     intro v1 w1 ho1 hf1
     have hf2 : Off [w.heap.size + 1 + 1] _ w1 := hf1
     have ho2 : OwnsS w1 (w.heap.size + 1 + 1) v1 us := by simpa using ho1
     have hb1 : Below w.heap.size w w1 := ((((Below.refl w.heap.size w).alloc (Nat.le_refl _) _).alloc (by simp) _).alloc (by simp; omega) _).trans (hf2.toBelow (by simp; omega) (by simp; omega))
     have hs1 : w.heap.size + 1 + 1 < w1.heap.size := by have := hf2.size; simp at this; omega
     have x0 : w1.cell? ⟨w.heap.size, 0, none⟩ = some (.string l) := hf2.cell (by go_simp) (by first | (simp; done) | (simp; omega))
     have x1 : w1.cell? ⟨w.heap.size, 1, none⟩ = some (.string s) := hf2.cell (by go_simp) (by first | (simp; done) | (simp; omega))
     have x2 : w1.cell? ⟨w.heap.size, 2, none⟩ = some (.string r) := hf2.cell (by go_simp) (by first | (simp; done) | (simp; omega))
     have x3 : w1.cell? ⟨w.heap.size, 3, none⟩ = some (.slice A (m + 1) n) := hf2.cell (by go_simp) (by first | (simp; done) | (simp; omega))
     have xf0 : w1.frozen? ⟨w.heap.size, 0, none⟩ = false := (hf2.frozen (by first | (simp; done) | (simp; omega)) (by first | (simp; done) | (simp; omega))).trans (by go_simp)
     have xf1 : w1.frozen? ⟨w.heap.size, 1, none⟩ = false := (hf2.frozen (by first | (simp; done) | (simp; omega)) (by first | (simp; done) | (simp; omega))).trans (by go_simp)
     have xf2 : w1.frozen? ⟨w.heap.size, 2, none⟩ = false := (hf2.frozen (by first | (simp; done) | (simp; omega)) (by first | (simp; done) | (simp; omega))).trans (by go_simp)
     have xf3 : w1.frozen? ⟨w.heap.size, 3, none⟩ = false := (hf2.frozen (by first | (simp; done) | (simp; omega)) (by first | (simp; done) | (simp; omega))).trans (by go_simp)
     have y0 : w1.cell? ⟨w.heap.size + 1, 0, none⟩ = some (.string ⟨#[]⟩) := hf2.cell (by go_simp) (by first | (simp; done) | (simp; omega))
     have y1 : w1.cell? ⟨w.heap.size + 1, 1, none⟩ = some (.string ⟨#[]⟩) := hf2.cell (by go_simp) (by first | (simp; done) | (simp; omega))
     have y2 : w1.cell? ⟨w.heap.size + 1, 2, none⟩ = some (.string ⟨#[]⟩) := hf2.cell (by go_simp) (by first | (simp; done) | (simp; omega))
     have y3 : w1.cell? ⟨w.heap.size + 1, 3, none⟩ = some (.slice none 0 0) := hf2.cell (by go_simp) (by first | (simp; done) | (simp; omega))
     have yf0 : w1.frozen? ⟨w.heap.size + 1, 0, none⟩ = false := (hf2.frozen (by first | (simp; done) | (simp; omega)) (by first | (simp; done) | (simp; omega))).trans (by go_simp)
     have yf1 : w1.frozen? ⟨w.heap.size + 1, 1, none⟩ = false := (hf2.frozen (by first | (simp; done) | (simp; omega)) (by first | (simp; done) | (simp; omega))).trans (by go_simp)
     have yf2 : w1.frozen? ⟨w.heap.size + 1, 2, none⟩ = false := (hf2.frozen (by first | (simp; done) | (simp; omega)) (by first | (simp; done) | (simp; omega))).trans (by go_simp)
     have yf3 : w1.frozen? ⟨w.heap.size + 1, 3, none⟩ = false := (hf2.frozen (by first | (simp; done) | (simp; omega)) (by first | (simp; done) | (simp; omega))).trans (by go_simp)
     obtain ⟨A1, c1, rfl, k1, _, k2⟩ := ho2.form
     have HO := Lib.hid ho2
     have HB := Lib.hid hb1
     have HK := Lib.hid k1
     have HK2 := Lib.hid k2
     clear ho1 hf1 hf2 ho2 hb1 k1 k2)
  exact bodyPost_ret (v := .tuple #[tagV l s r A1 us.length c1, .bool true]) (by simp [results, Tryd.results37, go_sem, World.cell?_setCell_same, World.cell?_setCell_other, x0, x1, x2, x3, y0, y1, y2, y3]) rfl
    ⟨⟨⟨l, s, r, us⟩, A1, c1⟩, rfl, rfl, ⟨(OwnsS.off (l := [w.heap.size, w.heap.size + 1]) HO.out (by repeat (first | exact Off.refl _ _ | refine Off.setCell ?_ _ _ (by simp))) (fun k hk => by have := (HK2.out k hk).1; simp; omega)).typed, HK.out, HO.out.cap.2⟩, bel_fin HB.out ((by (repeat (first | with_reducible exact Below.refl _ _ | with_reducible refine bel_set ?_ ?_ | with_reducible refine bel_alloc ?_ ?_ | with_reducible refine Below.drew ?_ | with_reducible refine bel_drewN _ ?_ | with_reducible refine bel_call ?_ (by assumption) ?_)); all_goals (first | (simp; done) | omega | (simp; omega))))⟩


set_option maxHeartbeats 1000000 in
theorem less_r (l s r : ByteArray) (A : Option Addr) (n : Nat) (w : World) (hr : r.data.toList.isEmpty = false) :
    Calls Tryd.prog 37 #[tagV l s r A 0 n] w fun e w' => e = .returned (.tuple #[tagV l s ⟨#[]⟩ A 0 n, .bool true]) ∧ Below w.heap.size w w' := by
  obtain ⟨r1, r2⟩ := ne_facts hr
  clear hr
  go_enter Tryd.func37, Tryd.ntmps37
  go_wp2_with fail
  exact bodyPost_ret (v := .tuple #[tagV l s ⟨#[]⟩ A 0 n, .bool true]) (by simp [results, Tryd.results37, go_sem]) rfl ⟨rfl, (by (repeat (first | with_reducible exact Below.refl _ _ | with_reducible refine bel_set ?_ ?_ | with_reducible refine bel_alloc ?_ ?_ | with_reducible refine Below.drew ?_ | with_reducible refine bel_drewN _ ?_ | with_reducible refine bel_call ?_ (by assumption) ?_)); all_goals (first | (simp; done) | omega | (simp; omega)))⟩

set_option maxHeartbeats 1000000 in
theorem less_s (l s r : ByteArray) (A : Option Addr) (n : Nat) (w : World) (hr : r.data.toList.isEmpty = true) (hs : s.data.toList.isEmpty = false) :
    Calls Tryd.prog 37 #[tagV l s r A 0 n] w fun e w' => e = .returned (.tuple #[tagV l ⟨#[]⟩ r A 0 n, .bool true]) ∧ Below w.heap.size w w' := by
  have r1 := emp_facts hr
  obtain ⟨s1, s2⟩ := ne_facts hs
  clear hr hs
  go_enter Tryd.func37, Tryd.ntmps37
  go_wp2_with fail
  exact bodyPost_ret (v := .tuple #[tagV l ⟨#[]⟩ r A 0 n, .bool true]) (by simp [results, Tryd.results37, go_sem]) rfl ⟨rfl, (by (repeat (first | with_reducible exact Below.refl _ _ | with_reducible refine bel_set ?_ ?_ | with_reducible refine bel_alloc ?_ ?_ | with_reducible refine Below.drew ?_ | with_reducible refine bel_drewN _ ?_ | with_reducible refine bel_call ?_ (by assumption) ?_)); all_goals (first | (simp; done) | omega | (simp; omega)))⟩

set_option maxHeartbeats 1000000 in
theorem less_no (l s r : ByteArray) (A : Option Addr) (n : Nat) (w : World) (hr : r.data.toList.isEmpty = true) (hs : s.data.toList.isEmpty = true) :
    Calls Tryd.prog 37 #[tagV l s r A 0 n] w fun e w' => e = .returned (.tuple #[tagV l s r A 0 n, .bool false]) ∧ Below w.heap.size w w' := by
  have r1 := emp_facts hr
  have s1 := emp_facts hs
  clear hr hs
  go_enter Tryd.func37, Tryd.ntmps37
  go_wp2_with fail
  exact bodyPost_ret (v := .tuple #[tagV l s r A 0 n, .bool false]) (by simp [results, Tryd.results37, go_sem]) rfl ⟨rfl, (by (repeat (first | with_reducible exact Below.refl _ _ | with_reducible refine bel_set ?_ ?_ | with_reducible refine bel_alloc ?_ ?_ | with_reducible refine Below.drew ?_ | with_reducible refine bel_drewN _ ?_ | with_reducible refine bel_call ?_ (by assumption) ?_)); all_goals (first | (simp; done) | omega | (simp; omega)))⟩

def LessRes (t : TagD) (e : Ending) (w' : World) : Prop :=
  (∀ c', lessC t.c = some c' → ∃ t' : TagD, t'.c = c' ∧ e = .returned (.tuple #[t'.val, .bool true]) ∧ t'.ok w') ∧ (lessC t.c = none → e = .returned (.tuple #[t.val, .bool false]))
theorem chain_less (t : TagD) (w : World) (h : t.ok w) (h3 : t.c.vs.length ≤ 1000) :
    Calls Tryd.prog 37 #[t.val] w fun e w' => LessRes t e w' ∧ Below w.heap.size w w' := by
  by_cases hv : t.c.vs = []
  · obtain ⟨⟨l, s, r, vs⟩, A, n⟩ := t
    simp only at hv
    subst hv
    have ok' : ∀ (l s r : ByteArray) (w' : World), (⟨⟨l, s, r, []⟩, A, n⟩ : TagD).ok w' := fun _ _ _ w' => ⟨.inl rfl, h.2.1, Nat.zero_le _⟩
    cases hr : r.data.toList.isEmpty
    · have hl : lessC ⟨l, s, r, []⟩ = some ⟨l, s, ⟨#[]⟩, []⟩ := by unfold lessC; rw [if_neg (by simp), if_pos hr]
      refine (less_r l s r A n w hr).mono ?_
      rintro e w' ⟨rfl, hb⟩
      exact ⟨⟨fun c' hc => by
        rw [hl] at hc
        cases hc
        exact ⟨⟨⟨l, s, ⟨#[]⟩, []⟩, A, n⟩, rfl, rfl, ok' _ _ _ _⟩, fun hc => by rw [hl] at hc; cases hc⟩, hb⟩
    · cases hs : s.data.toList.isEmpty
      · have hl : lessC ⟨l, s, r, []⟩ = some ⟨l, ⟨#[]⟩, r, []⟩ := by unfold lessC; rw [if_neg (by simp), if_neg (by rw [hr]; decide), if_pos hs]
        refine (less_s l s r A n w hr hs).mono ?_
        rintro e w' ⟨rfl, hb⟩
        exact ⟨⟨fun c' hc => by
          rw [hl] at hc
          cases hc
          exact ⟨⟨⟨l, ⟨#[]⟩, r, []⟩, A, n⟩, rfl, rfl, ok' _ _ _ _⟩, fun hc => by rw [hl] at hc; cases hc⟩, hb⟩
      · have hl : lessC ⟨l, s, r, []⟩ = none := by unfold lessC; rw [if_neg (by simp), if_neg (by rw [hr]; decide), if_neg (by rw [hs]; decide)]
        refine (less_no l s r A n w hr hs).mono ?_
        rintro e w' ⟨rfl, hb⟩
        exact ⟨⟨(fun c' hc => by rw [hl] at hc; cases hc), fun _ => rfl⟩, hb⟩
  · have hp : 0 < t.c.vs.length := List.length_pos_iff.2 hv
    have hl : lessC t.c = some { t.c with vs := t.c.vs.dropLast } := by unfold lessC; rw [if_pos hv]
    refine (less_vs t (t.c.vs.length - 1) w h (by omega) (by omega)).mono ?_
    rintro e w' ⟨t', h1, h2, h3, hb⟩
    exact ⟨⟨fun c' hc => by
      rw [hl] at hc
      cases hc
      exact ⟨t', h1, h2, h3⟩, fun hc => by rw [hl] at hc; cases hc⟩, hb⟩
end Go.Proofs.YtnhlnhmjnnopaaaDoor
