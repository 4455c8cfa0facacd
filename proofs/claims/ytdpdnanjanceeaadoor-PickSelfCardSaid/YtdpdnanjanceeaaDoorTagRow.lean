/- Rows of tags that are the call's own. -/
import Derived.Test.YtdpdnanjanceeaaDoorCat
import Derived.Test.YtdpdnanjanceeaaDoorTagCheck2
import Derived.Test.YtdpdnanjanceeaaDoorChainPlain
import Derived.Maps.AppendAt
namespace Go.Proofs.YtdpdnanjanceeaaDoor
open Go.RowKit

structure TagD where
  c : TagC
  A : Option Addr
  n : Nat
def TagD.val (t : TagD) : Value := tagV t.c.l t.c.s t.c.r t.A t.c.vs.length t.n
def TagD.cells (t : TagD) : List Value := [.string t.c.l, .string t.c.s, .string t.c.r, .slice t.A t.c.vs.length t.n]

/-- these texts lie in a block of texts -/
def StrsT (w : World) (A : Option Addr) (vs : List ByteArray) : Prop :=
  vs = [] ∨ ∃ bk o cs fr, A = some ⟨bk, o, none⟩ ∧ w.heap[bk]? = some (.cells cs 9 fr) ∧ ∀ (j : Nat) x, vs[j]? = some x → cs[o + j]? = some (.string x)
theorem StrsT.strs {w : World} {A : Option Addr} {vs : List ByteArray} (h : StrsT w A vs) : StrsIn w A vs := by
  rcases h with h | ⟨bk, o, cs, fr, rfl, h1, h2⟩
  · exact .inl h
  · exact .inr ⟨bk, o, rfl, fun j x hx => by simp [World.cell?, h1, h2 j x hx]⟩
theorem heap_lt {w : World} {b : Nat} {o : Obj} (h : w.heap[b]? = some o) : b < w.heap.size := (Array.getElem?_eq_some_iff.1 h).1
theorem StrsT.off {w w' : World} {A : Option Addr} {vs : List ByteArray} {l : List Nat} (h : StrsT w A vs) (hb : Off l w w') (hl : ∀ k ∈ l, ∀ cs fr, w.heap[k]? ≠ some (.cells cs 9 fr)) : StrsT w' A vs := by
  rcases h with h | ⟨bk, o, cs, fr, rfl, h1, h2⟩
  · exact .inl h
  · refine .inr ⟨bk, o, cs, fr, rfl, ?_, h2⟩
    rw [hb.block bk (heap_lt h1) (fun hm => hl bk hm cs fr h1)]
    exact h1
theorem StrsT.below {w w' : World} {A : Option Addr} {vs : List ByteArray} (h : StrsT w A vs) (hb : Below w.heap.size w w') : StrsT w' A vs :=
  h.off ((Off.refl [] w).below hb (Nat.le_refl _)) (fun k hk => by cases hk)
theorem OwnsS.typed {w : World} {base : Nat} {A : Option Addr} {n c : Nat} {xs : List ByteArray} (h : OwnsS w base (.slice A n c) xs) : StrsT w A xs := by
  rcases h.2 with ⟨h1, h2⟩ | ⟨g, cap, cur, h1, h3, h4, h5, h6, h7, h8⟩
  · exact .inl (List.length_eq_zero_iff.1 h2)
  · cases h1
    refine .inr ⟨g, 0, cur, _, rfl, h4, fun j x hx => ?_⟩
    have h9 : (cur.toList.take (xs.length * 1))[j]? = some (.string x) := by rw [h8, List.getElem?_map, hx]; rfl
    rw [List.getElem?_take] at h9
    split at h9
    · rw [Nat.zero_add, ← Array.getElem?_toList]; exact h9
    · cases h9

def TagD.ok (w : World) (t : TagD) : Prop := StrsT w t.A t.c.vs ∧ (t.A = none → t.n = 0) ∧ t.c.vs.length ≤ t.n
theorem TagD.ok.below {w w' : World} {t : TagD} (h : t.ok w) (hb : Below w.heap.size w w') : t.ok w' := ⟨h.1.below hb, h.2⟩
theorem TagD.ok.off {w w' : World} {t : TagD} {l : List Nat} (h : t.ok w) (hb : Off l w w') (hl : ∀ k ∈ l, ∀ cs fr, w.heap[k]? ≠ some (.cells cs 9 fr)) : t.ok w' := ⟨h.1.off hb hl, h.2⟩

def tagCells (ts : List TagD) : List Value := (ts.map TagD.cells).flatten
theorem tagCells_len (ts : List TagD) : (tagCells ts).length = ts.length * 4 := by
  induction ts with
  | nil => rfl
  | cons t r ih =>
    unfold tagCells at *
    rw [List.map_cons, List.flatten_cons, List.length_append, ih, List.length_cons]
    show 4 + r.length * 4 = _
    omega
theorem tagCells_at (ts : List TagD) : ∀ (j : Nat) t i v, ts[j]? = some t → t.cells[i]? = some v → (tagCells ts)[j * 4 + i]? = some v := by
  induction ts with
  | nil => intro j t i v h; simp at h
  | cons x r ih =>
    intro j t i v h hv
    unfold tagCells at *
    rw [List.map_cons, List.flatten_cons]
    have hx : x.cells.length = 4 := rfl
    cases j with
    | zero =>
      simp at h
      subst h
      have hi : i < 4 := by have := (List.getElem?_eq_some_iff.1 hv).1; rw [hx] at this; exact this
      rw [Nat.zero_mul, Nat.zero_add, List.getElem?_append_left (by rw [hx]; exact hi)]
      exact hv
    | succ j =>
      simp only [List.getElem?_cons_succ] at h
      rw [List.getElem?_append_right (by rw [hx]; omega), hx, show (j + 1) * 4 + i - 4 = j * 4 + i by omega]
      exact ih j t i v h hv

/-- A row of tags that is the call's own. -/
def OwnsT (w : World) (base : Nat) (v : Value) (ts : List TagD) : Prop := w.ownsRow base 24 4 v ts.length (tagCells ts)
theorem OwnsT.alloc {w : World} {base : Nat} {v : Value} {ts : List TagD} (h : OwnsT w base v ts) (o : Obj) : OwnsT (w.alloc o) base v ts := World.ownsRow.alloc h o
theorem OwnsT.off {w w' : World} {base : Nat} {v : Value} {ts : List TagD} {l : List Nat} (h : OwnsT w base v ts) (hb : Off l w w') (hl : ∀ k, v.ownBlock = some k → k ∉ l) : OwnsT w' base v ts := by
  refine ⟨h.1, ?_⟩
  rcases h.2 with h2 | ⟨g, cap, cur, rfl, h3, h4, h5⟩
  · exact .inl h2
  · refine .inr ⟨g, cap, cur, rfl, h3, ?_, h5⟩
    rw [hb.block g (heap_lt h4) (hl g rfl)]
    exact h4
theorem OwnsT.below {w w' : World} {base : Nat} {v : Value} {ts : List TagD} (h : OwnsT w base v ts) (hb : Below w.heap.size w w') : OwnsT w' base v ts :=
  h.off ((Off.refl [] w).below hb (Nat.le_refl _)) (fun k _ => by simp)
theorem OwnsT.base {w : World} {base b' : Nat} {v : Value} {ts : List TagD} (h : OwnsT w base v ts) (hb : b' ≤ base) : OwnsT w b' v ts := by
  refine ⟨h.1, ?_⟩
  rcases h.2 with h2 | ⟨g, cap, cur, h1, h3, h4⟩
  · exact .inl h2
  · exact .inr ⟨g, cap, cur, h1, by omega, h4⟩
/-- its own block is no block of texts -/
theorem OwnsT.other {w : World} {base : Nat} {v : Value} {ts : List TagD} (h : OwnsT w base v ts) : ∀ k ∈ v.ownBlock.toList, ∀ cs fr, w.heap[k]? ≠ some (.cells cs 9 fr) := by
  intro k hk cs fr he
  rcases h.2 with ⟨h2, _⟩ | ⟨g, cap, cur, rfl, h3, h4, h5⟩
  · rw [h2] at hk; simp [Value.ownBlock] at hk
  · simp [Value.ownBlock] at hk
    subst hk
    rw [he] at h4
    injection h4 with h4
    injection h4 with _ ht
    exact absurd ht (by decide)
theorem OwnsT.form {w : World} {base : Nat} {v : Value} {ts : List TagD} (h : OwnsT w base v ts) (hp : 0 < ts.length) : ∃ g c, v = .slice (some ⟨g, 0, none⟩) ts.length c ∧ ts.length ≤ c ∧ base ≤ g ∧ g < w.heap.size ∧
    (∀ (j : Nat) t i u, ts[j]? = some t → t.cells[i]? = some u → w.cell? ⟨g, j * 4 + i, none⟩ = some u) := by
  rcases h.2 with ⟨_, h2⟩ | ⟨g, cap, cur, rfl, h3, h4, h5, _⟩
  · omega
  · refine ⟨g, cap, rfl, h5, h3, heap_lt h4, fun j t i u ht hu => ?_⟩
    have := World.ownsRow.cells h (g := g) rfl (j * 4 + i) u (tagCells_at ts j t i u ht hu)
    rw [Go.WideShapes.add_plain, Nat.zero_add] at this
    exact this
theorem OwnsT.grown {wa wb : World} {base : Nat} {v : Value} {ts : List TagD} (h : OwnsT wa base v ts) (hoff : Off v.ownBlock.toList wa wb) (hb : base ≤ wa.heap.size) : Below base wa wb := by
  refine hoff.toBelow (fun k hk => ?_) hb
  rcases h.2 with ⟨h2, _⟩ | ⟨g, cap, cur, rfl, h3, h4, h5⟩
  · rw [h2] at hk; simp [Value.ownBlock] at hk
  · simp [Value.ownBlock] at hk
    omega
theorem OwnsT.lit1 (w : World) (t : TagD) : OwnsT (w.alloc (.cells #[.string t.c.l, .string t.c.s, .string t.c.r, .slice t.A t.c.vs.length t.n] 24)) w.heap.size (.slice (some ⟨w.heap.size, 0, none⟩) 1 1) [t] :=
  World.ownsRow_lit w #[.string t.c.l, .string t.c.s, .string t.c.r, .slice t.A t.c.vs.length t.n] 1 (Nat.le_refl _) (by simp [maxLen]) rfl

theorem infoTag : ∃ i, Tryd.prog.info? 24 = some i ∧ i.zero = some (.agg #[.string ⟨#[]⟩, .string ⟨#[]⟩, .string ⟨#[]⟩, .slice none 0 0]) ∧ i.size = 4 ∧ i.bytes = 72 := by
  have h : (Tryd.prog.info? 24).map (fun i => (i.zero, i.size, i.bytes)) = some (some (.agg #[.string ⟨#[]⟩, .string ⟨#[]⟩, .string ⟨#[]⟩, .slice none 0 0]), 4, 72) := by kernel_rfl
  obtain ⟨i, hi, h2⟩ := Option.map_eq_some_iff.1 h
  simp only [Prod.mk.injEq] at h2
  exact ⟨i, hi, h2.1, h2.2.1, h2.2.2⟩

set_option maxRecDepth 100000 in
theorem append_tag {w : World} {base : Nat} {v : Value} {ts : List TagD} {b c : Nat} (t : TagD) (h : OwnsT w base v ts) (hc : ∀ i u, t.cells[i]? = some u → w.cell? ⟨b, i, none⟩ = some u) (ty : TypeId) (hb : base ≤ w.heap.size) (hn : ts.length ≤ 1000000) :
    ∃ v' w', (Builtin.append_ #[33, 33] ty #[v, .slice (some ⟨b, 0, none⟩) 1 c]).run Tryd.prog w = .ok v' w' ∧ OwnsT w' base v' (ts ++ [t]) ∧ Off v.ownBlock.toList w w' ∧ (v'.ownBlock = v.ownBlock ∨ v'.ownBlock = some w.heap.size) := by
  obtain ⟨i, hi, hz, hsz, hby⟩ := infoTag
  obtain ⟨v', w', h1, h2, h3, _, hat⟩ := run_append_own_at (P := Tryd.prog) w base 33 ty 24 i _ 4 72 Tryd.underlying33 hi hz hsz hby rfl (by omega) v ts.length _ h
    ⟨b, 0, none⟩ 1 c t.cells rfl (fun j u hj => by rw [Go.WideShapes.add_plain, Nat.zero_add]; exact hc j u hj)
    (by intro u hu; simp [TagD.cells] at hu; rcases hu with rfl | rfl | rfl | rfl <;> rfl) (by show ts.length + 1 ≤ 9223372036854775807; omega) (by omega) hb
  refine ⟨v', w', h1, ?_, grown_off h3 (fun k hk => by simp [hk]), hat⟩
  unfold OwnsT
  rw [List.length_append]
  have e : tagCells (ts ++ [t]) = tagCells ts ++ t.cells := by unfold tagCells; simp
  rw [e]
  exact h2
theorem wpList_append_tag {w : World} {ops : Array Oper} {rest : List Oper} {o : Oper} {a : Act} {Q : Exit → Act → World → Prop} (hgd : o.guard = none) (s x : Operand)
    (ho : o.op = .call { callee := .builtin .append, args := #[s, x], argTypes := #[33, 33] }) {base : Nat} {v : Value} {ts : List TagD} {b c : Nat} (t : TagD)
    (hs : a.eval s = v) {xv : Value} (hx : a.eval x = xv) (hxv : xv = .slice (some ⟨b, 0, none⟩) 1 c) (hown : OwnsT w base v ts) (hc : ∀ i u, t.cells[i]? = some u → w.cell? ⟨b, i, none⟩ = some u) (hb : base ≤ w.heap.size) (hn : ts.length ≤ 1000000)
    (h : ∀ v' w', OwnsT w' base v' (ts ++ [t]) → Off v.ownBlock.toList w w' → (v'.ownBlock = v.ownBlock ∨ v'.ownBlock = some w.heap.size) → wpList Tryd.prog ops Q rest (a.put o.dst v') w') : wpList Tryd.prog ops Q (o :: rest) a w := by
  refine wpList_plain hgd fun K hK => ?_
  obtain ⟨v', w', hr, h2, h3, h4⟩ := append_tag (c := c) t hown hc o.type hb hn
  rw [← hxv] at hr
  clear hxv hc hown hb hn
  unfold Oper.wp execOp
  simp only [ho, resolve, invoke, builtin, Sem.run_bind, Sem.run_pure, Result.andThen_ok, List.map_toArray, List.map_cons, List.map_nil, hs, hx, hr]
  exact hK _ _ (h v' w' h2 h3 h4)
end Go.Proofs.YtdpdnanjanceeaaDoor
