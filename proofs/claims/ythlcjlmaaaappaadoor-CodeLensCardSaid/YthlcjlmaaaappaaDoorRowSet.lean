/- A row of one's own: one cell of one thing turned; append that tells where the row lies then. -/
import Derived.Test.YthlcjlmaaaappaaDoorAppendG
namespace Go.Proofs.YthlcjlmaaaappaaDoor
open Go.RowKit

variable {α : Type} {k : Kind α}
theorem rowCells_set (ts : List α) : ∀ (i p : Nat) (t' : α) (u : Value), i < ts.length → p < k.size → (∀ t, ts[i]? = some t → k.cells t' = (k.cells t).set p u) → rowCells k (ts.set i t') = (rowCells k ts).set (i * k.size + p) u := by
  induction ts with
  | nil => intro i p t' u h; simp at h
  | cons x r ih =>
    intro i p t' u hi hp h
    unfold rowCells at *
    cases i with
    | zero =>
      rw [List.set_cons_zero, List.map_cons, List.map_cons, List.flatten_cons, List.flatten_cons, h x rfl, Nat.zero_mul, Nat.zero_add, List.set_append_left _ _ (by rw [k.hlen]; exact hp)]
    | succ i =>
      rw [List.set_cons_succ, List.map_cons, List.map_cons, List.flatten_cons, List.flatten_cons, ih i p t' u (by simpa using hi) hp (fun t ht => h t (by simpa using ht)), List.set_append_right _ _ (by rw [k.hlen, Nat.succ_mul]; omega), k.hlen, Nat.succ_mul]
      congr 2
      omega
theorem OwnsG.turnAt {w : World} {base g n c : Nat} {ts : List α} (h : OwnsG k w base (.slice (some ⟨g, 0, none⟩) n c) ts) (i p : Nat) (t' : α) (u : Value) (hi : i < ts.length) (hp : p < k.size) (ht : ∀ t, ts[i]? = some t → k.cells t' = (k.cells t).set p u) :
    OwnsG k (w.setCell ⟨g, i * k.size + p, none⟩ u) base (.slice (some ⟨g, 0, none⟩) n c) (ts.set i t') := by
  obtain ⟨A, c', he, _⟩ := h.form
  have hn : n = ts.length := by injection he with _ h1 _
  subst hn
  unfold OwnsG at *
  rw [List.length_set, rowCells_set ts i p t' u hi hp ht]
  exact (World.ownsRow.stored h (i * k.size + p) u).1
theorem OwnsG.frozen {w : World} {base g n c : Nat} {ts : List α} (h : OwnsG k w base (.slice (some ⟨g, 0, none⟩) n c) ts) (j : Nat) : w.frozen? ⟨g, j, none⟩ = false := by
  obtain ⟨A, c', he, _⟩ := h.form
  have hn : n = ts.length := by injection he with _ h1 _
  subst hn
  exact World.ownsRow.frozenAt h j
theorem OwnsG.cells {w : World} {base g n c : Nat} {ts : List α} (h : OwnsG k w base (.slice (some ⟨g, 0, none⟩) n c) ts) {j : Nat} {t : α} (ht : ts[j]? = some t) {i : Nat} {u : Value} (hu : (k.cells t)[i]? = some u) : w.cell? ⟨g, j * k.size + i, none⟩ = some u := by
  obtain ⟨A, c', he, _, _, _, h5⟩ := h.form
  injection he with e1 _ _
  rcases h5 with h5 | ⟨g', h6, _, _, h7⟩
  · rw [h5] at ht; simp at ht
  · rw [h6] at e1
    cases e1
    exact h7 j t i u ht hu

/-- where an appended row lies -/
theorem append_gB {w : World} {base : Nat} {v : Value} {ts : List α} {b c : Nat} (t : α) (h : OwnsG k w base v ts) (hc : ∀ i u, (k.cells t)[i]? = some u → w.cell? ⟨b, i, none⟩ = some u) (ty : TypeId) (hb : base ≤ w.heap.size) (hn : (ts.length + 1) * k.bytes ≤ 140737488355328) (hn2 : ts.length + 1 ≤ 9223372036854775807) :
    ∃ v' w', (Builtin.append_ #[k.sl, k.sl] ty #[v, .slice (some ⟨b, 0, none⟩) 1 c]).run Tryd.prog w = .ok v' w' ∧ OwnsG k w' base v' (ts ++ [t]) ∧ Off v.ownBlock.toList w w' ∧ (v'.ownBlock = v.ownBlock ∨ v'.ownBlock = some w.heap.size) := by
  obtain ⟨i, hi, hz, hsz, hby⟩ := k.hi
  obtain ⟨v', w', h1, h2, h3, _, h5⟩ := run_append_own_at (P := Tryd.prog) w base k.sl ty k.e i _ k.size k.bytes k.hsl hi hz hsz hby k.hzs k.hpos v ts.length _ h
    ⟨b, 0, none⟩ 1 c (k.cells t) (by rw [k.hlen, Nat.one_mul]) (fun j u hj => by rw [Go.WideShapes.add_plain, Nat.zero_add]; exact hc j u hj)
    (k.hone t) hn2 hn hb
  refine ⟨v', w', h1, ?_, grown_off h3 (fun k hk => by simp [hk]), h5⟩
  unfold OwnsG
  rw [List.length_append]
  have e : rowCells k (ts ++ [t]) = rowCells k ts ++ k.cells t := by unfold rowCells; simp
  rw [e]
  exact h2
theorem wpList_append_gB {w : World} {ops : Array Oper} {rest : List Oper} {o : Oper} {a : Act} {Q : Exit → Act → World → Prop} (hgd : o.guard = none) (s x : Operand)
    (ho : o.op = .call { callee := .builtin .append, args := #[s, x], argTypes := #[k.sl, k.sl] }) {base : Nat} {v : Value} {ts : List α} {b c : Nat} (t : α)
    (hs : a.eval s = v) (hx : a.eval x = .slice (some ⟨b, 0, none⟩) 1 c) (hown : OwnsG k w base v ts) (hc : ∀ i u, (k.cells t)[i]? = some u → w.cell? ⟨b, i, none⟩ = some u) (hb : base ≤ w.heap.size) (hn : (ts.length + 1) * k.bytes ≤ 140737488355328) (hn2 : ts.length + 1 ≤ 9223372036854775807)
    (h : ∀ v' w', OwnsG k w' base v' (ts ++ [t]) → Off v.ownBlock.toList w w' → (v'.ownBlock = v.ownBlock ∨ v'.ownBlock = some w.heap.size) → wpList Tryd.prog ops Q rest (a.put o.dst v') w') : wpList Tryd.prog ops Q (o :: rest) a w := by
  refine wpList_plain hgd fun K hK => ?_
  obtain ⟨v', w', hr, h2, h3, h4⟩ := append_gB (c := c) t hown hc o.type hb hn hn2
  unfold Oper.wp execOp
  simp only [ho, resolve, invoke, builtin, Sem.run_bind, Sem.run_pure, Result.andThen_ok, List.map_toArray, List.map_cons, List.map_nil, hs, hx, hr]
  exact hK _ _ (h v' w' h2 h3 h4)
/-- at a step of a region that draws its order -/
theorem step_append_gB {w : World} {ops : Array Oper} {o : Oper} {a : Act} {K : Act → World → Prop} {Q : Exit → Act → World → Prop} {E : Prop} (hgd : o.guard = none) (s x : Operand)
    (ho : o.op = .call { callee := .builtin .append, args := #[s, x], argTypes := #[k.sl, k.sl] }) {base : Nat} {v : Value} {ts : List α} {b c : Nat} (t : α)
    (hs : a.eval s = v) (hx : a.eval x = .slice (some ⟨b, 0, none⟩) 1 c) (hown : OwnsG k w base v ts) (hc : ∀ i u, (k.cells t)[i]? = some u → w.cell? ⟨b, i, none⟩ = some u) (hb : base ≤ w.heap.size) (hn : (ts.length + 1) * k.bytes ≤ 140737488355328) (hn2 : ts.length + 1 ≤ 9223372036854775807)
    (h : ∀ v' w', OwnsG k w' base v' (ts ++ [t]) → Off v.ownBlock.toList w w' → (v'.ownBlock = v.ownBlock ∨ v'.ownBlock = some w.heap.size) → K (a.put o.dst v') w') :
    if Region.wanted o (yielded ops a.tmps) = true then Oper.wp Tryd.prog o a w K Q else E := by
  have hw : Region.wanted o (yielded ops a.tmps) = true := by simp [Region.wanted, hgd]
  rw [if_pos hw]
  obtain ⟨v', w', hr, h2, h3, h4⟩ := append_gB (c := c) t hown hc o.type hb hn hn2
  unfold Oper.wp execOp
  simp only [ho, resolve, invoke, builtin, Sem.run_bind, Sem.run_pure, Result.andThen_ok, List.map_toArray, List.map_cons, List.map_nil, hs, hx, hr]
  exact h v' w' h2 h3 h4
/-- whatever block is the row's own then was so or is new -/
def Fresh (w : World) (v v' : Value) : Prop := ∀ g ∈ v'.ownBlock.toList, g ∈ v.ownBlock.toList ∨ w.heap.size ≤ g
theorem Fresh.refl (w : World) (v : Value) : Fresh w v v := fun _ h => .inl h
theorem Fresh.of {w : World} {v v' : Value} (h : v'.ownBlock = v.ownBlock ∨ v'.ownBlock = some w.heap.size) : Fresh w v v' := by
  intro g hg
  rcases h with h | h
  · rw [h] at hg; exact .inl hg
  · rw [h] at hg; simp at hg; exact .inr (by omega)
theorem Fresh.trans {w w1 : World} {v v1 v2 : Value} (h : Fresh w v v1) (k : Fresh w1 v1 v2) (hs : w.heap.size ≤ w1.heap.size) : Fresh w v v2 := by
  intro g hg
  rcases k g hg with k | k
  · exact h g k
  · exact .inr (by omega)
theorem Fresh.not {w : World} {v v' : Value} {b : Nat} (h : Fresh w v v') (hb : b ∉ v.ownBlock.toList) (hlt : b < w.heap.size) : b ∉ v'.ownBlock.toList := by
  intro hm
  rcases h b hm with h | h
  · exact hb h
  · omega
end Go.Proofs.YthlcjlmaaaappaaDoor
