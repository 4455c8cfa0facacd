/- 'for x := range strings.SplitSeq(s, sep)': the law of the statement, outermost and within a round of another one. -/
import Derived.Test.YtkklemhhimcahaaGreatDoorSplitIter
namespace Go.Proofs.YtkklemhhimcahaaGreatDoor
open Go.RowKit Go.Shelf

/-- what the statement itself turns: the iterator's own box, and blocks that are no cells, from B on -/
structure Turn (B bs : Nat) (W W' : World) : Prop where
  os : W'.os = W.os
  tape : W'.tape = W.tape
  output : W'.output = W.output
  size : W.heap.size ≤ W'.heap.size
  block : ∀ (k : Nat) (o : Obj), W.heap[k]? = some o → k ≠ bs → (k < B ∨ o.isCells = true) → W'.heap[k]? = some o
/-- what the body may turn: the blocks of the list, and cells from B on -/
structure Keep (B : Nat) (L : List Nat) (W W' : World) : Prop where
  size : W.heap.size ≤ W'.heap.size
  block : ∀ (k : Nat) (o : Obj), W.heap[k]? = some o → k ∉ L → (k < B ∨ o.isCells = false) → W'.heap[k]? = some o

theorem Turn.alloc (B bs : Nat) (W : World) (o : Obj) : Turn B bs W (W.alloc o) :=
  ⟨rfl, rfl, rfl, by simp, fun k o' h _ _ => (Below.heap_alloc W o k (Array.getElem?_eq_some_iff.1 h).1).trans h⟩
theorem Turn.putObj {B bs : Nat} {W : World} {l : Nat} {o : Obj} (o' : Obj) (h : W.heap[l]? = some o) (hc : o.isCells = false) (hB : B ≤ l) : Turn B bs W (W.putObj l o') :=
  ⟨rfl, rfl, rfl, by simp, fun k o2 hk _ hor => by
    have hne : k ≠ l := fun e => by
      subst e
      rw [h] at hk
      cases hk
      rcases hor with h1 | h1
      · omega
      · rw [hc] at h1; cases h1
    exact (World.putObj_heap_other hne).trans hk⟩
theorem Turn.set (B bs : Nat) (W : World) (u : Value) : Turn B bs W (W.setCell ⟨bs, 0, none⟩ u) :=
  ⟨rfl, rfl, rfl, by simp, fun k o hk hne _ => (Below.heap_setCell W ⟨bs, 0, none⟩ u k hne).trans hk⟩
theorem Turn.boxed {B bs k : Nat} {W W' : World} {t : TypeId} {v : Value} (h : Turn B bs W W') (hk : k ≠ bs) (hb : Boxed W k t v) : Boxed W' k t v := h.block k _ hb hk (.inr rfl)
theorem Keep.boxed {B k : Nat} {L : List Nat} {W W' : World} {t : TypeId} {v : Value} (h : Keep B L W W') (hk : k ∉ L) (hB : k < B) (hb : Boxed W k t v) : Boxed W' k t v := h.block k _ hb hk (.inl hB)
theorem Keep.refl (B : Nat) (L : List Nat) (W : World) : Keep B L W W := ⟨Nat.le_refl _, fun _ _ h _ _ => h⟩
theorem Keep.trans {B : Nat} {L : List Nat} {W W1 W2 : World} (h : Keep B L W W1) (k : Keep B L W1 W2) : Keep B L W W2 :=
  ⟨Nat.le_trans h.size k.size, fun i o hi hl hor => k.block i o (h.block i o hi hl hor) hl hor⟩
theorem Keep.alloc {B : Nat} {L : List Nat} {W W1 : World} (h : Keep B L W W1) (o : Obj) : Keep B L W (W1.alloc o) :=
  ⟨by have := h.size; simp; omega, fun k o' hk hl hor => by
    have h1 := h.block k o' hk hl hor
    exact (Below.heap_alloc W1 o k (Array.getElem?_eq_some_iff.1 h1).1).trans h1⟩
theorem Keep.below {B : Nat} {L : List Nat} {W W1 W2 : World} (h : Keep B L W W1) {C : Nat} (hb : Below C W1 W2) (hC : W.heap.size ≤ C) : Keep B L W W2 :=
  ⟨Nat.le_trans h.size hb.size, fun k o hk hl hor => by
    have h1 := h.block k o hk hl hor
    exact (hb.block k (Nat.lt_of_lt_of_le (Array.getElem?_eq_some_iff.1 hk).1 hC)).trans h1⟩
theorem Keep.set {B : Nat} {L : List Nat} {W W1 : World} (h : Keep B L W W1) (b o : Nat) (u : Value) (hb : b ∈ L) : Keep B L W (W1.setCell ⟨b, o, none⟩ u) :=
  ⟨by have := h.size; simpa using this, fun k o' hk hl hor => by
    have h1 := h.block k o' hk hl hor
    exact (Below.heap_setCell W1 ⟨b, o, none⟩ u k (fun e => hl (e ▸ hb))).trans h1⟩
theorem Keep.drew {B : Nat} {L : List Nat} {W W1 : World} (h : Keep B L W W1) : Keep B L W W1.drew := ⟨h.size, h.block⟩
theorem Keep.drewN {B : Nat} {L : List Nat} {W W1 : World} (h : Keep B L W W1) (n : Nat) : Keep B L W (W1.drewN n) := ⟨h.size, h.block⟩
/-- the statement's own turns are none of what the round that holds it must keep -/
theorem Keep.turn {B C bs : Nat} {L : List Nat} {W W1 W2 : World} (h : Keep B L W W1) (k : Turn C bs W1 W2) (hbs : W.heap.size ≤ bs) (hC : W.heap.size ≤ C) : Keep B L W W2 :=
  ⟨Nat.le_trans h.size k.size, fun i o hi hl hor => by
    have hlt := (Array.getElem?_eq_some_iff.1 hi).1
    exact k.block i o (h.block i o hi hl hor) (by omega) (.inl (by omega))⟩
/-- a row that the walk appends to -/
theorem Keep.row {B : Nat} {L : List Nat} {W W1 W2 : World} (h : Keep B L W W1) {M : List Nat} (hf : Off M W1 W2) (hM : ∀ k ∈ M, k ∉ L → B ≤ k ∧ ∀ o, W.heap[k]? = some o → o.isCells = true) : Keep B L W W2 :=
  ⟨Nat.le_trans h.size hf.size, fun k o hk hl hor => by
    have h1 := h.block k o hk hl hor
    refine (hf.block k (Array.getElem?_eq_some_iff.1 h1).1 (fun hm => ?_)).trans h1
    obtain ⟨hB, hc⟩ := hM k hm hl
    rcases hor with hx | hx
    · omega
    · rw [hc o hk] at hx; cases hx⟩
theorem Below.turn {n0 B bs : Nat} {w W W' : World} (h : Below n0 w W) (k : Turn B bs W W') (hbs : n0 ≤ bs) (hB : n0 ≤ B) (hn : n0 ≤ w.heap.size) : Below n0 w W' := by
  refine ⟨k.os.trans h.os, k.tape.trans h.tape, k.output.trans h.output, Nat.le_trans h.size k.size, fun i hi => ?_⟩
  have h1 := h.block i hi
  have hlt : i < W.heap.size := by have := h.size; omega
  obtain ⟨o, ho⟩ : ∃ o, W.heap[i]? = some o := ⟨_, Array.getElem?_eq_getElem hlt⟩
  rw [k.block i o ho (by omega) (.inl (by omega)), ← h1, ho]

/-- How a round's body may be left. -/
def splitPost (K I : World → Prop) : Exit → Act → World → Prop
  | .normal, _, W' => K W' ∧ I W'
  | _, _, _ => False

/-- THE STATEMENT, OUTERMOST. -/
theorem wp_splitSeq {p : Tmp} {assign body : Code} {Q : Exit → Act → World → Prop} {a : Act} {w : World} {g : Operand} (bs : Nat) (sep s : ByteArray) (hsep : 0 < sep.size) (hs : s.size < 4294967281) (hs2 : sep.size ≤ 100)
    (hg : a.eval g = .func (.func 78) #[] #[.pointer (some ⟨bs + 1, 0, none⟩), .pointer (some ⟨bs, 0, none⟩), .pointer (some ⟨bs + 2, 0, none⟩)])
    (hb : Boxed w bs 9 (.string s)) (hbx : Boxes w bs sep) (L : List Nat) (hL : ∀ k ∈ L, k < w.heap.size ∧ k ≠ bs ∧ k ≠ bs + 1 ∧ k ≠ bs + 2)
    (I : List ByteArray → World → Prop) (hI : ∀ pre W W', I pre W → Turn w.heap.size bs W W' → I pre W') (hIM : ∀ pre W, I pre W → MaxL W) (h0 : I [] w)
    (hround : ∀ (l : Nat) (pre : List ByteArray) (x : ByteArray) (post : List ByteArray) (W : World), pieces sep s = pre ++ x :: post → w.heap.size ≤ l →
      assign.wpIn (Fence.wide.inRound l) 7 Tryz.prog (Exit.then (fun a' W' => W' = W ∧ ∀ W2, (∃ r, W2.heap[l]? = some (.loop r)) → I pre W2 → body.wpIn (Fence.wide.inRound l) 7 Tryz.prog (splitPost (Keep w.heap.size L W2) (I (pre ++ [x]))) a' W2) (fun _ _ _ => False))
        { tmps := ((#[p] : Array Tmp).zip #[Value.string x]).foldl (fun t (p, v) => t.setIfInBounds p v) a.tmps, defers := [] } W)
    (hdone : ∀ (D : Nat) (W : World), w.heap.size ≤ D → I (pieces sep s) W → W.heap[D]? = some (.deferred (some [])) → Q .normal { a with defers := { target := .collected D, args := #[] } :: a.defers } W) :
    (Code.rangeFunc g #[p] assign body).wp Tryz.prog Q a w := by
  refine (wpIn_wide (n := 9)).1 ?_
  refine wpIn_rangeFunc ?_
  intro fn hfn
  obtain ⟨rec, hrec⟩ : ∃ rec : LoopState → Option Code → Loop, rec = fun st pe => { state := st, pending := pe, fn, tmps := a.tmps, params := #[p], assign, body, defers := w.heap.size } := ⟨_, rfl⟩
  obtain ⟨W1, hW1⟩ : ∃ W1, (w.alloc (.deferred (some []))).alloc (.loop (rec .ready none)) = W1 := ⟨_, rfl⟩
  have hL1 : W1.heap[w.heap.size + 1]? = some (.loop (rec .ready none)) := by
    rw [← hW1]; have := World.alloc_heap_new (w.alloc (.deferred (some []))) (.loop (rec .ready none)); rwa [World.size_alloc] at this
  have hK1 : W1.heap[w.heap.size]? = some (.deferred (some [])) := by
    rw [← hW1]; exact (Below.heap_alloc _ _ _ (by simp)).trans (World.alloc_heap_new w _)
  have hI1 : I [] W1 := by rw [← hW1]; exact hI _ _ _ (hI _ _ _ h0 (Turn.alloc _ _ _ _)) (Turn.alloc _ _ _ _)
  have hbl := hb.lt
  have hbl1 := hbx.sep.lt
  have hbl2 := hbx.save.lt
  have hb1 : Boxed W1 bs 9 (.string s) := by rw [← hW1]; exact (hb.alloc _).alloc _
  have hbx1 : Boxes W1 bs sep := by rw [← hW1]; exact ⟨(hbx.sep.alloc _).alloc _, (hbx.save.alloc _).alloc _⟩
  refine ⟨w.heap.size + 1, [{ target := .collected w.heap.size, args := #[] }], W1, { target := .fn (.func 78) #[.pointer (some ⟨bs + 1, 0, none⟩), .pointer (some ⟨bs, 0, none⟩), .pointer (some ⟨bs + 2, 0, none⟩)], args := #[.func (.yield (w.heap.size + 1)) #[] #[]] }, W1, 78,
    #[.func (.yield (w.heap.size + 1)) #[] #[]] ++ #[.pointer (some ⟨bs + 1, 0, none⟩), .pointer (some ⟨bs, 0, none⟩), .pointer (some ⟨bs + 2, 0, none⟩)], W1, ?_, ?_, ?_, ?_, (fun _ => by omega), ?_⟩
  · rw [← hW1, hrec]; exact run_enterLoop_outer _ _ _ _ _
  · simp only [resolve, hg]
    simp [go_sem]
  · intro f' _; trivial
  · simp [invoke, go_sem, enters_of Tryz.func78 (by kernel_rfl) rfl]
  · refine (split_iter 8 (w.heap.size + 1) bs (by omega) sep s hsep hs hs2
      (fun pre W => I pre W ∧ Boxes W bs sep ∧ W.heap[w.heap.size + 1]? = some (.loop (rec .ready none)) ∧ W.heap[w.heap.size]? = some (.deferred (some []))) ?_ ?_ ?_ W1 hb1 ⟨hI1, hbx1, hL1, hK1⟩).mono ?_
    · rintro pre W u ⟨hi, hx, hl, hk⟩
      have ht := Turn.set w.heap.size bs W u
      refine ⟨hI _ _ _ hi ht, ⟨ht.boxed (by omega) hx.sep, ht.boxed (by omega) hx.save⟩, ?_, ?_⟩
      · exact (Below.heap_setCell W ⟨bs, 0, none⟩ u _ (by show _ ≠ bs; omega)).trans hl
      · exact (Below.heap_setCell W ⟨bs, 0, none⟩ u _ (by show _ ≠ bs; omega)).trans hk
    · rintro pre W ⟨hi, hx, hl, hk⟩
      exact ⟨hIM _ _ hi, hx⟩
    · -- one round
      rintro pre x post r W hps ⟨hi, hx, hl, hk⟩ hbr
      have hlt : w.heap.size + 1 < W.heap.size := (Array.getElem?_eq_some_iff.1 hl).1
      have hy := run_yield (P := Tryz.prog) (args := #[Value.string x]) hl (by rw [hrec]; rfl)
      rw [hrec] at hy
      refine ⟨fn, _, assign, body, hy, roundIn_of_wpIn hfn (wpIn_mono (hround _ pre x post W hps (by omega)) ?_)⟩
      rintro e0 a0 W0 hp0
      cases e0 with
      | ret => exact hp0.elim
      | exit id => exact hp0.elim
      | goto t => exact hp0.elim
      | panic ch => exact hp0.elim
      | outgrown => exact hp0.elim
      | normal =>
      obtain ⟨hWW, hbody⟩ := hp0
      rw [hWW]
      clear hWW
      refine ⟨_, run_beginRound hl (by rw [hrec]), ?_⟩
      have ht2 := Turn.putObj (B := w.heap.size) (bs := bs) (.loop { rec .ready none with state := .busy }) hl rfl (by omega)
      have hl2 : (W.putObj (w.heap.size + 1) (.loop { rec .ready none with state := .busy })).heap[w.heap.size + 1]? = some (.loop { rec .ready none with state := .busy }) := World.putObj_heap_same hlt
      have hk2 : (W.putObj (w.heap.size + 1) (.loop { rec .ready none with state := .busy })).heap[w.heap.size]? = some (.deferred (some [])) := (World.putObj_heap_other (by omega)).trans hk
      have hr2 : Boxed (W.putObj (w.heap.size + 1) (.loop { rec .ready none with state := .busy })) bs 9 (.string r) := (World.putObj_heap_other (by omega)).trans hbr
      have hx2 : Boxes (W.putObj (w.heap.size + 1) (.loop { rec .ready none with state := .busy })) bs sep := ⟨ht2.boxed (by omega) hx.sep, ht2.boxed (by omega) hx.save⟩
      refine wpIn_mono (hbody _ ⟨_, hl2⟩ (hI _ _ _ hi ht2)) ?_
      rintro e a3 W3 hp
      cases e with
      | normal =>
        obtain ⟨hkp, hi3⟩ := hp
        have hl3 := hkp.block _ _ hl2 (fun hm => by have := (hL _ hm).1; omega) (.inr rfl)
        have hk3 := hkp.block _ _ hk2 (fun hm => by have := (hL _ hm).1; omega) (.inr rfl)
        have hr3 : Boxed W3 bs _ _ := hkp.boxed (fun hm => (hL _ hm).2.1 rfl) hbl hr2
        have hx3 : Boxes W3 bs sep := ⟨hkp.boxed (fun hm => (hL _ hm).2.2.1 rfl) hbl1 hx2.sep, hkp.boxed (fun hm => (hL _ hm).2.2.2 rfl) hbl2 hx2.save⟩
        have hlt3 := (Array.getElem?_eq_some_iff.1 hl3).1
        have hend := run_endRound (P := Tryz.prog) none hl3
        have ht3 := Turn.putObj (B := w.heap.size) (bs := bs) (.loop (rec .ready none)) hl3 rfl (by omega)
        have hend2 : (Instr.endRound (w.heap.size + 1) none).run Tryz.prog W3 = .ok (.bool true) (W3.putObj (w.heap.size + 1) (.loop (rec .ready none))) := by
          rw [hend, hrec]
          rfl
        exact ⟨_, _, hend2, rfl, ⟨hI _ _ _ hi3 ht3, ⟨ht3.boxed (by omega) hx3.sep, ht3.boxed (by omega) hx3.save⟩, World.putObj_heap_same hlt3, (World.putObj_heap_other (by omega)).trans hk3⟩, (World.putObj_heap_other (by omega)).trans hr3⟩
      | ret => exact hp.elim
      | exit id => exact hp.elim
      | goto t => exact hp.elim
      | panic ch => exact hp.elim
      | outgrown => exact hp.elim
    · rintro e W2 ⟨⟨v, rfl⟩, hi, hx, hl, hk⟩
      exact ⟨none, _, by have := run_endLoop (P := Tryz.prog) hl (by rw [hrec]; simp); rw [hrec] at this; exact this, hdone _ _ (Nat.le_refl _) (hI _ _ _ hi (Turn.putObj _ hl rfl (by omega))) ((World.putObj_heap_other (by omega)).trans hk)⟩

/-- THE STATEMENT WITHIN A ROUND OF LOOP l₀. -/
theorem wpIn_splitSeq {p : Tmp} {assign body : Code} {Q : Exit → Act → World → Prop} {a : Act} {w : World} {g : Operand} {l₀ : Nat} {r₀ : Loop} (hl₀ : w.heap[l₀]? = some (.loop r₀)) (bs : Nat) (sep s : ByteArray) (hsep : 0 < sep.size) (hs : s.size < 4294967281) (hs2 : sep.size ≤ 100)
    (hg : a.eval g = .func (.func 78) #[] #[.pointer (some ⟨bs + 1, 0, none⟩), .pointer (some ⟨bs, 0, none⟩), .pointer (some ⟨bs + 2, 0, none⟩)])
    (hb : Boxed w bs 9 (.string s)) (hbx : Boxes w bs sep) (L : List Nat) (hL : ∀ k ∈ L, k < w.heap.size ∧ k ≠ bs ∧ k ≠ bs + 1 ∧ k ≠ bs + 2)
    (I : List ByteArray → World → Prop) (hI : ∀ pre W W', I pre W → Turn w.heap.size bs W W' → I pre W') (hIM : ∀ pre W, I pre W → MaxL W) (h0 : I [] w)
    (hround : ∀ (l : Nat) (pre : List ByteArray) (x : ByteArray) (post : List ByteArray) (W : World), pieces sep s = pre ++ x :: post → w.heap.size ≤ l →
      assign.wpIn ((Fence.wide.inRound l₀).inRound l) 5 Tryz.prog (Exit.then (fun a' W' => W' = W ∧ ∀ W2, (∃ r, W2.heap[l]? = some (.loop r)) → I pre W2 → body.wpIn ((Fence.wide.inRound l₀).inRound l) 5 Tryz.prog (splitPost (Keep w.heap.size L W2) (I (pre ++ [x]))) a' W2) (fun _ _ _ => False))
        { tmps := ((#[p] : Array Tmp).zip #[Value.string x]).foldl (fun t (p, v) => t.setIfInBounds p v) a.tmps, defers := [] } W)
    (hdone : ∀ (W : World), I (pieces sep s) W → Q .normal a W) :
    (Code.rangeFunc g #[p] assign body).wpIn (Fence.wide.inRound l₀) 7 Tryz.prog Q a w := by
  refine wpIn_rangeFunc ?_
  intro fn hfn
  obtain ⟨rec, hrec⟩ : ∃ rec : LoopState → Option Code → Loop, rec = fun st pe => { state := st, pending := pe, fn, tmps := a.tmps, params := #[p], assign, body, defers := r₀.defers } := ⟨_, rfl⟩
  obtain ⟨W1, hW1⟩ : ∃ W1, w.alloc (.loop (rec .ready none)) = W1 := ⟨_, rfl⟩
  have hL1 : W1.heap[w.heap.size]? = some (.loop (rec .ready none)) := by rw [← hW1]; exact World.alloc_heap_new w _
  have hI1 : I [] W1 := by rw [← hW1]; exact hI _ _ _ h0 (Turn.alloc _ _ _ _)
  have hbl := hb.lt
  have hbl1 := hbx.sep.lt
  have hbl2 := hbx.save.lt
  have hb1 : Boxed W1 bs 9 (.string s) := by rw [← hW1]; exact hb.alloc _
  have hbx1 : Boxes W1 bs sep := by rw [← hW1]; exact ⟨hbx.sep.alloc _, hbx.save.alloc _⟩
  refine ⟨w.heap.size, [], W1, { target := .fn (.func 78) #[.pointer (some ⟨bs + 1, 0, none⟩), .pointer (some ⟨bs, 0, none⟩), .pointer (some ⟨bs + 2, 0, none⟩)], args := #[.func (.yield (w.heap.size)) #[] #[]] }, W1, 78,
    #[.func (.yield (w.heap.size)) #[] #[]] ++ #[.pointer (some ⟨bs + 1, 0, none⟩), .pointer (some ⟨bs, 0, none⟩), .pointer (some ⟨bs + 2, 0, none⟩)], W1, ?_, ?_, ?_, ?_, (fun _ => by omega), ?_⟩
  · rw [← hW1, hrec]; exact run_enterLoop_inner hl₀ _ _ _ _ _
  · simp only [resolve, hg]
    simp [go_sem]
  · intro f' _; trivial
  · simp [invoke, go_sem, enters_of Tryz.func78 (by kernel_rfl) rfl]
  · refine (split_iter 6 w.heap.size bs (by omega) sep s hsep hs hs2
      (fun pre W => I pre W ∧ Boxes W bs sep ∧ W.heap[w.heap.size]? = some (.loop (rec .ready none))) ?_ ?_ ?_ W1 hb1 ⟨hI1, hbx1, hL1⟩).mono ?_
    · rintro pre W u ⟨hi, hx, hl⟩
      have ht := Turn.set w.heap.size bs W u
      refine ⟨hI _ _ _ hi ht, ⟨ht.boxed (by omega) hx.sep, ht.boxed (by omega) hx.save⟩, ?_⟩
      exact (Below.heap_setCell W ⟨bs, 0, none⟩ u _ (by show _ ≠ bs; omega)).trans hl
    · rintro pre W ⟨hi, hx, hl⟩
      exact ⟨hIM _ _ hi, hx⟩
    · -- one round
      rintro pre x post r W hps ⟨hi, hx, hl⟩ hbr
      have hlt : w.heap.size < W.heap.size := (Array.getElem?_eq_some_iff.1 hl).1
      have hy := run_yield (P := Tryz.prog) (args := #[Value.string x]) hl (by rw [hrec]; rfl)
      rw [hrec] at hy
      refine ⟨fn, _, assign, body, hy, roundIn_of_wpIn hfn (wpIn_mono (hround _ pre x post W hps (by omega)) ?_)⟩
      rintro e0 a0 W0 hp0
      cases e0 with
      | ret => exact hp0.elim
      | exit id => exact hp0.elim
      | goto t => exact hp0.elim
      | panic ch => exact hp0.elim
      | outgrown => exact hp0.elim
      | normal =>
      obtain ⟨hWW, hbody⟩ := hp0
      rw [hWW]
      clear hWW
      refine ⟨_, run_beginRound hl (by rw [hrec]), ?_⟩
      have ht2 := Turn.putObj (B := w.heap.size) (bs := bs) (.loop { rec .ready none with state := .busy }) hl rfl (by omega)
      have hl2 : (W.putObj (w.heap.size) (.loop { rec .ready none with state := .busy })).heap[w.heap.size]? = some (.loop { rec .ready none with state := .busy }) := World.putObj_heap_same hlt
      have hr2 : Boxed (W.putObj (w.heap.size) (.loop { rec .ready none with state := .busy })) bs 9 (.string r) := (World.putObj_heap_other (by omega)).trans hbr
      have hx2 : Boxes (W.putObj (w.heap.size) (.loop { rec .ready none with state := .busy })) bs sep := ⟨ht2.boxed (by omega) hx.sep, ht2.boxed (by omega) hx.save⟩
      refine wpIn_mono (hbody _ ⟨_, hl2⟩ (hI _ _ _ hi ht2)) ?_
      rintro e a3 W3 hp
      cases e with
      | normal =>
        obtain ⟨hkp, hi3⟩ := hp
        have hl3 := hkp.block _ _ hl2 (fun hm => by have := (hL _ hm).1; omega) (.inr rfl)
        have hr3 : Boxed W3 bs _ _ := hkp.boxed (fun hm => (hL _ hm).2.1 rfl) hbl hr2
        have hx3 : Boxes W3 bs sep := ⟨hkp.boxed (fun hm => (hL _ hm).2.2.1 rfl) hbl1 hx2.sep, hkp.boxed (fun hm => (hL _ hm).2.2.2 rfl) hbl2 hx2.save⟩
        have hlt3 := (Array.getElem?_eq_some_iff.1 hl3).1
        have hend := run_endRound (P := Tryz.prog) none hl3
        have ht3 := Turn.putObj (B := w.heap.size) (bs := bs) (.loop (rec .ready none)) hl3 rfl (by omega)
        have hend2 : (Instr.endRound (w.heap.size) none).run Tryz.prog W3 = .ok (.bool true) (W3.putObj (w.heap.size) (.loop (rec .ready none))) := by
          rw [hend, hrec]
          rfl
        exact ⟨_, _, hend2, rfl, ⟨hI _ _ _ hi3 ht3, ⟨ht3.boxed (by omega) hx3.sep, ht3.boxed (by omega) hx3.save⟩, World.putObj_heap_same hlt3⟩, (World.putObj_heap_other (by omega)).trans hr3⟩
      | ret => exact hp.elim
      | exit id => exact hp.elim
      | goto t => exact hp.elim
      | panic ch => exact hp.elim
      | outgrown => exact hp.elim
    · rintro e W2 ⟨⟨v, rfl⟩, hi, hx, hl⟩
      exact ⟨none, _, by have := run_endLoop (P := Tryz.prog) hl (by rw [hrec]; simp); rw [hrec] at this; exact this, hdone _ (hI _ _ _ hi (Turn.putObj _ hl rfl (by omega)))⟩
end Go.Proofs.YtkklemhhimcahaaGreatDoor
