/- ValuesIter, ValuesLaw, CollectEnt: texts put together. -/
import Derived.Test.YtnhlnhmjnnopaaaGreatDoorPp2
import Derived.Test.YtnhlnhmjnnopaaaGreatDoorPp1
import Derived.RangeFuncNested
import Derived.RangeFuncBound
import Derived.RangeFuncCalls
import Derived.RangeFuncLeaves
import Derived.Shelf.Abstract
import Derived.Shelf.RegionOpen
import Derived.OwnWalkIn
import Derived.TacticsInMore
import Derived.LoopNIn
import Derived.LoopIn
set_option linter.unusedVariables false
set_option linter.unusedSimpArgs false
/- slices.Values at entries: the iterator's walk. -/
namespace Go.Proofs.YtnhlnhmjnnopaaaGreatDoor
open Go.RowKit Go.Shelf
attribute [local go_sem] Oper.semAt_some

abbrev entV (x : EntC) : Value := .agg #[.string x.key, .string x.text]
set_option maxRecDepth 100000 in
set_option maxHeartbeats 2000000 in
theorem values_iter (n l vb : Nat) (hn : 1 ≤ n) (A : Option Addr) (c : Nat) (es : List EntC) (J : List EntC → World → Prop)
    (hJ : ∀ pre W W', J pre W → Below W.heap.size W W' → J pre W') (hJb : ∀ pre W, J pre W → EntsIn W A es)
    (hY : ∀ pre x post W, es = pre ++ x :: post → J pre W → YieldAt Fence.wide (n - 1) Tryz.prog l #[entV x] W fun e W' => e = .returned (.bool true) ∧ J (pre ++ [x]) W')
    (hz : es.length ≤ 9000000000000000000) (W : World) (hb : W.cell? ⟨vb, 0, none⟩ = some (.slice A es.length c)) (h0 : J [] W) :
    CallsIn Fence.wide n Tryz.prog 48 #[.func (.yield l) #[] #[], .pointer (some ⟨vb, 0, none⟩)] W fun e W' => (∃ v, e = .returned v) ∧ J es W' := by
  have HJ := Lib.hid hJ
  have HJB := Lib.hid hJb
  have HY := Lib.hid hY
  have H0 := Lib.hid h0
  clear hJ hJb hY h0
  refine callsIn_of_wp Tryz.func48 rfl trivial ?_ rfl
  simp only [Tryz.ntmps48, List.size_toArray, List.length_cons, List.length_nil, Nat.reduceAdd, Nat.reduceSub, Array.replicate_succ, Array.replicate_zero, List.push_toArray, List.append_toArray, List.nil_append, List.cons_append]
  gi_wp2
  gi_loopw [7] (fun i wr => ∃ j : Nat, j ≤ es.length ∧ i = .int .i64 j ∧ Hid (J (es.take j) wr)) (fun i _ => es.length - (intOf i).toNat)
  case atStart => exact ⟨0, Nat.zero_le _, rfl, H0⟩
  case round =>
    clear hb H0
    obtain ⟨j, hj, rfl, HK⟩ := hrel
    by_cases hlt : j < es.length
    · obtain ⟨b, o, rfl, hent⟩ := (HJB.out _ _ HK.out).at (by omega)
      obtain ⟨x, hx⟩ : ∃ x, es[j]? = some x := ⟨_, List.getElem?_eq_getElem hlt⟩
      have hxe : es = es.take j ++ x :: es.drop (j + 1) := by
        rw [List.getElem?_eq_getElem hlt] at hx
        injection hx with hx
        rw [← hx, ← List.drop_eq_getElem_cons hlt, List.take_append_drop]
      obtain ⟨y0, y1⟩ := hent j x hx
      have i8 : (j : Int) < (es.length : Int) := by omega
      have htk : es.take (j + 1) = es.take j ++ [x] := by
        rw [List.take_succ_eq_append_getElem hlt]
        rw [List.getElem?_eq_getElem hlt] at hx
        injection hx with hx
        rw [hx]
      obtain ⟨fn, tmps, assign, body, hy, hR⟩ := HY.out (es.take j) x (es.drop (j + 1)) (wr.alloc (.cells #[.string x.key, .string x.text] 50)) hxe (HJ.out _ _ _ HK.out ((by (repeat (first | with_reducible exact Below.refl _ _ | with_reducible refine bel_set ?_ ?_ | with_reducible refine bel_alloc ?_ ?_ | with_reducible refine Below.drew ?_ | with_reducible refine bel_drewN _ ?_ | with_reducible refine bel_call ?_ (by assumption) ?_)); all_goals (first | (simp; done) | omega | (simp; omega)))))
      have HTK := Lib.hid htk
      clear hent hx hxe htk
      gi_wp2
      refine hR.mono ?_
      rintro e W3 ⟨rfl, hJ3⟩
      have HJ3 := Lib.hid hJ3
      clear hJ3
      gi_wp2
      go_roundw
      case rel => exact ⟨j + 1, hlt, by congr 1, Lib.hid (by rw [HTK.out]; exact HJ3.out)⟩
      case measure => simp only [intOf]; omega
    · obtain rfl : j = es.length := by omega
      have HKE : Hid (J es wr) := Lib.hid (by have := HK.out; rwa [List.take_length] at this)
      gi_wp2
      go_end0
      exact ⟨⟨_, rfl⟩, HKE.out⟩
end Go.Proofs.YtnhlnhmjnnopaaaGreatDoor

/- 'for x := range slices.Values(es)': the law of the statement, outermost. -/
namespace Go.Proofs.YtnhlnhmjnnopaaaGreatDoor
open Go.RowKit Go.Shelf

/-- how a round's body is left -/
def valuesPost (K : World → Prop) : Exit → Act → World → Prop
  | .normal, _, W' => K W'
  | _, _, _ => False
theorem wp_values {p : Tmp} {assign body : Code} {Q : Exit → Act → World → Prop} {a : Act} {w : World} {g : Operand} (vb : Nat) (A : Option Addr) (c : Nat) (es : List EntC) (hz : es.length ≤ 9000000000000000000)
    (hg : a.eval g = .func (.func 48) #[] #[.pointer (some ⟨vb, 0, none⟩)])
    (hb : w.cell? ⟨vb, 0, none⟩ = some (.slice A es.length c))
    (I : List EntC → World → Prop) (hI : ∀ pre W W', I pre W → Below W.heap.size W W' → I pre W') (hIE : ∀ pre W, I pre W → EntsIn W A es)
    (hIp : ∀ pre W l r r', I pre W → w.heap.size ≤ l → W.heap[l]? = some (.loop r) → I pre (W.putObj l (.loop r'))) (h0 : I [] w)
    (hround : ∀ (l D : Nat) (pre : List EntC) (x : EntC) (post : List EntC) (W : World) (r0 : Loop), es = pre ++ x :: post → w.heap.size ≤ D → l = D + 1 → W.heap[l]? = some (.loop r0) → W.heap[D]? = some (.deferred (some [])) → I pre W →
      assign.wpIn (Fence.wide.inRound l) 7 Tryz.prog (Exit.then (fun a' W' => W'.heap[l]? = some (.loop r0) ∧ ∀ r, body.wpIn (Fence.wide.inRound l) 7 Tryz.prog (valuesPost fun W3 => I (pre ++ [x]) W3 ∧ W3.heap[l]? = some (.loop r) ∧ W3.heap[D]? = some (.deferred (some []))) a' (W'.putObj l (.loop r))) (fun _ _ _ => False))
        { tmps := ((#[p] : Array Tmp).zip #[entV x]).foldl (fun t (p, v) => t.setIfInBounds p v) a.tmps, defers := [] } W)
    (hdone : ∀ (D : Nat) (W : World), w.heap.size ≤ D → I es W → W.heap[D]? = some (.deferred (some [])) → Q .normal { a with defers := { target := .collected D, args := #[] } :: a.defers } W) :
    (Code.rangeFunc g #[p] assign body).wp Tryz.prog Q a w := by
  refine (wpIn_wide (n := 9)).1 ?_
  refine wpIn_rangeFunc ?_
  intro fn hfn
  obtain ⟨rec, hrec⟩ : ∃ rec : LoopState → Option Code → Loop, rec = fun st pe => { state := st, pending := pe, fn, tmps := a.tmps, params := #[p], assign, body, defers := w.heap.size } := ⟨_, rfl⟩
  obtain ⟨W1, hW1⟩ : ∃ W1, (w.alloc (.deferred (some []))).alloc (.loop (rec .ready none)) = W1 := ⟨_, rfl⟩
  have hL1 : W1.heap[w.heap.size + 1]? = some (.loop (rec .ready none)) := by
    rw [← hW1]; have := World.alloc_heap_new (w.alloc (.deferred (some []))) (.loop (rec .ready none)); rwa [World.size_alloc] at this
  have hK1 : W1.heap[w.heap.size]? = some (.deferred (some [])) := by
    rw [← hW1]; exact (Below.heap_alloc _ _ _ (by simp)).trans (World.alloc_heap_new w _)
  have hB1 : Below w.heap.size w W1 := by rw [← hW1]; exact (by (repeat (first | with_reducible exact Below.refl _ _ | with_reducible refine bel_set ?_ ?_ | with_reducible refine bel_alloc ?_ ?_ | with_reducible refine Below.drew ?_ | with_reducible refine bel_drewN _ ?_ | with_reducible refine bel_call ?_ (by assumption) ?_)); all_goals (first | (simp; done) | omega | (simp; omega)))
  have hI1 : I [] W1 := hI _ _ _ h0 hB1
  have hb1 := carry hB1 hb
  refine ⟨w.heap.size + 1, [{ target := .collected w.heap.size, args := #[] }], W1, { target := .fn (.func 48) #[.pointer (some ⟨vb, 0, none⟩)], args := #[.func (.yield (w.heap.size + 1)) #[] #[]] }, W1, 48,
    #[.func (.yield (w.heap.size + 1)) #[] #[]] ++ #[.pointer (some ⟨vb, 0, none⟩)], W1, ?_, ?_, ?_, ?_, (fun _ => by omega), ?_⟩
  · rw [← hW1, hrec]; exact run_enterLoop_outer _ _ _ _ _
  · simp only [resolve, hg]
    simp [go_sem]
  · intro f' _; trivial
  · simp [invoke, go_sem, enters_of Tryz.func48 (by kernel_rfl) rfl]
  · refine (values_iter 8 (w.heap.size + 1) vb (by omega) A c es
      (fun pre W => I pre W ∧ W.heap[w.heap.size + 1]? = some (.loop (rec .ready none)) ∧ W.heap[w.heap.size]? = some (.deferred (some []))) ?_ ?_ ?_ hz W1 hb1 ⟨hI1, hL1, hK1⟩).mono ?_
    · rintro pre W W' ⟨hi, hl, hk⟩ hB
      exact ⟨hI _ _ _ hi hB, (hB.block _ (Array.getElem?_eq_some_iff.1 hl).1).trans hl, (hB.block _ (Array.getElem?_eq_some_iff.1 hk).1).trans hk⟩
    · rintro pre W ⟨hi, hl, hk⟩
      exact hIE _ _ hi
    · -- one round
      rintro pre x post W hps ⟨hi, hl, hk⟩
      have hlt : w.heap.size + 1 < W.heap.size := (Array.getElem?_eq_some_iff.1 hl).1
      have hy := run_yield (P := Tryz.prog) (args := #[entV x]) hl (by rw [hrec]; rfl)
      rw [hrec] at hy
      refine ⟨fn, _, assign, body, hy, roundIn_of_wpIn hfn (wpIn_mono (hround _ w.heap.size pre x post W _ hps (Nat.le_refl _) rfl hl hk hi) ?_)⟩
      rintro e0 a0 W0 hp0
      cases e0 with
      | ret => exact hp0.elim
      | exit id => exact hp0.elim
      | goto t => exact hp0.elim
      | panic ch => exact hp0.elim
      | outgrown => exact hp0.elim
      | normal =>
      obtain ⟨hl0, hbody⟩ := hp0
      refine ⟨_, run_beginRound hl0 (by rw [hrec]), ?_⟩
      refine wpIn_mono (hbody _) ?_
      rintro e a3 W3 hp
      cases e with
      | normal =>
        obtain ⟨hi3, hl3, hk3⟩ := hp
        have hlt3 := (Array.getElem?_eq_some_iff.1 hl3).1
        have hend := run_endRound (P := Tryz.prog) none hl3
        have hend2 : (Instr.endRound (w.heap.size + 1) none).run Tryz.prog W3 = .ok (.bool true) (W3.putObj (w.heap.size + 1) (.loop (rec .ready none))) := by
          rw [hend, hrec]
          rfl
        exact ⟨_, _, hend2, rfl, hIp _ _ _ _ _ hi3 (by omega) hl3, World.putObj_heap_same hlt3, (World.putObj_heap_other (by omega)).trans hk3⟩
      | ret => exact hp.elim
      | exit id => exact hp.elim
      | goto t => exact hp.elim
      | panic ch => exact hp.elim
      | outgrown => exact hp.elim
    · rintro e W2 ⟨⟨v, rfl⟩, hi, hl, hk⟩
      exact ⟨none, _, by have := run_endLoop (P := Tryz.prog) hl (by rw [hrec]; simp); rw [hrec] at this; exact this, hdone _ _ (Nat.le_refl _) (hIp _ _ _ _ _ hi (by omega) hl) ((World.putObj_heap_other (by omega)).trans hk)⟩
end Go.Proofs.YtnhlnhmjnnopaaaGreatDoor

/- slices.Values, AppendSeq, Collect at entries. -/
namespace Go.Proofs.YtnhlnhmjnnopaaaGreatDoor
open Go.RowKit Go.Shelf
attribute [local go_sem] Oper.semAt_some

theorem values_mk (A : Option Addr) (n c : Nat) (w : World) : Calls Tryz.prog 17 #[.slice A n c] w fun e w' =>
    e = .returned (.func (.func 48) #[] #[.pointer (some ⟨w.heap.size, 0, none⟩)]) ∧ w' = w.alloc (.cells #[.slice A n c] 22) := by
  have hmf : ∀ (fn : Fn) (first cap : Array Value) (w : World), (Instr.makeFunc fn first cap).run Tryz.prog w = .ok (.func fn first cap) w := fun _ _ _ _ => rfl
  go_enter Tryz.func17, Tryz.ntmps17
  go_wp2_with fail
  go_ret
  exact ⟨rfl, rfl⟩

/-- what is put together so far -/
structure ApE (w : World) (sb : Nat) (pre : List EntC) (W : World) : Prop where
  box : ∃ v, W.cell? ⟨sb, 0, none⟩ = some v ∧ OwnsG kEnt W w.heap.size v pre
  ty : TyAt W sb 22
  below : Below w.heap.size w W

theorem off_putObj (W : World) (l : Nat) (o : Obj) : Off [l] W (W.putObj l o) := ⟨rfl, rfl, rfl, by simp, fun k _ hm => World.putObj_heap_other (fun e => hm (by simp [e]))⟩
theorem ApE.put {w W : World} {sb l : Nat} {pre : List EntC} {r r' : Loop} (h : ApE w sb pre W) (hl : w.heap.size ≤ l) (hr : W.heap[l]? = some (.loop r)) : ApE w sb pre (W.putObj l (.loop r')) := by
  obtain ⟨⟨v, h1, h2⟩, h3, h5⟩ := h
  have hf := off_putObj W l (.loop r')
  have hne : sb ∉ [l] := fun e => by
    simp only [List.mem_singleton] at e
    subst e
    obtain ⟨cur, hc⟩ := h3
    rw [hr] at hc
    cases hc
  refine ⟨⟨v, hf.cell h1 hne, h2.off hf (fun g hg hm => ?_)⟩, h3.off hf hne, h5.trans (hf.toBelow (fun k hk => by simp at hk; omega) h5.size)⟩
  simp only [List.mem_singleton] at hm
  subst hm
  obtain ⟨_, cur, hc⟩ := h2.block g (by simp [hg])
  rw [hr] at hc
  cases hc

/-- one append, stored into the box -/
theorem ApE.more {w Wb Wc w8 : World} {sb l D : Nat} {pre : List EntC} {x : EntC} {v v' : Value} {r : Loop} (hBc : Below Wb.heap.size Wb Wc) (hc0 : Wb.cell? ⟨sb, 0, none⟩ = some v) (hO : OwnsG kEnt Wb w.heap.size v pre) (hT : TyAt Wb sb 22) (hsb : w.heap.size ≤ sb)
    (hBW : Below w.heap.size w Wb) (hL : Wb.heap[l]? = some (.loop r)) (hK : Wb.heap[D]? = some (.deferred (some []))) (h8 : OwnsG kEnt w8 w.heap.size v' (pre ++ [x])) (hF : Off v.ownBlock.toList Wc w8) :
    w8.cell? ⟨sb, 0, none⟩ = some v ∧ w8.frozen? ⟨sb, 0, none⟩ = false ∧ ApE w sb (pre ++ [x]) (w8.setCell ⟨sb, 0, none⟩ v') ∧ (w8.setCell ⟨sb, 0, none⟩ v').heap[l]? = some (.loop r) ∧ (w8.setCell ⟨sb, 0, none⟩ v').heap[D]? = some (.deferred (some [])) := by
  have hl := (Array.getElem?_eq_some_iff.1 hL).1
  have hd := (Array.getElem?_eq_some_iff.1 hK).1
  have n1 : sb ∉ v.ownBlock.toList := hT.not hO (by decide)
  have n2 : l ∉ v.ownBlock.toList := fun hm => by
    obtain ⟨_, cur, hc⟩ := hO.block l hm
    rw [hL] at hc; cases hc
  have n3 : D ∉ v.ownBlock.toList := fun hm => by
    obtain ⟨_, cur, hc⟩ := hO.block D hm
    rw [hK] at hc; cases hc
  have m1 : l ≠ sb := fun e => by
    subst e
    obtain ⟨cur, hc⟩ := hT
    rw [hL] at hc; cases hc
  have m2 : D ≠ sb := fun e => by
    subst e
    obtain ⟨cur, hc⟩ := hT
    rw [hK] at hc; cases hc
  have hT8 : TyAt w8 sb 22 := (hT.below hBc).off hF n1
  have c8 := hF.cell (carry hBc hc0) n1
  have hL8 := (hF.block l (Nat.lt_of_lt_of_le hl hBc.size) n2).trans ((hBc.block l hl).trans hL)
  have hK8 := (hF.block D (Nat.lt_of_lt_of_le hd hBc.size) n3).trans ((hBc.block D hd).trans hK)
  have hB8 : Below w.heap.size w w8 := (hBW.trans (hBc.mono hBW.size)).trans (hF.toBelow (fun k hk => (hO.block k hk).1) (Nat.le_trans hBW.size hBc.size))
  have hn : sb ∉ v'.ownBlock.toList := hT8.not h8 (by decide)
  have hf8 : Off [sb] w8 (w8.setCell ⟨sb, 0, none⟩ v') := (Off.refl [sb] w8).setCell _ _ (by simp)
  refine ⟨c8, hT8.frozen 0, ⟨⟨v', cell_same c8, h8.off hf8 (fun g hg hm => ?_)⟩, hT8.set _ _ _, hB8.trans (hf8.toBelow (fun k hk => by simp at hk; omega) hB8.size)⟩, ?_, ?_⟩
  · simp only [List.mem_singleton] at hm
    subst hm
    exact hn (by simp [hg])
  · exact (hf8.block l (Array.getElem?_eq_some_iff.1 hL8).1 (by simp [m1])).trans hL8
  · exact (hf8.block D (Array.getElem?_eq_some_iff.1 hK8).1 (by simp [m2])).trans hK8
set_option maxHeartbeats 4000000 in
set_option maxRecDepth 100000 in
theorem append_seq (A : Option Addr) (c vb : Nat) (es : List EntC) (w : World) (hE : EntsIn w A es) (hz : es.length ≤ 1000000000) (hb : w.cell? ⟨vb, 0, none⟩ = some (.slice A es.length c)) :
    Calls Tryz.prog 73 #[.slice none 0 0, .func (.func 48) #[] #[.pointer (some ⟨vb, 0, none⟩)]] w fun e w' =>
      ∃ v, e = .returned v ∧ OwnsG kEnt w' w.heap.size v es ∧ Below w.heap.size w w' := by
  have HE := Lib.hid hE
  have HB := Lib.hid hb
  clear hE hb
  refine (callsIn_wide (n := 9)).1 ?_
  refine callsIn_of_wp_marks Tryz.func73 rfl trivial ?_ rfl
  simp only [Tryz.ntmps73, List.size_toArray, List.length_cons, List.length_nil, Nat.reduceAdd, Nat.reduceSub, Array.replicate_succ, Array.replicate_zero, List.push_toArray, List.append_toArray, List.nil_append, List.cons_append]
  refine (wpIn_wide).2 ?_
  go_wp2_with fail
  obtain ⟨wc, hwc⟩ : ∃ wc, wc = w.alloc (.cells #[.slice none 0 0] 22) := ⟨_, rfl⟩
  have hbc : Below w.heap.size w wc := by rw [hwc]; exact (by (repeat (first | with_reducible exact Below.refl _ _ | with_reducible refine bel_set ?_ ?_ | with_reducible refine bel_alloc ?_ ?_ | with_reducible refine Below.drew ?_ | with_reducible refine bel_drewN _ ?_ | with_reducible refine bel_call ?_ (by assumption) ?_)); all_goals (first | (simp; done) | omega | (simp; omega)))
  have hsc : wc.heap.size = w.heap.size + 1 := by rw [hwc]; simp
  have h00 : ApE w w.heap.size [] wc := ⟨⟨_, by rw [hwc]; go_simp, OwnsG.nil _ _⟩, by rw [hwc]; exact TyAt.new _ _ _, hbc⟩
  have hcb : wc.cell? ⟨vb, 0, none⟩ = some (.slice A es.length c) := carry hbc HB.out
  rw [← hwc]
  clear hwc
  refine wp_values vb A c es (by omega) rfl hcb (ApE w w.heap.size) ?hI ?hIE ?hIp h00 ?round ?done
  case hI =>
    rintro pre W W' ⟨⟨v, h1, h2⟩, h3, h5⟩ hB
    exact ⟨⟨v, carry hB h1, h2.below hB⟩, h3.below hB, h5.trans (hB.mono h5.size)⟩
  case hIE => exact fun pre W h => HE.out.below h.below
  case hIp => exact fun pre W l r r' h hl hr => h.put (by omega) hr
  case round =>
    intro l D pre x post W r0 hps hD hl hL hK hI
    have hWl : l < W.heap.size := (Array.getElem?_eq_some_iff.1 hL).1
    have hpl : pre.length + 1 ≤ es.length := by rw [hps]; simp
    have hBa : Below W.heap.size W (W.alloc (.cells #[.string x.key, .string x.text] 50)) := (by (repeat (first | with_reducible exact Below.refl _ _ | with_reducible refine bel_set ?_ ?_ | with_reducible refine bel_alloc ?_ ?_ | with_reducible refine Below.drew ?_ | with_reducible refine bel_drewN _ ?_ | with_reducible refine bel_call ?_ (by assumption) ?_)); all_goals (first | (simp; done) | omega | (simp; omega)))
    have hIa : ApE w w.heap.size pre (W.alloc (.cells #[.string x.key, .string x.text] 50)) := by
      obtain ⟨⟨v, h1, h2⟩, h3, h5⟩ := hI
      exact ⟨⟨v, carry hBa h1, h2.below hBa⟩, h3.below hBa, h5.trans (hBa.mono h5.size)⟩
    have hLa := (hBa.block _ hWl).trans hL
    have hKa := (hBa.block _ (Array.getElem?_eq_some_iff.1 hK).1).trans hK
    have HFA := Lib.hid (And.intro hIa (And.intro hLa hKa))
    clear hI hL hK hIa hLa hKa hBa hcb h00
    gi_wp2
    refine ⟨HFA.out.2.1, fun r => ?_⟩
    obtain ⟨Wb, hWb⟩ : ∃ Wb, Wb = (W.alloc (.cells #[.string x.key, .string x.text] 50)).putObj l (.loop r) := ⟨_, rfl⟩
    have hIb : ApE w w.heap.size pre Wb := by rw [hWb]; exact HFA.out.1.put (by omega) HFA.out.2.1
    have hLb : Wb.heap[l]? = some (.loop r) := by rw [hWb]; exact World.putObj_heap_same (by simp; omega)
    have hKb : Wb.heap[D]? = some (.deferred (some [])) := by rw [hWb]; exact (World.putObj_heap_other (by omega)).trans HFA.out.2.2
    have hof := off_putObj (W.alloc (.cells #[.string x.key, .string x.text] 50)) l (.loop r)
    rw [← hWb] at hof
    have q0 : Wb.cell? ⟨W.heap.size, 0, none⟩ = some (.string x.key) := hof.cell (by go_simp) (by simp; omega)
    have q1 : Wb.cell? ⟨W.heap.size, 1, none⟩ = some (.string x.text) := hof.cell (by go_simp) (by simp; omega)
    rw [← hWb]
    clear hWb hof HFA
    obtain ⟨⟨v, c0, hO⟩, hT, hBW⟩ := hIb
    have f0 := hT.frozen 0
    have s0 := lt_of_cell c0
    have s1 := lt_of_cell q0
    obtain ⟨A1, c1, rfl, _⟩ := hO.form
    have HO := Lib.hid hO
    have hBc : Below Wb.heap.size Wb (Wb.alloc (.cells #[.string x.key, .string x.text] 50)) := (by (repeat (first | with_reducible exact Below.refl _ _ | with_reducible refine bel_set ?_ ?_ | with_reducible refine bel_alloc ?_ ?_ | with_reducible refine Below.drew ?_ | with_reducible refine bel_drewN _ ?_ | with_reducible refine bel_call ?_ (by assumption) ?_)); all_goals (first | (simp; done) | omega | (simp; omega)))
    have HEND := Lib.hid (fun (v' : Value) (w8 : World) (h8 : OwnsG kEnt w8 w.heap.size v' (pre ++ [x])) (hF : Off (Value.slice A1 pre.length c1).ownBlock.toList (Wb.alloc (.cells #[.string x.key, .string x.text] 50)) w8) => ApE.more hBc c0 hO hT (Nat.le_refl _) hBW hLb hKb h8 hF)
    have HSZ : Hid (w.heap.size ≤ (Wb.alloc (.cells #[.string x.key, .string x.text] 50)).heap.size) := Lib.hid (Nat.le_trans hBW.size hBc.size)
    have HOA := Lib.hid (hO.below hBc)
    have X0 : Hid (∀ i u, (kEnt.cells x)[i]? = some u → (Wb.alloc (.cells #[.string x.key, .string x.text] 50)).cell? ⟨Wb.heap.size, i, none⟩ = some u) := Lib.hid (fun i u hu => by
      match i, u, hu with
      | 0, _, hu => injection hu with hu; subst hu; go_simp
      | 1, _, hu => injection hu with hu; subst hu; go_simp)
    have hn8 : (pre.length + 1) * kEnt.bytes ≤ 140737488355328 := by show (pre.length + 1) * 32 ≤ _; omega
    have hn9 : pre.length + 1 ≤ 9223372036854775807 := by omega
    clear hO hLb hKb hT hBW hBc HO
    gi_wp2_with (gi_at_builtin; go_loud (refine wpListIn_append_g (k := kEnt) rfl _ _ rfl (base := w.heap.size) (v := .slice A1 pre.length c1) (b := Wb.heap.size) (c := 1) (ts := pre) x rfl rfl HOA.out X0.out HSZ.out hn8 hn9 ?_; intro v' w8 h8 hF; have hend := HEND.out v' w8 h8 hF; obtain ⟨A8, c8, rfl, _⟩ := h8.form; have d4 := hend.1; have f4 := hend.2.1; have HE8 := Lib.hid hend.2.2; clear h8 hF hend))
    have h9 := HE8.out
    rw [List.length_append, List.length_singleton] at h9
    exact h9
  case done =>
    rintro D W hD hI hK
    obtain ⟨⟨v, c0, hO⟩, hT, hBW⟩ := hI
    have HR := Lib.hid (And.intro hK (And.intro hO hBW))
    clear hK hO hT hBW
    go_wp2_with fail
    obtain ⟨g1, g2, g3⟩ := HR.out
    have hof := off_putObj W D (.deferred none)
    refine ⟨by simp, .inl ⟨_, _, rfl, run_takeDeferred g1, ?_⟩⟩
    refine ⟨_, results_tmp rfl _ _ _, v, rfl, g2.off hof (fun g hg hm => ?_), g3.trans (hof.toBelow (fun k hk => by simp at hk; omega) g3.size)⟩
    simp only [List.mem_singleton] at hm
    subst hm
    obtain ⟨_, cur, hc⟩ := g2.block g (by simp [hg])
    rw [g1] at hc
    cases hc

set_option maxHeartbeats 1000000 in
theorem collect_ent (A : Option Addr) (c vb : Nat) (es : List EntC) (w : World) (hE : EntsIn w A es) (hz : es.length ≤ 1000000000) (hb : w.cell? ⟨vb, 0, none⟩ = some (.slice A es.length c)) :
    Calls Tryz.prog 46 #[.func (.func 48) #[] #[.pointer (some ⟨vb, 0, none⟩)]] w fun e w' =>
      ∃ v, e = .returned v ∧ OwnsG kEnt w' w.heap.size v es ∧ Below w.heap.size w w' := by
  have HK := Lib.hid (append_seq A c vb es w hE hz hb)
  clear hE hb
  go_enter Tryz.func46, Tryz.ntmps46
  go_wp2_with fail
  refine HK.out.mono ?_
  rintro e w1 ⟨v, rfl, h1, h2⟩
  obtain ⟨A1, c1, rfl, _⟩ := h1.form
  have H1 := Lib.hid h1
  clear h1
  go_wp2_with fail
  go_ret
  exact ⟨_, rfl, H1.out, h2⟩
end Go.Proofs.YtnhlnhmjnnopaaaGreatDoor
