/- rule.Parse: what its two loops keep. -/
import Derived.Test.YtkklemhhimcahaaGreatDoorRuleParse
namespace Go.Proofs.YtkklemhhimcahaaGreatDoor
open Go.RowKit Go.Shelf

def andS : ByteArray := ⟨#[32, 97, 110, 100, 32]⟩
def orS : ByteArray := ⟨#[32, 111, 114, 32]⟩
def partB (s : ByteArray) : List RelC := (pieces andS s).map parsedB
def parseB (s : ByteArray) : RuleC := (pieces orS s).map partB

theorem rangeB_bd (s : ByteArray) : (-9223372036854775808 ≤ (rangeB s).1 ∧ (rangeB s).1 ≤ 9223372036854775807) ∧ (-9223372036854775808 ≤ (rangeB s).2 ∧ (rangeB s).2 ≤ 9223372036854775807) := by
  unfold rangeB
  split <;> exact ⟨numberB_bd _, numberB_bd _⟩
theorem mdB_bd (s : ByteArray) : -9223372036854775808 ≤ mdB s ∧ mdB s ≤ 9223372036854775807 := by
  unfold mdB
  split
  · exact numberB_bd _
  · omega
theorem parsed_held {W : World} {lo : Nat} {d : RelD} {s : ByteArray} (hd : d.c = parsedB s) (hO : OwnsG kRng W lo (.slice d.A d.c.rs.length d.n) d.c.rs) : Held W lo W.heap.size [103] d.fits := by
  refine rel_held hO ?_ ?_
  · rw [hd]; exact mdB_bd _
  · rw [hd]
    intro p hp
    obtain ⟨x, _, rfl⟩ := List.mem_map.1 hp
    exact rangeB_bd x

/-- what the outer loop has made so far -/
def OB (b4 B4 hi : Nat) (v : Value) (ps : List PartD) (W : World) : Prop :=
  Boxed W b4 25 v ∧ OwnsG kPart W B4 v ps ∧ (∀ g ∈ v.ownBlock.toList, g < hi) ∧ ∀ p ∈ ps, Held W B4 hi [24, 103] p.fits
theorem OB.kept {b4 B4 hi : Nat} {v : Value} {ps : List PartD} {W W' : World} (h : OB b4 B4 hi v ps W) (hb : b4 < hi) (hk : ∀ k cur t, k < hi → W.heap[k]? = some (.cells cur t (0, 0)) → W'.heap[k]? = W.heap[k]?) : OB b4 B4 hi v ps W' :=
  ⟨(hk _ _ _ hb h.1).trans h.1, h.2.1.kept fun g cur hg hc => hk g cur _ (h.2.2.1 g (by rw [hg]; simp)) hc, h.2.2.1, fun p hp => (h.2.2.2 p hp).kept fun k cur t _ h2 _ h4 => hk k cur t h2 h4⟩

/-- the inner loop's invariant -/
def QI (w W2 : World) (b4 B4 hi : Nat) (v4 : Value) (ps : List PartD) (b6 B6 : Nat) (pre : List ByteArray) (W : World) : Prop :=
  (∃ (A : Option Addr) (n : Nat) (ds : List RelD), ds.map RelD.c = pre.map parsedB ∧ Boxed W b6 32 (.slice A ds.length n) ∧ OwnsG kRel W B6 (.slice A ds.length n) ds ∧ ∀ d ∈ ds, Held W B6 W.heap.size [103] d.fits) ∧
    OB b4 B4 hi v4 ps W ∧ Below w.heap.size w W ∧ Keep B4 [] W2 W

theorem Boxed.size' {W : World} {k : Nat} {t : TypeId} {v : Value} (h : Boxed W k t v) : k < W.heap.size := (Array.getElem?_eq_some_iff.1 h).1

theorem qi_turn {w W2 W W' : World} {b4 B4 hi : Nat} {v4 : Value} {ps : List PartD} {b6 B6 bs : Nat} {pre : List ByteArray} (h : QI w W2 b4 B4 hi v4 ps b6 B6 pre W) (ht : Turn B6 bs W W')
    (h1 : hi ≤ bs) (h2 : b6 ≠ bs) (h3 : bs < B6) (h4 : w.heap.size ≤ hi) (h5 : W2.heap.size ≤ bs) (h6 : b4 < hi) : QI w W2 b4 B4 hi v4 ps b6 B6 pre W' := by
  obtain ⟨⟨A, n, ds, g1, g2, g3, g4⟩, g5, g6, g7⟩ := h
  refine ⟨⟨A, n, ds, g1, ht.boxed h2 g2, g3.turn ht h3, fun d hd => ?_⟩, ?_, Below.turn g6 ht (by omega) (by omega) (Nat.le_refl _), g7.turn ht h5 (by omega)⟩
  · exact (g4 d hd).lt ht.size fun k cur t k1 _ _ k4 => (ht.block k _ k4 (by omega) (.inr rfl)).trans k4.symm
  · exact g5.kept h6 fun k cur t k1 k2 => (ht.block k _ k2 (by omega) (.inr rfl)).trans k2.symm

theorem Keep.new {B : Nat} {L : List Nat} {W W1 : World} (h : Keep B L W W1) {b : Nat} (hb : W.heap.size ≤ b) (o : Nat) (u : Value) : Keep B L W (W1.setCell ⟨b, o, none⟩ u) :=
  ⟨by have := h.size; simpa using this, fun k o' hk hl hor => by
    have h1 := h.block k o' hk hl hor
    have hlt := (Array.getElem?_eq_some_iff.1 hk).1
    exact (Below.heap_setCell W1 ⟨b, o, none⟩ u k (by show k ≠ b; omega)).trans h1⟩
theorem Boxed.set' {W : World} {k : Nat} {t : TypeId} {v : Value} (h : Boxed W k t v) (u : Value) : Boxed (W.setCell ⟨k, 0, none⟩ u) k t u := set_block h

/-- the world behind a turn of the inner loop -/
theorem qi_end {w W2 V V3 V4 : World} {b4 B4 hi : Nat} {v4 : Value} {ps : List PartD} {b6 B6 : Nat} {pre : List ByteArray} {x : ByteArray} {A : Option Addr} {n : Nat} {ds : List RelD} {d : RelD} {v' : Value}
    (g1 : ds.map RelD.c = pre.map parsedB) (g2 : Boxed V b6 32 (.slice A ds.length n)) (g3 : OwnsG kRel V B6 (.slice A ds.length n) ds) (g4 : ∀ d ∈ ds, Held V B6 V.heap.size [103] d.fits)
    (g5 : OB b4 B4 hi v4 ps V) (g6 : Below w.heap.size w V) (g7 : Keep B4 [] W2 V)
    (h1 : hi ≤ b6) (h2 : b6 < B6) (h3 : w.heap.size ≤ hi) (h4 : W2.heap.size ≤ hi) (h5 : b4 < hi) (h6 : B6 ≤ V.heap.size) (h7 : B4 ≤ B6)
    (hd : d.c = parsedB x) (hB : Below V.heap.size V V3) (hO : Held V3 V.heap.size V3.heap.size [103] d.fits) (hA : OwnsG kRel V4 B6 v' (ds ++ [d])) (hF : Off (Value.slice A ds.length n).ownBlock.toList V3 V4) :
    Boxed V4 b6 32 (.slice A ds.length n) ∧ Keep B6 [b6] V (V4.setCell ⟨b6, 0, none⟩ v') ∧ QI w W2 b4 B4 hi v4 ps b6 B6 (pre ++ [x]) (V4.setCell ⟨b6, 0, none⟩ v') := by
  have hblk := g3.block
  have hb6 : b6 ∉ (Value.slice A ds.length n).ownBlock.toList := fun h => by have := (hblk b6 h).1; omega
  have hlt6 := Boxed.size' g2
  have r1 : Boxed V4 b6 32 (.slice A ds.length n) := (hF.block b6 (by have := hB.size; omega) hb6).trans ((hB.block b6 hlt6).trans g2)
  have hsz := hB.size
  have hsz2 := hF.size
  -- blocks that stay: of V, of no row of the inner loop's own
  have keep : ∀ k cur t, V.heap[k]? = some (.cells cur t (0, 0)) → (k < B6 ∨ t ≠ 24) → k ≠ b6 → (V4.setCell ⟨b6, 0, none⟩ v').heap[k]? = V.heap[k]? := by
    intro k cur t hk hor hne
    have hlt := (Array.getElem?_eq_some_iff.1 hk).1
    refine (Below.heap_setCell V4 ⟨b6, 0, none⟩ v' k hne).trans ((hF.block k (by omega) (fun hm => ?_)).trans (hB.block k hlt))
    obtain ⟨k1, cur', k2⟩ := hblk k hm
    rw [hk] at k2
    rcases hor with h | h
    · omega
    · cases k2; exact h rfl
  have hB4 : Below w.heap.size w V4 := Below.trans (g6.trans (hB.mono g6.size)) (hF.toBelow (fun k hk => by have := (hblk k hk).1; omega) (by have := g6.size; omega))
  refine ⟨r1, ?_, ?_⟩
  · refine Keep.set ?_ b6 0 v' (by simp)
    refine Keep.row ((Keep.refl B6 [b6] V).below hB (Nat.le_refl _)) hF (fun k hk _ => ?_)
    obtain ⟨k1, cur, k2⟩ := hblk k hk
    exact ⟨k1, fun o ho => by rw [k2] at ho; cases ho; rfl⟩
  · obtain ⟨A', c, rfl, _⟩ := hA.form
    refine ⟨⟨A', c, ds ++ [d], by rw [List.map_append, List.map_append, g1, List.map_cons, List.map_nil, hd]; rfl, Boxed.set' r1 _, ?_, ?_⟩, ?_, ?_, ?_⟩
    · refine hA.kept (fun g cur hg _ => Below.heap_setCell V4 ⟨b6, 0, none⟩ _ g (fun e => ?_))
      have := (hA.block g (by rw [hg]; simp)).1
      simp at e
      omega
    · intro e he
      have hs4 : (V4.setCell ⟨b6, 0, none⟩ (Value.slice A' (ds ++ [d]).length c)).heap.size = V4.heap.size := by simp
      rcases List.mem_append.1 he with he | he
      · refine ((g4 e he).kept (W' := V4.setCell ⟨b6, 0, none⟩ (Value.slice A' (ds ++ [d]).length c)) fun k cur t k1 k2 k3 k4 => keep k cur t k4 (.inr (by simp at k3; subst k3; decide)) (by omega)).mono (Nat.le_refl _) (by omega) (fun _ h => h) fun _ h => h
      · obtain rfl : e = d := by simpa using he
        refine (hO.kept (W' := V4.setCell ⟨b6, 0, none⟩ (Value.slice A' (ds ++ [e]).length c)) fun k cur t k1 k2 k3 k4 => ?_).mono h6 (by omega) (fun _ h => h) fun _ h => h
        refine (Below.heap_setCell V4 ⟨b6, 0, none⟩ _ k (by show k ≠ b6; omega)).trans (hF.block k (by omega) (fun hm => ?_))
        have := (hblk k hm).2
        obtain ⟨cur', k5⟩ := this
        have := (Array.getElem?_eq_some_iff.1 k5).1
        omega
    · exact g5.kept h5 fun k cur t k1 k2 => keep k cur t k2 (.inl (by omega)) (by omega)
    · exact hB4.setCell (by show w.heap.size ≤ b6; omega) _
    · refine Keep.new ?_ (by omega) 0 _
      refine Keep.row (g7.below hB (by have := g7.size; omega)) hF (fun k hk _ => ?_)
      obtain ⟨k1, cur, k2⟩ := hblk k hk
      have := g7.size
      refine ⟨?_, fun o ho => ?_⟩
      · omega
      · have := (Array.getElem?_eq_some_iff.1 ho).1
        omega

/-- the outer loop's invariant -/
def PO (w : World) (b4 B4 : Nat) (pre : List ByteArray) (W : World) : Prop :=
  ∃ (A : Option Addr) (n : Nat) (ps : List PartD), ps.map PartD.c = pre.map partB ∧ OB b4 B4 W.heap.size (.slice A ps.length n) ps W ∧ Below w.heap.size w W

theorem po_turn {w W W' : World} {b4 B4 bs : Nat} {pre : List ByteArray} (h : PO w b4 B4 pre W) (ht : Turn B4 bs W W') (h1 : b4 ≠ bs) (h2 : bs < B4) (h3 : w.heap.size ≤ bs) : PO w b4 B4 pre W' := by
  obtain ⟨A, n, ps, g1, ⟨g2, g3, g4, g5⟩, g6⟩ := h
  have hs := ht.size
  refine ⟨A, n, ps, g1, ⟨ht.boxed h1 g2, g3.turn ht h2, fun g hg => by have := g4 g hg; omega, fun p hp => ?_⟩, Below.turn g6 ht h3 (by omega) (Nat.le_refl _)⟩
  exact (g5 p hp).lt hs fun k cur t k1 _ _ k4 => (ht.block k _ k4 (by omega) (.inr rfl)).trans k4.symm

theorem part_ne {t : TypeId} (h : t ∈ [24, 103]) : t ≠ 32 := by
  rintro rfl
  revert h
  decide
/-- the world behind a turn of the outer loop -/
theorem po_end {w W2 V V3 V4 : World} {b4 B4 : Nat} {ps : List PartD} {B6 : Nat} {pre : List ByteArray} {x : ByteArray} {A4 A6 : Option Addr} {n4 n6 : Nat} {ds : List RelD} {v' : Value} {p6 : PartD} (hp6 : p6 = ⟨ds, A6, n6⟩)
    (g0 : ps.map PartD.c = pre.map partB) (g1 : ds.map RelD.c = (pieces andS x).map parsedB) (g3 : OwnsG kRel V B6 (.slice A6 ds.length n6) ds) (g4 : ∀ d ∈ ds, Held V B6 V.heap.size [103] d.fits)
    (g5 : OB b4 B4 W2.heap.size (.slice A4 ps.length n4) ps V) (g6 : Below w.heap.size w V) (g7 : Keep B4 [] W2 V)
    (h1 : w.heap.size ≤ b4) (h2 : b4 < B4) (h3 : B4 ≤ W2.heap.size) (h4 : W2.heap.size ≤ B6)
    (hB : Below V.heap.size V V3) (hA : OwnsG kPart V4 B4 v' (ps ++ [p6])) (hF : Off (Value.slice A4 ps.length n4).ownBlock.toList V3 V4) :
    Boxed V4 b4 25 (.slice A4 ps.length n4) ∧ Keep B4 [b4] W2 (V4.setCell ⟨b4, 0, none⟩ v') ∧ PO w b4 B4 (pre ++ [x]) (V4.setCell ⟨b4, 0, none⟩ v') := by
  obtain ⟨o1, o2, o3, o4⟩ := g5
  have hblk := o2.block
  have hb4 : b4 ∉ (Value.slice A4 ps.length n4).ownBlock.toList := fun h => by have := (hblk b4 h).1; omega
  have hlt4 := Boxed.size' o1
  have hsz := hB.size
  have hsz2 := hF.size
  have hk7 := g7.size
  have r1 : Boxed V4 b4 25 (.slice A4 ps.length n4) := (hF.block b4 (by omega) hb4).trans ((hB.block b4 hlt4).trans o1)
  have keep : ∀ k cur t, V.heap[k]? = some (.cells cur t (0, 0)) → t ≠ 32 → k ≠ b4 → (V4.setCell ⟨b4, 0, none⟩ v').heap[k]? = V.heap[k]? := by
    intro k cur t hk hor hne
    have hlt := (Array.getElem?_eq_some_iff.1 hk).1
    refine (Below.heap_setCell V4 ⟨b4, 0, none⟩ v' k hne).trans ((hF.block k (by omega) (fun hm => ?_)).trans (hB.block k hlt))
    obtain ⟨k1, cur', k2⟩ := hblk k hm
    rw [hk] at k2
    cases k2
    exact hor rfl
  have hB4 : Below w.heap.size w V4 := Below.trans (g6.trans (hB.mono g6.size)) (hF.toBelow (fun k hk => by have := (hblk k hk).1; omega) (by have := g6.size; omega))
  have hs4 : (V4.setCell ⟨b4, 0, none⟩ v').heap.size = V4.heap.size := by simp
  refine ⟨r1, ?_, ?_⟩
  · refine Keep.set ?_ b4 0 v' (by simp)
    have h7' : Keep B4 [b4] W2 V := ⟨g7.size, fun k o hk hl hor => g7.block k o hk (by simp) hor⟩
    refine Keep.row (h7'.below hB (by omega)) hF (fun k hk _ => ?_)
    obtain ⟨k1, cur, k2⟩ := hblk k hk
    refine ⟨k1, fun o ho => ?_⟩
    cases hc : o.isCells with
    | true => rfl
    | false =>
      have := g7.block k o ho (by simp) (.inr hc)
      rw [k2] at this
      cases this
      cases hc
  · obtain ⟨A', c, rfl, _⟩ := hA.form
    refine ⟨A', c, ps ++ [p6], by rw [List.map_append, List.map_append, g0, List.map_cons, List.map_nil, List.map_cons, List.map_nil]; rw [hp6]; unfold PartD.c partB; rw [g1], ⟨Boxed.set' r1 _, ?_, ?_, ?_⟩, hB4.setCell (by show w.heap.size ≤ b4; omega) _⟩
    · refine hA.kept (fun g cur hg _ => Below.heap_setCell V4 ⟨b4, 0, none⟩ _ g (fun e => ?_))
      have := (hA.block g (by rw [hg]; simp)).1
      simp at e
      omega
    · intro g hg
      obtain ⟨k1, cur, k2⟩ := hA.block g hg
      have := (Array.getElem?_eq_some_iff.1 k2).1
      omega
    · intro p hp
      rcases List.mem_append.1 hp with hp | hp
      · have hp1 := (o4 p hp).kept (W' := V4.setCell ⟨b4, 0, none⟩ (Value.slice A' (ps ++ [p6]).length c)) (fun k cur t k1 k2 k3 k4 => keep k cur t k4 (part_ne k3) (by omega))
        exact hp1.mono (Nat.le_refl _) (by omega) (fun _ h => h) fun _ h => h
      · obtain rfl : p = p6 := List.mem_singleton.1 hp
        have hp0 : Held V B6 V.heap.size [24, 103] (PartD.fits · p) := hp6 ▸ part_held (p := ⟨ds, A6, n6⟩) g3 g4
        have hp1 := hp0.kept (W' := V4.setCell ⟨b4, 0, none⟩ (Value.slice A' (ps ++ [p]).length c)) (fun k cur t k1 k2 k3 k4 => keep k cur t k4 (part_ne k3) (by omega))
        exact hp1.mono (by omega) (by omega) (fun _ h => h) fun _ h => h
end Go.Proofs.YtkklemhhimcahaaGreatDoor
