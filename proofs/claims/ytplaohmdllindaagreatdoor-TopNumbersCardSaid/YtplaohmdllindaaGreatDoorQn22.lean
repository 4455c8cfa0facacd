/- RuleParse, RuleParse2, RuleParseB, RuleParse3: texts put together. -/
import Derived.Test.YtplaohmdllindaaGreatDoorQn21
import Derived.Test.YtplaohmdllindaaGreatDoorQn4
import Derived.Test.YtplaohmdllindaaGreatDoorQn14
set_option linter.unusedVariables false
set_option linter.unusedSimpArgs false
/- rule.Parse: rows of rels and of parts; what stays through its loops. -/
namespace Go.Proofs.YtplaohmdllindaaGreatDoor
open Go.RowKit Go.Shelf

def kRel : Kind RelD where
  e := 141
  sl := 138
  size := 4
  bytes := 48
  cells := RelD.cells
  zero := .agg #[.int .u8 0, .int .i64 0, .bool false, .slice none 0 0]
  hsl := Tryz.underlying138
  hi := by
    have h : (Tryz.prog.info? 141).map (fun i => (i.zero, i.size, i.bytes)) = some (some (.agg #[.int .u8 0, .int .i64 0, .bool false, .slice none 0 0]), 4, 48) := by kernel_rfl
    obtain ⟨i, hi, h2⟩ := Option.map_eq_some_iff.1 h
    simp only [Prod.mk.injEq] at h2
    exact ⟨i, hi, h2.1, h2.2.1, h2.2.2⟩
  hzs := rfl
  hpos := by decide
  hlen := fun _ => rfl
  hone := fun t u hu => by simp [RelD.cells] at hu; rcases hu with rfl | rfl | rfl | rfl <;> rfl
def kPart : Kind PartD where
  e := 138
  sl := 78
  size := 1
  bytes := 24
  cells := fun p => [.slice p.A p.rs.length p.n]
  zero := .slice none 0 0
  hsl := Tryz.underlying78
  hi := by
    have h : (Tryz.prog.info? 138).map (fun i => (i.zero, i.size, i.bytes)) = some (some (.slice none 0 0), 1, 24) := by kernel_rfl
    obtain ⟨i, hi, h2⟩ := Option.map_eq_some_iff.1 h
    simp only [Prod.mk.injEq] at h2
    exact ⟨i, hi, h2.1, h2.2.1, h2.2.2⟩
  hzs := rfl
  hpos := by decide
  hlen := fun _ => rfl
  hone := fun t u hu => by simp at hu; subst hu; rfl

/-- a rel of the call's own stays right as long as its ranges' block stays -/
theorem rel_held {W : World} {lo : Nat} {d : RelD} (hO : OwnsG kRng W lo (.slice d.A d.c.rs.length d.n) d.c.rs) (hm : -9223372036854775808 ≤ d.c.md ∧ d.c.md ≤ 9223372036854775807)
    (hr : ∀ p ∈ d.c.rs, (-9223372036854775808 ≤ p.1 ∧ p.1 ≤ 9223372036854775807) ∧ (-9223372036854775808 ≤ p.2 ∧ p.2 ≤ 9223372036854775807)) : Held W lo W.heap.size [225] d.fits := by
  refine (OwnsG.held hO).mono (Nat.le_refl _) (Nat.le_refl _) (fun _ h => h) fun W' h => ?_
  obtain ⟨A, c, hv, hc, hc2, _, hcells⟩ := h.form
  obtain ⟨rfl, hn⟩ : d.A = A ∧ d.n = c := by cases hv; exact ⟨rfl, rfl⟩
  refine ⟨?_, by omega, by omega, hm, hr⟩
  rcases hcells with h0 | ⟨g, hg, _, _, hat⟩
  · exact .inl h0
  · refine .inr ⟨g, 0, hg, fun j p hp => ?_⟩
    have h1 := hat j p 0 _ hp rfl
    have h2 := hat j p 1 _ hp rfl
    exact ⟨by simpa [kRng] using h1, by simpa [kRng] using h2⟩
/-- a part of the call's own, likewise -/
theorem part_held {W : World} {lo : Nat} {p : PartD} (hO : OwnsG kRel W lo (.slice p.A p.rs.length p.n) p.rs) (hr : ∀ d ∈ p.rs, Held W lo W.heap.size [225] d.fits) :
    Held W lo W.heap.size [141, 225] p.fits := by
  have h1 : Held W lo W.heap.size [141, 225] (fun W' => OwnsG kRel W' lo (.slice p.A p.rs.length p.n) p.rs) := (OwnsG.held hO).mono (Nat.le_refl _) (Nat.le_refl _) (fun t h => by simp [kRel] at h; simp [h]) fun _ h => h
  have h2 : Held W lo W.heap.size [141, 225] (fun W' => ∀ d ∈ p.rs, d.fits W') := (Held.all hr).mono (Nat.le_refl _) (Nat.le_refl _) (fun t h => by simp at h; simp [h]) fun _ h => h
  refine (h1.and h2).mono (Nat.le_refl _) (Nat.le_refl _) (fun _ h => h) ?_
  rintro W' ⟨h, hd⟩
  obtain ⟨A, c, hv, hc, hc2, _, hcells⟩ := h.form
  obtain ⟨hA, hn⟩ : p.A = A ∧ p.n = c := by cases hv; exact ⟨rfl, rfl⟩
  refine ⟨?_, by omega, by omega, hd⟩
  rcases hcells with h0 | ⟨g, hg, _, _, hat⟩
  · exact .inl h0
  · refine .inr ⟨g, 0, by rw [hA, hg], fun j r i u hr hu => ?_⟩
    have := hat j r i u hr hu
    simpa [kRel] using this
end Go.Proofs.YtplaohmdllindaaGreatDoor

/- rule.Parse: what its two loops keep. -/
namespace Go.Proofs.YtplaohmdllindaaGreatDoor
open Go.RowKit Go.Shelf

def andS : ByteArray := ⟨#[32, 97, 110, 100, 32]⟩
def orS : ByteArray := ⟨#[32, 111, 114, 32]⟩
def partB (s : ByteArray) : List RelC := (pieces andS s).map parsedB
def parseB (s : ByteArray) : RuleC := (pieces orS s).map partB

theorem rangeB_bd (s : ByteArray) : (-9223372036854775808 ≤ (rangeB s).1 ∧ (rangeB s).1 ≤ 9223372036854775807) ∧ (-9223372036854775808 ≤ (rangeB s).2 ∧ (rangeB s).2 ≤ 9223372036854775807) := by
  unfold rangeB
  split <;> exact ⟨numberB_bd _, numberB_bd _⟩
theorem mdB_bd (s : ByteArray) : -9223372036854775808 ≤ mdB s ∧ mdB s ≤ 9223372036854775807 := by
  unfold mdB
  split
  · exact numberB_bd _
  · omega
theorem parsed_held {W : World} {lo : Nat} {d : RelD} {s : ByteArray} (hd : d.c = parsedB s) (hO : OwnsG kRng W lo (.slice d.A d.c.rs.length d.n) d.c.rs) : Held W lo W.heap.size [225] d.fits := by
  refine rel_held hO ?_ ?_
  · rw [hd]; exact mdB_bd _
  · rw [hd]
    intro p hp
    obtain ⟨x, _, rfl⟩ := List.mem_map.1 hp
    exact rangeB_bd x

/-- what the outer loop has made so far -/
def OB (b4 B4 hi : Nat) (v : Value) (ps : List PartD) (W : World) : Prop :=
  Boxed W b4 78 v ∧ OwnsG kPart W B4 v ps ∧ (∀ g ∈ v.ownBlock.toList, g < hi) ∧ ∀ p ∈ ps, Held W B4 hi [141, 225] p.fits
theorem OB.kept {b4 B4 hi : Nat} {v : Value} {ps : List PartD} {W W' : World} (h : OB b4 B4 hi v ps W) (hb : b4 < hi) (hk : ∀ k cur t, k < hi → W.heap[k]? = some (.cells cur t (0, 0)) → W'.heap[k]? = W.heap[k]?) : OB b4 B4 hi v ps W' :=
  ⟨(hk _ _ _ hb h.1).trans h.1, h.2.1.kept fun g cur hg hc => hk g cur _ (h.2.2.1 g (by rw [hg]; simp)) hc, h.2.2.1, fun p hp => (h.2.2.2 p hp).kept fun k cur t _ h2 _ h4 => hk k cur t h2 h4⟩

/-- the inner loop's invariant -/
def QI (w W2 : World) (b4 B4 hi : Nat) (v4 : Value) (ps : List PartD) (b6 B6 : Nat) (pre : List ByteArray) (W : World) : Prop :=
  (∃ (A : Option Addr) (n : Nat) (ds : List RelD), ds.map RelD.c = pre.map parsedB ∧ Boxed W b6 138 (.slice A ds.length n) ∧ OwnsG kRel W B6 (.slice A ds.length n) ds ∧ ∀ d ∈ ds, Held W B6 W.heap.size [225] d.fits) ∧
    OB b4 B4 hi v4 ps W ∧ Below w.heap.size w W ∧ Keep B4 [] W2 W

theorem Boxed.size' {W : World} {k : Nat} {t : TypeId} {v : Value} (h : Boxed W k t v) : k < W.heap.size := (Array.getElem?_eq_some_iff.1 h).1

theorem qi_turn {w W2 W W' : World} {b4 B4 hi : Nat} {v4 : Value} {ps : List PartD} {b6 B6 bs : Nat} {pre : List ByteArray} (h : QI w W2 b4 B4 hi v4 ps b6 B6 pre W) (ht : Turn B6 bs W W')
    (h1 : hi ≤ bs) (h2 : b6 ≠ bs) (h3 : bs < B6) (h4 : w.heap.size ≤ hi) (h5 : W2.heap.size ≤ bs) (h6 : b4 < hi) : QI w W2 b4 B4 hi v4 ps b6 B6 pre W' := by
  obtain ⟨⟨A, n, ds, g1, g2, g3, g4⟩, g5, g6, g7⟩ := h
  refine ⟨⟨A, n, ds, g1, ht.boxed h2 g2, g3.turn ht h3, fun d hd => ?_⟩, ?_, Below.turn g6 ht (by omega) (by omega) (Nat.le_refl _), g7.turn ht h5 (by omega)⟩
  · exact (g4 d hd).lt ht.size fun k cur t k1 _ _ k4 => (ht.block k _ k4 (by omega) (.inr rfl)).trans k4.symm
  · exact g5.kept h6 fun k cur t k1 k2 => (ht.block k _ k2 (by omega) (.inr rfl)).trans k2.symm

theorem Keep.new {B : Nat} {L : List Nat} {W W1 : World} (h : Keep B L W W1) {b : Nat} (hb : W.heap.size ≤ b) (o : Nat) (u : Value) : Keep B L W (W1.setCell ⟨b, o, none⟩ u) :=
  ⟨by have := h.size; simpa using this, fun k o' hk hl hor => by
    have h1 := h.block k o' hk hl hor
    have hlt := (Array.getElem?_eq_some_iff.1 hk).1
    exact (Below.heap_setCell W1 ⟨b, o, none⟩ u k (by show k ≠ b; omega)).trans h1⟩
theorem Boxed.set' {W : World} {k : Nat} {t : TypeId} {v : Value} (h : Boxed W k t v) (u : Value) : Boxed (W.setCell ⟨k, 0, none⟩ u) k t u := set_block h

/-- the world behind a turn of the inner loop -/
theorem qi_end {w W2 V V3 V4 : World} {b4 B4 hi : Nat} {v4 : Value} {ps : List PartD} {b6 B6 : Nat} {pre : List ByteArray} {x : ByteArray} {A : Option Addr} {n : Nat} {ds : List RelD} {d : RelD} {v' : Value}
    (g1 : ds.map RelD.c = pre.map parsedB) (g2 : Boxed V b6 138 (.slice A ds.length n)) (g3 : OwnsG kRel V B6 (.slice A ds.length n) ds) (g4 : ∀ d ∈ ds, Held V B6 V.heap.size [225] d.fits)
    (g5 : OB b4 B4 hi v4 ps V) (g6 : Below w.heap.size w V) (g7 : Keep B4 [] W2 V)
    (h1 : hi ≤ b6) (h2 : b6 < B6) (h3 : w.heap.size ≤ hi) (h4 : W2.heap.size ≤ hi) (h5 : b4 < hi) (h6 : B6 ≤ V.heap.size) (h7 : B4 ≤ B6)
    (hd : d.c = parsedB x) (hB : Below V.heap.size V V3) (hO : Held V3 V.heap.size V3.heap.size [225] d.fits) (hA : OwnsG kRel V4 B6 v' (ds ++ [d])) (hF : Off (Value.slice A ds.length n).ownBlock.toList V3 V4) :
    Boxed V4 b6 138 (.slice A ds.length n) ∧ Keep B6 [b6] V (V4.setCell ⟨b6, 0, none⟩ v') ∧ QI w W2 b4 B4 hi v4 ps b6 B6 (pre ++ [x]) (V4.setCell ⟨b6, 0, none⟩ v') := by
  have hblk := g3.block
  have hb6 : b6 ∉ (Value.slice A ds.length n).ownBlock.toList := fun h => by have := (hblk b6 h).1; omega
  have hlt6 := Boxed.size' g2
  have r1 : Boxed V4 b6 138 (.slice A ds.length n) := (hF.block b6 (by have := hB.size; omega) hb6).trans ((hB.block b6 hlt6).trans g2)
  have hsz := hB.size
  have hsz2 := hF.size
  -- blocks that stay: of V, of no row of the inner loop's own
  have keep : ∀ k cur t, V.heap[k]? = some (.cells cur t (0, 0)) → (k < B6 ∨ t ≠ 141) → k ≠ b6 → (V4.setCell ⟨b6, 0, none⟩ v').heap[k]? = V.heap[k]? := by
    intro k cur t hk hor hne
    have hlt := (Array.getElem?_eq_some_iff.1 hk).1
    refine (Below.heap_setCell V4 ⟨b6, 0, none⟩ v' k hne).trans ((hF.block k (by omega) (fun hm => ?_)).trans (hB.block k hlt))
    obtain ⟨k1, cur', k2⟩ := hblk k hm
    rw [hk] at k2
    rcases hor with h | h
    · omega
    · cases k2; exact h rfl
  have hB4 : Below w.heap.size w V4 := Below.trans (g6.trans (hB.mono g6.size)) (hF.toBelow (fun k hk => by have := (hblk k hk).1; omega) (by have := g6.size; omega))
  refine ⟨r1, ?_, ?_⟩
  · refine Keep.set ?_ b6 0 v' (by simp)
    refine Keep.row ((Keep.refl B6 [b6] V).below hB (Nat.le_refl _)) hF (fun k hk _ => ?_)
    obtain ⟨k1, cur, k2⟩ := hblk k hk
    exact ⟨k1, fun o ho => by rw [k2] at ho; cases ho; rfl⟩
  · obtain ⟨A', c, rfl, _⟩ := hA.form
    refine ⟨⟨A', c, ds ++ [d], by rw [List.map_append, List.map_append, g1, List.map_cons, List.map_nil, hd]; rfl, Boxed.set' r1 _, ?_, ?_⟩, ?_, ?_, ?_⟩
    · refine hA.kept (fun g cur hg _ => Below.heap_setCell V4 ⟨b6, 0, none⟩ _ g (fun e => ?_))
      have := (hA.block g (by rw [hg]; simp)).1
      simp at e
      omega
    · intro e he
      have hs4 : (V4.setCell ⟨b6, 0, none⟩ (Value.slice A' (ds ++ [d]).length c)).heap.size = V4.heap.size := by simp
      rcases List.mem_append.1 he with he | he
      · refine ((g4 e he).kept (W' := V4.setCell ⟨b6, 0, none⟩ (Value.slice A' (ds ++ [d]).length c)) fun k cur t k1 k2 k3 k4 => keep k cur t k4 (.inr (by simp at k3; subst k3; decide)) (by omega)).mono (Nat.le_refl _) (by omega) (fun _ h => h) fun _ h => h
      · obtain rfl : e = d := by simpa using he
        refine (hO.kept (W' := V4.setCell ⟨b6, 0, none⟩ (Value.slice A' (ds ++ [e]).length c)) fun k cur t k1 k2 k3 k4 => ?_).mono h6 (by omega) (fun _ h => h) fun _ h => h
        refine (Below.heap_setCell V4 ⟨b6, 0, none⟩ _ k (by show k ≠ b6; omega)).trans (hF.block k (by omega) (fun hm => ?_))
        have := (hblk k hm).2
        obtain ⟨cur', k5⟩ := this
        have := (Array.getElem?_eq_some_iff.1 k5).1
        omega
    · exact g5.kept h5 fun k cur t k1 k2 => keep k cur t k2 (.inl (by omega)) (by omega)
    · exact hB4.setCell (by show w.heap.size ≤ b6; omega) _
    · refine Keep.new ?_ (by omega) 0 _
      refine Keep.row (g7.below hB (by have := g7.size; omega)) hF (fun k hk _ => ?_)
      obtain ⟨k1, cur, k2⟩ := hblk k hk
      have := g7.size
      refine ⟨?_, fun o ho => ?_⟩
      · omega
      · have := (Array.getElem?_eq_some_iff.1 ho).1
        omega

/-- the outer loop's invariant -/
def PO (w : World) (b4 B4 : Nat) (pre : List ByteArray) (W : World) : Prop :=
  ∃ (A : Option Addr) (n : Nat) (ps : List PartD), ps.map PartD.c = pre.map partB ∧ OB b4 B4 W.heap.size (.slice A ps.length n) ps W ∧ Below w.heap.size w W

theorem po_turn {w W W' : World} {b4 B4 bs : Nat} {pre : List ByteArray} (h : PO w b4 B4 pre W) (ht : Turn B4 bs W W') (h1 : b4 ≠ bs) (h2 : bs < B4) (h3 : w.heap.size ≤ bs) : PO w b4 B4 pre W' := by
  obtain ⟨A, n, ps, g1, ⟨g2, g3, g4, g5⟩, g6⟩ := h
  have hs := ht.size
  refine ⟨A, n, ps, g1, ⟨ht.boxed h1 g2, g3.turn ht h2, fun g hg => by have := g4 g hg; omega, fun p hp => ?_⟩, Below.turn g6 ht h3 (by omega) (Nat.le_refl _)⟩
  exact (g5 p hp).lt hs fun k cur t k1 _ _ k4 => (ht.block k _ k4 (by omega) (.inr rfl)).trans k4.symm

theorem part_ne {t : TypeId} (h : t ∈ [141, 225]) : t ≠ 138 := by
  rintro rfl
  revert h
  decide
/-- the world behind a turn of the outer loop -/
theorem po_end {w W2 V V3 V4 : World} {b4 B4 : Nat} {ps : List PartD} {B6 : Nat} {pre : List ByteArray} {x : ByteArray} {A4 A6 : Option Addr} {n4 n6 : Nat} {ds : List RelD} {v' : Value} {p6 : PartD} (hp6 : p6 = ⟨ds, A6, n6⟩)
    (g0 : ps.map PartD.c = pre.map partB) (g1 : ds.map RelD.c = (pieces andS x).map parsedB) (g3 : OwnsG kRel V B6 (.slice A6 ds.length n6) ds) (g4 : ∀ d ∈ ds, Held V B6 V.heap.size [225] d.fits)
    (g5 : OB b4 B4 W2.heap.size (.slice A4 ps.length n4) ps V) (g6 : Below w.heap.size w V) (g7 : Keep B4 [] W2 V)
    (h1 : w.heap.size ≤ b4) (h2 : b4 < B4) (h3 : B4 ≤ W2.heap.size) (h4 : W2.heap.size ≤ B6)
    (hB : Below V.heap.size V V3) (hA : OwnsG kPart V4 B4 v' (ps ++ [p6])) (hF : Off (Value.slice A4 ps.length n4).ownBlock.toList V3 V4) :
    Boxed V4 b4 78 (.slice A4 ps.length n4) ∧ Keep B4 [b4] W2 (V4.setCell ⟨b4, 0, none⟩ v') ∧ PO w b4 B4 (pre ++ [x]) (V4.setCell ⟨b4, 0, none⟩ v') := by
  obtain ⟨o1, o2, o3, o4⟩ := g5
  have hblk := o2.block
  have hb4 : b4 ∉ (Value.slice A4 ps.length n4).ownBlock.toList := fun h => by have := (hblk b4 h).1; omega
  have hlt4 := Boxed.size' o1
  have hsz := hB.size
  have hsz2 := hF.size
  have hk7 := g7.size
  have r1 : Boxed V4 b4 78 (.slice A4 ps.length n4) := (hF.block b4 (by omega) hb4).trans ((hB.block b4 hlt4).trans o1)
  have keep : ∀ k cur t, V.heap[k]? = some (.cells cur t (0, 0)) → t ≠ 138 → k ≠ b4 → (V4.setCell ⟨b4, 0, none⟩ v').heap[k]? = V.heap[k]? := by
    intro k cur t hk hor hne
    have hlt := (Array.getElem?_eq_some_iff.1 hk).1
    refine (Below.heap_setCell V4 ⟨b4, 0, none⟩ v' k hne).trans ((hF.block k (by omega) (fun hm => ?_)).trans (hB.block k hlt))
    obtain ⟨k1, cur', k2⟩ := hblk k hm
    rw [hk] at k2
    cases k2
    exact hor rfl
  have hB4 : Below w.heap.size w V4 := Below.trans (g6.trans (hB.mono g6.size)) (hF.toBelow (fun k hk => by have := (hblk k hk).1; omega) (by have := g6.size; omega))
  have hs4 : (V4.setCell ⟨b4, 0, none⟩ v').heap.size = V4.heap.size := by simp
  refine ⟨r1, ?_, ?_⟩
  · refine Keep.set ?_ b4 0 v' (by simp)
    have h7' : Keep B4 [b4] W2 V := ⟨g7.size, fun k o hk hl hor => g7.block k o hk (by simp) hor⟩
    refine Keep.row (h7'.below hB (by omega)) hF (fun k hk _ => ?_)
    obtain ⟨k1, cur, k2⟩ := hblk k hk
    refine ⟨k1, fun o ho => ?_⟩
    cases hc : o.isCells with
    | true => rfl
    | false =>
      have := g7.block k o ho (by simp) (.inr hc)
      rw [k2] at this
      cases this
      cases hc
  · obtain ⟨A', c, rfl, _⟩ := hA.form
    refine ⟨A', c, ps ++ [p6], by rw [List.map_append, List.map_append, g0, List.map_cons, List.map_nil, List.map_cons, List.map_nil]; rw [hp6]; unfold PartD.c partB; rw [g1], ⟨Boxed.set' r1 _, ?_, ?_, ?_⟩, hB4.setCell (by show w.heap.size ≤ b4; omega) _⟩
    · refine hA.kept (fun g cur hg _ => Below.heap_setCell V4 ⟨b4, 0, none⟩ _ g (fun e => ?_))
      have := (hA.block g (by rw [hg]; simp)).1
      simp at e
      omega
    · intro g hg
      obtain ⟨k1, cur, k2⟩ := hA.block g hg
      have := (Array.getElem?_eq_some_iff.1 k2).1
      omega
    · intro p hp
      rcases List.mem_append.1 hp with hp | hp
      · have hp1 := (o4 p hp).kept (W' := V4.setCell ⟨b4, 0, none⟩ (Value.slice A' (ps ++ [p6]).length c)) (fun k cur t k1 k2 k3 k4 => keep k cur t k4 (part_ne k3) (by omega))
        exact hp1.mono (Nat.le_refl _) (by omega) (fun _ h => h) fun _ h => h
      · obtain rfl : p = p6 := List.mem_singleton.1 hp
        have hp0 : Held V B6 V.heap.size [141, 225] (PartD.fits · p) := hp6 ▸ part_held (p := ⟨ds, A6, n6⟩) g3 g4
        have hp1 := hp0.kept (W' := V4.setCell ⟨b4, 0, none⟩ (Value.slice A' (ps ++ [p]).length c)) (fun k cur t k1 k2 k3 k4 => keep k cur t k4 (part_ne k3) (by omega))
        exact hp1.mono (by omega) (by omega) (fun _ h => h) fun _ h => h
end Go.Proofs.YtplaohmdllindaaGreatDoor

/- rule.Parse: how much may come out. -/
namespace Go.Proofs.YtplaohmdllindaaGreatDoor
open Go.RowKit Go.Shelf

theorem pieces_sum (sep : ByteArray) (hsep : 0 < sep.size) : ∀ (n : Nat) (s : ByteArray), s.size = n → ((pieces sep s).map (fun x => x.size + 1)).sum ≤ s.size + 1 := by
  intro n
  induction n using Nat.strongRecOn with
  | ind n ih =>
    intro s hs
    rcases index_cases s sep hsep with ⟨_, h⟩ | ⟨i, _, hr, h⟩
    · rw [h]
      simp
    · rw [h, List.map_cons, List.sum_cons]
      have hsz : (s.extract (i + sep.size) s.size).size = s.size - (i + sep.size) := by simp [ByteArray.size_extract]
      have hs0 : (s.extract 0 i).size = i := by simp [ByteArray.size_extract]; omega
      have := ih _ (by rw [hsz]; omega) (s.extract (i + sep.size) s.size) rfl
      rw [hsz] at this
      rw [hs0]
      omega
theorem tail_size (s : ByteArray) : (tailB s).size ≤ s.size := by
  unfold tailB
  split <;> exact (cut_sizes _ _).2
theorem parsed_small (s : ByteArray) : (parsedB s).rs.length ≤ s.size + 1 := by
  have h1 := pieces_len comS (by decide) _ (tailB s) rfl
  have h2 := tail_size s
  unfold parsedB
  simp only [List.length_map]
  omega
theorem parse_small (s : ByteArray) : ∀ p ∈ parseB s, ∀ r ∈ p, r.rs.length ≤ s.size + 1 := by
  intro p hp r hr
  obtain ⟨x, hx, rfl⟩ := List.mem_map.1 hp
  obtain ⟨y, hy, rfl⟩ := List.mem_map.1 hr
  have h1 := pieces_size orS (by decide) _ s rfl x hx
  have h2 := pieces_size andS (by decide) _ x rfl y hy
  have h3 := parsed_small y
  omega
theorem parse_count (s : ByteArray) : ruleCount (parseB s) ≤ s.size + 1 := by
  have h := pieces_sum orS (by decide) _ s rfl
  unfold ruleCount parseB
  rw [List.map_map]
  refine Nat.le_trans ?_ h
  generalize pieces orS s = l
  induction l with
  | nil => simp
  | cons x l ih =>
    rw [List.map_cons, List.map_cons, List.sum_cons, List.sum_cons]
    have := pieces_len andS (by decide) _ x rfl
    have e : (List.length ∘ partB) x = (pieces andS x).length := by simp [partB]
    rw [e]
    omega
/-- what the loops have made, in the words of rule.Text's contract -/
theorem OB.rule {b4 B4 hi : Nat} {A : Option Addr} {n : Nat} {ps : List PartD} {W : World} (h : OB b4 B4 hi (.slice A ps.length n) ps W) : RuleIn W A ps ∧ ps.length ≤ n ∧ n ≤ 9223372036854775807 := by
  obtain ⟨_, h2, _, h4⟩ := h
  obtain ⟨A', c, hv, hc, hc2, _, hcells⟩ := h2.form
  obtain ⟨hA, hn⟩ : A = A' ∧ n = c := by cases hv; exact ⟨rfl, rfl⟩
  refine ⟨⟨?_, fun p hp => (h4 p hp).now⟩, by omega, by omega⟩
  rcases hcells with h0 | ⟨g, hg, _, _, hat⟩
  · exact .inl h0
  · refine .inr ⟨g, 0, by rw [hA, hg], fun j p hp => ?_⟩
    have := hat j p 0 _ hp rfl
    simpa [kPart] using this
theorem small_of {ps : List PartD} {s : ByteArray} (h : ruleC ps = parseB s) (hs : s.size < 4294967281) : RuleSmall ps := by
  intro p hp r hr
  have := parse_small s p.c (by rw [← h]; exact List.mem_map_of_mem hp) r.c (List.mem_map_of_mem hr)
  omega
end Go.Proofs.YtplaohmdllindaaGreatDoor

/- rule.Parse: the walk. -/
namespace Go.Proofs.YtplaohmdllindaaGreatDoor
open Go.RowKit Go.Shelf
attribute [local go_sem] Oper.semAt_some

def parseOk (s : ByteArray) : Bool := decide (ruleErr (parseB s) = 0) && decide (ruleL (parseB s) = s.data.toList)

theorem text_ne {a b : ByteArray} (h : ¬a = b) : (a.toList == b.toList) = false := by
  rw [Bool.eq_false_iff]
  intro h'
  have h' := eq_of_beq h'
  rw [Lib.toList_data, Lib.toList_data] at h'
  exact h (ByteArray.ext (Array.ext' h'))
/-- what rule.Parse answers -/
def ParsePost (s : ByteArray) (w' : World) (e : Ending) : Prop :=
  if parseOk s then ∃ A c ps, ruleC ps = parseB s ∧ RuleIn w' A ps ∧ ps.length ≤ c ∧ c ≤ 9223372036854775807 ∧ RuleSmall ps ∧ e = .returned (.tuple #[.slice A ps.length c, .nilIface])
  else e = .returned (.tuple #[.slice none 0 0, errT 3])
theorem boxed_cell {W : World} {k : Nat} {t : TypeId} {v : Value} (h : Boxed W k t v) : W.cell? ⟨k, 0, none⟩ = some v := by
  have h' : W.heap[k]? = some (.cells #[v] t (0, 0)) := h
  simp [World.cell?, h']
theorem boxed_free {W : World} {k : Nat} {t : TypeId} {v : Value} (h : Boxed W k t v) : W.frozen? ⟨k, 0, none⟩ = false := by
  have h' : W.heap[k]? = some (.cells #[v] t (0, 0)) := h
  simp [World.frozen?, h']

set_option maxHeartbeats 8000000 in
theorem rule_parse (s : ByteArray) (w : World) (hE : RuleEnv w) (hs : s.size < 4294967281) :
    Calls Tryz.prog 23 #[.string s] w fun e w' => ParsePost s w' e ∧ Below w.heap.size w w' := by
  have HE := Lib.hid hE
  clear hE
  refine (callsIn_wide (n := 9)).1 ?_
  refine callsIn_of_wp_marks Tryz.func23 rfl trivial ?_ rfl
  simp only [Tryz.ntmps23, List.size_toArray, List.length_cons, List.length_nil, Nat.reduceAdd, Nat.reduceSub, Array.replicate_succ, Array.replicate_zero, List.push_toArray, List.append_toArray, List.nil_append, List.cons_append]
  refine (wpIn_wide).2 ?_
  go_wp2_with fail
  have ha1 : Boxed (w.alloc (.cells #[.slice none 0 0] 78)) w.heap.size 78 (.slice none 0 0) := Boxed.new w _ _
  have ha2 : Below w.heap.size w (w.alloc (.cells #[.slice none 0 0] 78)) := (Below.refl _ _).alloc (Nat.le_refl _) _
  have ha3 : (w.alloc (.cells #[.slice none 0 0] 78)).heap.size = w.heap.size + 1 := by simp
  generalize w.alloc (.cells #[.slice none 0 0] 78) = wc at *
  have HA3 := Lib.hid ha3
  clear ha3
  refine (split_seq s ⟨#[32, 111, 114, 32]⟩ _).mono ?_
  rintro e w1 ⟨rfl, rfl⟩
  go_wp2_with fail
  have ha3 := HA3.out
  refine wp_splitSeq wc.heap.size orS s (by decide) (by omega) (by decide) rfl (((Boxed.new wc _ _).alloc _).alloc _) ⟨by have := Boxed.new (wc.alloc (.cells #[.string s] 9)) 9 (.string ⟨#[32, 111, 114, 32]⟩); simp at this; exact this.alloc _, by have := Boxed.new ((wc.alloc (.cells #[.string s] 9)).alloc (.cells #[.string ⟨#[32, 111, 114, 32]⟩] 9)) 3 (.int .i64 0); simpa using this⟩ [w.heap.size] (by simp; omega)
    (PO w w.heap.size (w.heap.size + 4)) ?hI ?hIM ?h0 ?round ?done
  case hI =>
    rintro pre W W' g ht
    have e4 : (((wc.alloc (.cells #[.string s] 9)).alloc (.cells #[.string orS] 9)).alloc (.cells #[.int .i64 0] 3)).heap.size = w.heap.size + 4 := by simp; omega
    exact po_turn g (e4 ▸ ht) (by omega) (by omega) (by omega)
  case hIM =>
    rintro pre W ⟨A, n, ps, g1, g2, g3⟩
    exact (HE.out.below g3).maxl
  case h0 =>
    exact ⟨none, 0, [], rfl, ⟨((ha1.alloc _).alloc _).alloc _, OwnsG.nil _ _, by simp [Value.ownBlock], fun p hp => (List.not_mem_nil hp).elim⟩, ((ha2.alloc (by omega) _).alloc (by simp; omega) _).alloc (by simp; omega) _⟩
  case round =>
    intro l pre x post W hps hl
    have hxs := pieces_size orS (by decide) _ s rfl x (by rw [hps]; simp)
    have hpl := pieces_len orS (by decide) _ s rfl
    rw [hps] at hpl
    simp only [List.length_append, List.length_cons] at hpl
    gi_wp2
    refine ⟨trivial, ?_⟩
    rintro W2 ⟨r0, hrec⟩ ⟨A, n, ps, g0, g1, g2⟩
    have hBW : w.heap.size + 4 ≤ l := by simp at hl; omega
    have hlW := (Array.getElem?_eq_some_iff.1 hrec).1
    gi_wp2
    have hv1 : Boxed (W2.alloc (.cells #[.slice none 0 0] 138)) W2.heap.size 138 (.slice none 0 0) := Boxed.new W2 _ _
    have hv2 : Below W2.heap.size W2 (W2.alloc (.cells #[.slice none 0 0] 138)) := (Below.refl _ _).alloc (Nat.le_refl _) _
    have hv3 : (W2.alloc (.cells #[.slice none 0 0] 138)).heap.size = W2.heap.size + 1 := by simp
    have hv4 : (W2.alloc (.cells #[.slice none 0 0] 138)).heap[l]? = some (.loop r0) := (hv2.block l hlW).trans hrec
    have HG := Lib.hid (And.intro g0 (And.intro g1 g2))
    clear g0 g1 g2 hrec hps
    generalize W2.alloc (.cells #[.slice none 0 0] 138) = wv at *
    have HV3 := Lib.hid hv3
    clear hv3
    refine ⟨trivial, (CallsIn.inRound l (callsIn_wide.2 (split_seq x ⟨#[32, 97, 110, 100, 32]⟩ wv))).mono ?_⟩
    rintro e w5 ⟨rfl, rfl⟩
    gi_wp2
    have hv3 := HV3.out
    have hlv := (Array.getElem?_eq_some_iff.1 hv4).1
    have hl3 : (((wv.alloc (.cells #[.string x] 9)).alloc (.cells #[.string ⟨#[32, 97, 110, 100, 32]⟩] 9)).alloc (.cells #[.int .i64 0] 3)).heap[l]? = some (.loop r0) :=
      (Below.heap_alloc _ _ _ (by simp; omega)).trans ((Below.heap_alloc _ _ _ (by simp; omega)).trans ((Below.heap_alloc _ _ _ hlv).trans hv4))
    refine wpIn_splitSeq hl3 wv.heap.size andS x (by decide) (by omega) (by decide) rfl (((Boxed.new wv _ _).alloc _).alloc _) ⟨by have := Boxed.new (wv.alloc (.cells #[.string x] 9)) 9 (.string ⟨#[32, 97, 110, 100, 32]⟩); simp at this; exact this.alloc _, by have := Boxed.new ((wv.alloc (.cells #[.string x] 9)).alloc (.cells #[.string ⟨#[32, 97, 110, 100, 32]⟩] 9)) 3 (.int .i64 0); simpa using this⟩ [W2.heap.size] (by simp; omega)
      (QI w W2 w.heap.size (w.heap.size + 4) W2.heap.size (.slice A ps.length n) ps W2.heap.size (W2.heap.size + 4)) ?_ ?_ ?_ ?_ ?_
    · rintro pr W W' g ht
      have e4 : (((wv.alloc (.cells #[.string x] 9)).alloc (.cells #[.string andS] 9)).alloc (.cells #[.int .i64 0] 3)).heap.size = W2.heap.size + 4 := by simp; omega
      exact qi_turn g (e4 ▸ ht) (by omega) (by omega) (by omega) (by omega) (by omega) (by omega)
    · rintro pr W ⟨_, _, g3, _⟩
      exact (HE.out.below g3).maxl
    · have hb3 : Below W2.heap.size W2 (((wv.alloc (.cells #[.string x] 9)).alloc (.cells #[.string ⟨#[32, 97, 110, 100, 32]⟩] 9)).alloc (.cells #[.int .i64 0] 3)) := ((hv2.alloc (by omega) _).alloc (by simp; omega) _).alloc (by simp; omega) _
      refine ⟨⟨none, 0, [], rfl, ((hv1.alloc _).alloc _).alloc _, OwnsG.nil _ _, fun d hd => (List.not_mem_nil hd).elim⟩, HG.out.2.1.kept (by omega) fun k cur t k1 k2 => hb3.block k (Array.getElem?_eq_some_iff.1 k2).1, HG.out.2.2.trans (hb3.mono (by omega)), (Keep.refl _ _ _).below hb3 (Nat.le_refl _)⟩
    · -- one round of the inner loop
      intro l2 pr y po W hpy hl2
      have hys := pieces_size andS (by decide) _ x rfl y (by rw [hpy]; simp)
      have hyl := pieces_len andS (by decide) _ x rfl
      rw [hpy] at hyl
      simp only [List.length_append, List.length_cons] at hyl
      gi_wp2
      refine ⟨trivial, ?_⟩
      rintro V ⟨r1, hrc⟩ ⟨⟨A6, n6, ds, q1, q2, q3, q4⟩, q5, q6, q7⟩
      have c6 := boxed_cell q2
      have hmx : Tryz.prog.follows .mixedOrders = true := by kernel_rfl
      have hV : W2.heap.size + 4 ≤ V.heap.size := by have := (Array.getElem?_eq_some_iff.1 hrc).1; simp at hl2; omega
      have HQ := Lib.hid (And.intro q1 (And.intro q2 (And.intro q3 (And.intro q4 (And.intro q5 (And.intro q6 q7))))))
      clear q1 q2 q3 q4 q5 q6 q7 hrc hpy
      gi_wp2
      refine wpIn_region_any hmx ?_
      change wpAnyIn _ _ _ _ _ _ _ _ _ (World.drew _)
      have HBV : Hid (Below V.heap.size V V.drew) := Lib.hid (Below.refl _ _).drew
      have HBW : Hid (Below w.heap.size w V.drew) := Lib.hid HQ.out.2.2.2.2.2.1.drew
      have c6 : V.drew.cell? ⟨W2.heap.size, 0, none⟩ = some (.slice A6 ds.length n6) := c6
      generalize V.drew = wr at *
      have s6 := lt_of_cell c6
      refine take_r (i := 1) (v := ?_) (by kernel_rfl) rfl (by kernel_rfl) (by kernel_rfl) (by kernel_rfl) (fun _ _ _ h => h) (by rfl) ?hy (fun _ => rfl) ?_
      case hy => (intro w; go_simp; try with_reducible rfl)
      refine wpAnyIn_ready (rs := [0, 2]) (by kernel_rfl) (by simp) ?_
      refine AllReadyIn.cons rfl (fun K hK => ?_) ?_
      · go_simp
        refine hK _ _ ?_
        clear hK K
        refine wpAnyIn_ready (rs := [2]) (by kernel_rfl) (by simp) ?_
        refine AllReadyIn.cons rfl (fun K hK => ?_) ?_
        · go_simp
          refine ⟨trivial, (CallsIn.inRound l2 (CallsIn.inRound l (callsIn_wide.2 (rule_parsed y wr (HE.out.below HBW.out) (by omega))))).mono ?_⟩
          rintro e wx ⟨⟨d, hd, rfl, hO⟩, hbx⟩
          have HD := Lib.hid (And.intro hd (parsed_held hd hO))
          have hbv := HBV.out
          have HBX : Hid (Below V.heap.size V wx) := Lib.hid (hbv.trans (hbx.mono hbv.size))
          have HBS : Hid (V.heap.size ≤ wr.heap.size) := Lib.hid hbv.size
          have c6 := carry hbx c6
          have s6 := lt_of_cell c6
          clear hd hO hbv
          rw [show d.val = .agg #[.int .u8 d.c.op.toNat, .int .i64 d.c.md, .bool d.c.neg, .slice d.A d.c.rs.length d.n] from rfl]
          refine hK _ _ ?_
          clear hK K hbx
          refine wpAnyIn_ready (rs := [3]) (by kernel_rfl) (by simp) ?_
          refine AllReadyIn.cons rfl (fun K hK => ?_) ?_
          · go_simp
            refine hK _ _ ?_
            clear hK K
            refine wpAnyIn_ready (rs := [4]) (by kernel_rfl) (by simp) ?_
            refine AllReadyIn.cons rfl (fun K hK => ?_) AllReadyIn.nil
            rw [if_pos (by rfl)]
            have hln : ds.length = pr.length := by have := congrArg List.length HQ.out.1; simpa using this
            have hn8 : (ds.length + 1) * kRel.bytes ≤ 140737488355328 := by simp [kRel]; omega
            have hn9 : ds.length + 1 ≤ 9223372036854775807 := by omega
            clear hln
            refine operIn_append_g (k := kRel) (.tmp 16) (.tmp 19) rfl (base := W2.heap.size + 4) (v := .slice A6 ds.length n6) (b := wx.heap.size) (c := 1) (ts := ds) d (by go_simp) (by go_simp) (HQ.out.2.2.1.below (HBX.out.alloc HBX.out.size _)) (by intro i u hu; rw [new_cell, List.getElem?_toArray]; exact hu) (by have := HBX.out.size; simp; omega) hn8 hn9 ?_
            intro v' w8 hO hF
            obtain ⟨A8, c8, hv8, _⟩ := hO.form
            rw [show (ds ++ [d]).length = ds.length + 1 by simp] at hv8
            subst hv8
            have hBa := HBX.out.alloc HBX.out.size (.cells #[.int .u8 d.c.op.toNat, .int .i64 d.c.md, .bool d.c.neg, .slice d.A d.c.rs.length d.n] 141)
            have hOa : Held (wx.alloc (.cells #[.int .u8 d.c.op.toNat, .int .i64 d.c.md, .bool d.c.neg, .slice d.A d.c.rs.length d.n] 141)) V.heap.size (wx.alloc (.cells #[.int .u8 d.c.op.toNat, .int .i64 d.c.md, .bool d.c.neg, .slice d.A d.c.rs.length d.n] 141)).heap.size [225] d.fits :=
              (HD.out.2.lt (by simp) fun k cur t _ k2 _ _ => Below.heap_alloc _ _ _ k2).mono HBS.out (Nat.le_refl _) (fun _ h => h) fun _ h => h
            have HE8 := Lib.hid (qi_end HQ.out.1 HQ.out.2.1 HQ.out.2.2.1 HQ.out.2.2.2.1 HQ.out.2.2.2.2.1 HQ.out.2.2.2.2.2.1 HQ.out.2.2.2.2.2.2 (Nat.le_refl _) (by omega) (by omega) (Nat.le_refl _) (by omega) hV (by omega) HD.out.1 hBa hOa hO hF)
            have d6 := boxed_cell HE8.out.1
            have f6 := boxed_free HE8.out.1
            clear hBa hOa
            refine hK _ _ ?_
            clear hK K hO hF hn8 hn9
            refine wpAnyIn_ready (rs := [5]) (by kernel_rfl) (by simp) ?_
            refine AllReadyIn.cons rfl (fun K hK => ?_) AllReadyIn.nil
            go_simp
            refine hK _ _ ?_
            clear hK K
            refine wpAnyIn_done (by kernel_rfl) ?_ _
            exact ⟨keep_eq HE8.out.2.1 (by simp; omega), HE8.out.2.2⟩
          exact AllReadyIn.nil
        exact AllReadyIn.nil
      refine AllReadyIn.cons rfl (fun K hK => ?_) ?_
      · go_simp
        refine ⟨trivial, (CallsIn.inRound l2 (CallsIn.inRound l (callsIn_wide.2 (rule_parsed y wr (HE.out.below HBW.out) (by omega))))).mono ?_⟩
        rintro e wx ⟨⟨d, hd, rfl, hO⟩, hbx⟩
        have HD := Lib.hid (And.intro hd (parsed_held hd hO))
        have hbv := HBV.out
        have HBX : Hid (Below V.heap.size V wx) := Lib.hid (hbv.trans (hbx.mono hbv.size))
        have HBS : Hid (V.heap.size ≤ wr.heap.size) := Lib.hid hbv.size
        have c6 := carry hbx c6
        have s6 := lt_of_cell c6
        clear hd hO hbv
        rw [show d.val = .agg #[.int .u8 d.c.op.toNat, .int .i64 d.c.md, .bool d.c.neg, .slice d.A d.c.rs.length d.n] from rfl]
        refine hK _ _ ?_
        clear hK K hbx
        refine wpAnyIn_ready (rs := [0, 3]) (by kernel_rfl) (by simp) ?_
        refine AllReadyIn.cons rfl (fun K hK => ?_) ?_
        · go_simp
          refine hK _ _ ?_
          clear hK K
          refine wpAnyIn_ready (rs := [3]) (by kernel_rfl) (by simp) ?_
          refine AllReadyIn.cons rfl (fun K hK => ?_) ?_
          · go_simp
            refine hK _ _ ?_
            clear hK K
            refine wpAnyIn_ready (rs := [4]) (by kernel_rfl) (by simp) ?_
            refine AllReadyIn.cons rfl (fun K hK => ?_) AllReadyIn.nil
            rw [if_pos (by rfl)]
            have hln : ds.length = pr.length := by have := congrArg List.length HQ.out.1; simpa using this
            have hn8 : (ds.length + 1) * kRel.bytes ≤ 140737488355328 := by simp [kRel]; omega
            have hn9 : ds.length + 1 ≤ 9223372036854775807 := by omega
            clear hln
            refine operIn_append_g (k := kRel) (.tmp 16) (.tmp 19) rfl (base := W2.heap.size + 4) (v := .slice A6 ds.length n6) (b := wx.heap.size) (c := 1) (ts := ds) d (by go_simp) (by go_simp) (HQ.out.2.2.1.below (HBX.out.alloc HBX.out.size _)) (by intro i u hu; rw [new_cell, List.getElem?_toArray]; exact hu) (by have := HBX.out.size; simp; omega) hn8 hn9 ?_
            intro v' w8 hO hF
            obtain ⟨A8, c8, hv8, _⟩ := hO.form
            rw [show (ds ++ [d]).length = ds.length + 1 by simp] at hv8
            subst hv8
            have hBa := HBX.out.alloc HBX.out.size (.cells #[.int .u8 d.c.op.toNat, .int .i64 d.c.md, .bool d.c.neg, .slice d.A d.c.rs.length d.n] 141)
            have hOa : Held (wx.alloc (.cells #[.int .u8 d.c.op.toNat, .int .i64 d.c.md, .bool d.c.neg, .slice d.A d.c.rs.length d.n] 141)) V.heap.size (wx.alloc (.cells #[.int .u8 d.c.op.toNat, .int .i64 d.c.md, .bool d.c.neg, .slice d.A d.c.rs.length d.n] 141)).heap.size [225] d.fits :=
              (HD.out.2.lt (by simp) fun k cur t _ k2 _ _ => Below.heap_alloc _ _ _ k2).mono HBS.out (Nat.le_refl _) (fun _ h => h) fun _ h => h
            have HE8 := Lib.hid (qi_end HQ.out.1 HQ.out.2.1 HQ.out.2.2.1 HQ.out.2.2.2.1 HQ.out.2.2.2.2.1 HQ.out.2.2.2.2.2.1 HQ.out.2.2.2.2.2.2 (Nat.le_refl _) (by omega) (by omega) (Nat.le_refl _) (by omega) hV (by omega) HD.out.1 hBa hOa hO hF)
            have d6 := boxed_cell HE8.out.1
            have f6 := boxed_free HE8.out.1
            clear hBa hOa
            refine hK _ _ ?_
            clear hK K hO hF hn8 hn9
            refine wpAnyIn_ready (rs := [5]) (by kernel_rfl) (by simp) ?_
            refine AllReadyIn.cons rfl (fun K hK => ?_) AllReadyIn.nil
            go_simp
            refine hK _ _ ?_
            clear hK K
            refine wpAnyIn_done (by kernel_rfl) ?_ _
            exact ⟨keep_eq HE8.out.2.1 (by simp; omega), HE8.out.2.2⟩
          exact AllReadyIn.nil
        refine AllReadyIn.cons rfl (fun K hK => ?_) ?_
        · go_simp
          refine hK _ _ ?_
          clear hK K
          refine wpAnyIn_ready (rs := [0]) (by kernel_rfl) (by simp) ?_
          refine AllReadyIn.cons rfl (fun K hK => ?_) ?_
          · go_simp
            refine hK _ _ ?_
            clear hK K
            refine wpAnyIn_ready (rs := [4]) (by kernel_rfl) (by simp) ?_
            refine AllReadyIn.cons rfl (fun K hK => ?_) AllReadyIn.nil
            rw [if_pos (by rfl)]
            have hln : ds.length = pr.length := by have := congrArg List.length HQ.out.1; simpa using this
            have hn8 : (ds.length + 1) * kRel.bytes ≤ 140737488355328 := by simp [kRel]; omega
            have hn9 : ds.length + 1 ≤ 9223372036854775807 := by omega
            clear hln
            refine operIn_append_g (k := kRel) (.tmp 16) (.tmp 19) rfl (base := W2.heap.size + 4) (v := .slice A6 ds.length n6) (b := wx.heap.size) (c := 1) (ts := ds) d (by go_simp) (by go_simp) (HQ.out.2.2.1.below (HBX.out.alloc HBX.out.size _)) (by intro i u hu; rw [new_cell, List.getElem?_toArray]; exact hu) (by have := HBX.out.size; simp; omega) hn8 hn9 ?_
            intro v' w8 hO hF
            obtain ⟨A8, c8, hv8, _⟩ := hO.form
            rw [show (ds ++ [d]).length = ds.length + 1 by simp] at hv8
            subst hv8
            have hBa := HBX.out.alloc HBX.out.size (.cells #[.int .u8 d.c.op.toNat, .int .i64 d.c.md, .bool d.c.neg, .slice d.A d.c.rs.length d.n] 141)
            have hOa : Held (wx.alloc (.cells #[.int .u8 d.c.op.toNat, .int .i64 d.c.md, .bool d.c.neg, .slice d.A d.c.rs.length d.n] 141)) V.heap.size (wx.alloc (.cells #[.int .u8 d.c.op.toNat, .int .i64 d.c.md, .bool d.c.neg, .slice d.A d.c.rs.length d.n] 141)).heap.size [225] d.fits :=
              (HD.out.2.lt (by simp) fun k cur t _ k2 _ _ => Below.heap_alloc _ _ _ k2).mono HBS.out (Nat.le_refl _) (fun _ h => h) fun _ h => h
            have HE8 := Lib.hid (qi_end HQ.out.1 HQ.out.2.1 HQ.out.2.2.1 HQ.out.2.2.2.1 HQ.out.2.2.2.2.1 HQ.out.2.2.2.2.2.1 HQ.out.2.2.2.2.2.2 (Nat.le_refl _) (by omega) (by omega) (Nat.le_refl _) (by omega) hV (by omega) HD.out.1 hBa hOa hO hF)
            have d6 := boxed_cell HE8.out.1
            have f6 := boxed_free HE8.out.1
            clear hBa hOa
            refine hK _ _ ?_
            clear hK K hO hF hn8 hn9
            refine wpAnyIn_ready (rs := [5]) (by kernel_rfl) (by simp) ?_
            refine AllReadyIn.cons rfl (fun K hK => ?_) AllReadyIn.nil
            go_simp
            refine hK _ _ ?_
            clear hK K
            refine wpAnyIn_done (by kernel_rfl) ?_ _
            exact ⟨keep_eq HE8.out.2.1 (by simp; omega), HE8.out.2.2⟩
          exact AllReadyIn.nil
        exact AllReadyIn.nil
      exact AllReadyIn.nil
    · rintro W ⟨⟨A6, n6, ds, q1, q2, q3, q4⟩, q5, q6, q7⟩
      have c6 := boxed_cell q2
      have c4 := boxed_cell q5.1
      have HQ := Lib.hid (And.intro q1 (And.intro q3 (And.intro q4 (And.intro q5 (And.intro q6 q7)))))
      have hpn : ps.length = pre.length := by have := congrArg List.length HG.out.1; simpa using this
      have hn8 : (ps.length + 1) * kPart.bytes ≤ 140737488355328 := by simp [kPart]; omega
      have hn9 : ps.length + 1 ≤ 9223372036854775807 := by omega
      have hk4 : w.heap.size + 4 ≤ W.heap.size := by have := q7.size; omega
      clear q1 q2 q3 q4 q5 q6 q7 hpn
      have HEND : Hid (∀ v' w8, OwnsG kPart w8 (w.heap.size + 4) v' (ps ++ [⟨ds, A6, n6⟩]) → Off (Value.slice A ps.length n).ownBlock.toList (W.alloc (.cells #[.slice A6 ds.length n6] 138)) w8 → ∃ A8 c8, v' = .slice A8 (ps.length + 1) c8 ∧
          Hid (Boxed w8 w.heap.size 78 (.slice A ps.length n) ∧ Keep (w.heap.size + 4) [w.heap.size] W2 (w8.setCell ⟨w.heap.size, 0, none⟩ v') ∧ PO w w.heap.size (w.heap.size + 4) (pre ++ [x]) (w8.setCell ⟨w.heap.size, 0, none⟩ v'))) := by
        refine Lib.hid (fun v' w8 hO hF => ?_)
        have hend := po_end (p6 := ⟨ds, A6, n6⟩) rfl HG.out.1 HQ.out.1 HQ.out.2.1 HQ.out.2.2.1 HQ.out.2.2.2.1 HQ.out.2.2.2.2.1 HQ.out.2.2.2.2.2 (Nat.le_refl _) (by omega) (by omega) (by omega) ((Below.refl W.heap.size W).alloc (Nat.le_refl _) (.cells #[.slice A6 ds.length n6] 138)) hO hF
        obtain ⟨A8, c8, hv8, _⟩ := hO.form
        exact ⟨A8, c8, by rw [hv8]; simp, Lib.hid hend⟩
      gi_wp2_with (gi_at_builtin; refine wpListIn_append_g (k := kPart) rfl _ _ rfl (base := w.heap.size + 4) (v := .slice A ps.length n) (b := W.heap.size) (c := 1) (ts := ps) ⟨ds, A6, n6⟩ rfl rfl (HQ.out.2.2.2.1.2.1.alloc _) (by intro i u hu; rw [new_cell, List.getElem?_toArray]; exact hu) (by simp; omega) hn8 hn9 ?_; intro v' w8 hO hF; obtain ⟨A8, c8, rfl, HE8⟩ := HEND.out v' w8 hO hF; have d4 := boxed_cell HE8.out.1; have f4 := boxed_free HE8.out.1; clear hO hF)
      exact ⟨keep_eq HE8.out.2.1 (by simp; omega), HE8.out.2.2⟩
  case done =>
    rintro D W hD ⟨A, n, ps, g1, g2, g3⟩ hK
    have c4 := boxed_cell g2.1
    have hr := g2.rule
    have hpb : ruleC ps = parseB s := g1
    have hsm := small_of hpb hs
    have hD' : w.heap.size + 4 ≤ D := by simp at hD; omega
    have hDW := (Array.getElem?_eq_some_iff.1 hK).1
    have HR := Lib.hid (And.intro hr (And.intro hpb (And.intro hsm (And.intro g3 (And.intro hK g2)))))
    clear hr hpb hsm g1 g2 g3 hK hD
    by_cases h0 : ruleErr (ruleC ps) = 0
    · have KT := Lib.hid (rule_text_ok A n ps W (HE.out.below HR.out.2.2.2.1).pow HR.out.1.1 HR.out.1.2.1 HR.out.1.2.2 HR.out.2.2.1 h0)
      by_cases h1 : (⟨(ruleL (ruleC ps)).toArray⟩ : ByteArray) = s
      · have hok : parseOk s = true := by
          unfold parseOk
          rw [← HR.out.2.1, decide_eq_true h0, Bool.true_and, decide_eq_true_iff]
          have := congrArg (fun b : ByteArray => b.data.toList) h1
          simpa using this
        rw [h1] at KT
        clear h0 h1
        go_wp2_with fail
        refine KT.out.mono ?_
        rintro e w2 ⟨rfl, hb2⟩
        have HB2 := Lib.hid hb2
        have c4 := carry hb2 c4
        clear hb2
        go_wp2_with fail
        have hb9 := HR.out.2.2.2.1.trans (HB2.out.mono HR.out.2.2.2.1.size)
        have hK2 := (HB2.out.block D hDW).trans HR.out.2.2.2.2.1
        have hs2 := HB2.out.size
        have ep : ∀ k, k ≠ D → (w2.putObj D (.deferred none)).heap[k]? = w2.heap[k]? := fun k hk => put_other _ _ hk
        have b9 : Below w.heap.size w (w2.putObj D (.deferred none)) := ⟨hb9.1, hb9.2, hb9.3, by simpa using hb9.4, fun k hk => (ep k (by omega)).trans (hb9.5 k hk)⟩
        refine ⟨by simp, .inl ⟨_, _, rfl, run_takeDeferred hK2, ?_⟩⟩
        refine ⟨.tuple #[.slice A ps.length n, .nilIface], by simp [results, Tryz.results23, go_sem], ?_, b9⟩
        have hob : OB w.heap.size (w.heap.size + 4) W.heap.size (.slice A ps.length n) ps (w2.putObj D (.deferred none)) := by
          refine HR.out.2.2.2.2.2.kept (by omega) fun k cur t k1 k2 => ?_
          refine (ep k (fun e => ?_)).trans (HB2.out.block k k1)
          rw [e, HR.out.2.2.2.2.1] at k2
          cases k2
        unfold ParsePost
        rw [if_pos hok]
        exact ⟨A, n, ps, HR.out.2.1, hob.rule.1, HR.out.1.2.1, HR.out.1.2.2, HR.out.2.2.1, rfl⟩
      · have hok : parseOk s = false := by
          unfold parseOk
          rw [← HR.out.2.1, decide_eq_true h0, Bool.true_and, decide_eq_false_iff_not]
          intro h
          exact h1 (by rw [h])
        generalize (⟨(ruleL (ruleC ps)).toArray⟩ : ByteArray) = T at *
        have hne : (T.toList == s.toList) = false := text_ne h1
        clear h0 h1
        go_wp2_with fail
        refine KT.out.mono ?_
        rintro e w2 ⟨rfl, hb2⟩
        have HB2 := Lib.hid hb2
        have c4 := carry hb2 c4
        clear hb2
        go_wp2_with fail
        have hb9 := HR.out.2.2.2.1.trans (HB2.out.mono HR.out.2.2.2.1.size)
        have hK2 := (HB2.out.block D hDW).trans HR.out.2.2.2.2.1
        have hs2 := HB2.out.size
        have ep : ∀ k, k ≠ D → (w2.putObj D (.deferred none)).heap[k]? = w2.heap[k]? := fun k hk => put_other _ _ hk
        have b9 : Below w.heap.size w (w2.putObj D (.deferred none)) := ⟨hb9.1, hb9.2, hb9.3, by simpa using hb9.4, fun k hk => (ep k (by omega)).trans (hb9.5 k hk)⟩
        refine ⟨by simp, .inl ⟨_, _, rfl, run_takeDeferred hK2, ?_⟩⟩
        exact ⟨.tuple #[.slice none 0 0, errT 3], by simp [results, Tryz.results23, go_sem, errT], by unfold ParsePost; rw [hok]; rfl, b9⟩
    · have hok : parseOk s = false := by
        unfold parseOk
        rw [← HR.out.2.1, decide_eq_false h0, Bool.false_and]
      have KT := Lib.hid (rule_text_no A n ps W HR.out.1.1 HR.out.1.2.1 HR.out.1.2.2 (by rw [HR.out.2.1]; have := parse_count s; omega) h0)
      have KT := Lib.hid (by have := KT.out; simp only [errT] at this; exact this)
      clear h0
      go_wp2_with fail
      refine KT.out.mono ?_
      rintro e w2 ⟨rfl, hb2⟩
      have HB2 := Lib.hid hb2
      have c4 := carry hb2 c4
      clear hb2
      go_wp2_with fail
      have hb9 := HR.out.2.2.2.1.trans (HB2.out.mono HR.out.2.2.2.1.size)
      have hK2 := (HB2.out.block D hDW).trans HR.out.2.2.2.2.1
      have hs2 := HB2.out.size
      have ep : ∀ k, k ≠ D → (w2.putObj D (.deferred none)).heap[k]? = w2.heap[k]? := fun k hk => put_other _ _ hk
      have b9 : Below w.heap.size w (w2.putObj D (.deferred none)) := ⟨hb9.1, hb9.2, hb9.3, by simpa using hb9.4, fun k hk => (ep k (by omega)).trans (hb9.5 k hk)⟩
      refine ⟨by simp, .inl ⟨_, _, rfl, run_takeDeferred hK2, ?_⟩⟩
      exact ⟨.tuple #[.slice none 0 0, errT 3], by simp [results, Tryz.results23, go_sem, errT], by unfold ParsePost; rw [hok]; rfl, b9⟩
end Go.Proofs.YtplaohmdllindaaGreatDoor
