/- The rows of code: its steps, what begins where. -/
import Derived.Test.YthlcjlmaaaappaaDoorTyAt
import Derived.Test.YthlcjlmaaaappaaDoorMsgSize
namespace Go.Proofs.YthlcjlmaaaappaaDoor
open Go.RowKit

/-- six values of a cell each -/
def Six : Type := { l : List Value // l.length = 6 ∧ ∀ u ∈ l, u.oneCell' = true }
def Six.put (t : Six) (p : Nat) (u : Value) (hu : u.oneCell' = true) : Six := ⟨t.1.set p u, by rw [List.length_set]; exact t.2.1, fun x hx => by
  rcases List.mem_or_eq_of_mem_set hx with h | rfl
  · exact t.2.2 x h
  · exact hu⟩
def zeroStep : List Value := [.int .i64 0, .string ⟨#[]⟩, .int .i64 0, .slice none 0 0, .slice none 0 0, .int .i64 0]
def sixZero : Six := ⟨zeroStep, rfl, fun u hu => by
  simp only [zeroStep, List.mem_cons, List.not_mem_nil, or_false] at hu
  rcases hu with rfl | rfl | rfl | rfl | rfl | rfl <;> rfl⟩
def kStep : Kind Six where
  e := 63
  sl := 23
  size := 6
  bytes := 88
  cells := fun x => x.1
  zero := .agg #[.int .i64 0, .string ⟨#[]⟩, .int .i64 0, .slice none 0 0, .slice none 0 0, .int .i64 0]
  hsl := Tryd.underlying23
  hi := by
    have h : (Tryd.prog.info? 63).map (fun i => (i.zero, i.size, i.bytes)) = some (some (.agg #[.int .i64 0, .string ⟨#[]⟩, .int .i64 0, .slice none 0 0, .slice none 0 0, .int .i64 0]), 6, 88) := by kernel_rfl
    obtain ⟨i, hi, h2⟩ := Option.map_eq_some_iff.1 h
    simp only [Prod.mk.injEq] at h2
    exact ⟨i, hi, h2.1, h2.2.1, h2.2.2⟩
  hzs := rfl
  hpos := by decide
  hlen := fun t => t.2.1
  hone := fun x u hu => x.2.2 u hu
def kInt : Kind Int where
  e := 3
  sl := 61
  size := 1
  bytes := 8
  cells := fun x => [.int .i64 x]
  zero := .int .i64 0
  hsl := Tryd.underlying61
  hi := by
    have h : (Tryd.prog.info? 3).map (fun i => (i.zero, i.size, i.bytes)) = some (some (.int .i64 0), 1, 8) := by kernel_rfl
    obtain ⟨i, hi, h2⟩ := Option.map_eq_some_iff.1 h
    simp only [Prod.mk.injEq] at h2
    exact ⟨i, hi, h2.1, h2.2.1, h2.2.2⟩
  hzs := rfl
  hpos := by decide
  hlen := fun _ => rfl
  hone := fun x u hu => by
    simp only [List.mem_cons, List.not_mem_nil, or_false] at hu
    rcases hu with rfl; rfl
/-- a case of an empty body, for append -/
def kKey : Kind ByteArray where
  e := 35
  sl := 30
  size := 2
  bytes := 40
  cells := fun x => [.string x, .slice none 0 0]
  zero := .agg #[.string ⟨#[]⟩, .slice none 0 0]
  hsl := Tryd.underlying30
  hi := by
    have h : (Tryd.prog.info? 35).map (fun i => (i.zero, i.size, i.bytes)) = some (some (.agg #[.string ⟨#[]⟩, .slice none 0 0]), 2, 40) := by kernel_rfl
    obtain ⟨i, hi, h2⟩ := Option.map_eq_some_iff.1 h
    simp only [Prod.mk.injEq] at h2
    exact ⟨i, hi, h2.1, h2.2.1, h2.2.2⟩
  hzs := rfl
  hpos := by decide
  hlen := fun _ => rfl
  hone := fun x u hu => by
    simp only [List.mem_cons, List.not_mem_nil, or_false] at hu
    rcases hu with rfl | rfl <;> rfl

/-- so many steps that are the call's own -/
def StepsN (w : World) (base : Nat) (v : Value) (n : Nat) : Prop := ∃ ts : List Six, ts.length = n ∧ OwnsG kStep w base v ts
theorem StepsN.set {w : World} {base g m c n : Nat} (h : StepsN w base (.slice (some ⟨g, 0, none⟩) m c) n) (i p : Nat) (u : Value) (hu : u.oneCell' = true) (hi : i < n) (hp : p < 6) : StepsN (w.setCell ⟨g, i * 6 + p, none⟩ u) base (.slice (some ⟨g, 0, none⟩) m c) n := by
  obtain ⟨ts, rfl, ho⟩ := h
  obtain ⟨t, ht⟩ : ∃ t, ts[i]? = some t := ⟨ts[i], List.getElem?_eq_getElem hi⟩
  exact ⟨ts.set i (t.put p u hu), by rw [List.length_set], ho.turnAt i p (t.put p u hu) u hi hp (fun t' ht' => by rw [ht] at ht'; cases ht'; rfl)⟩
theorem StepsN.form {w : World} {base : Nat} {v : Value} {n : Nat} (h : StepsN w base v n) : ∃ A c, v = .slice A n c ∧ n ≤ c ∧ c ≤ 9223372036854775807 ∧ (0 < n → ∃ g, A = some ⟨g, 0, none⟩) := by
  obtain ⟨ts, rfl, ho⟩ := h
  obtain ⟨A, c, rfl, h1, h2, _, h3⟩ := ho.form
  refine ⟨A, c, rfl, h1, h2, fun hp => ?_⟩
  rcases h3 with h3 | ⟨g, h3, _⟩
  · rw [h3] at hp; simp at hp
  · exact ⟨g, h3⟩
/-- there is a second cell -/
def Two (w : World) (p : Nat) : Prop := ∃ u, w.cell? ⟨p, 1, none⟩ = some u
theorem Two.below {w w' : World} {p : Nat} (h : Two w p) (hb : Below w.heap.size w w') : Two w' p := by
  obtain ⟨u, h⟩ := h
  exact ⟨u, carry hb h⟩
theorem Two.off {w w' : World} {p : Nat} {m : List Nat} (h : Two w p) (ho : Off m w w') (hp : p ∉ m) : Two w' p := by
  obtain ⟨u, h⟩ := h
  exact ⟨u, ho.cell h hp⟩
theorem Two.set {w : World} {p : Nat} (h : Two w p) (g j : Nat) (v : Value) : Two (w.setCell ⟨g, j, none⟩ v) p := by
  obtain ⟨u, h⟩ := h
  by_cases e : (⟨g, j, none⟩ : Addr) = ⟨p, 1, none⟩
  · rw [e]; exact ⟨v, cell_same h⟩
  · exact ⟨u, cell_other h e⟩
/-- the code at p: so many steps -/
def CodeAt (w : World) (p base n : Nat) (sv : Value) : Prop := (w.cell? ⟨p, 0, none⟩ = some sv ∧ Two w p) ∧ TyAt w p 25 ∧ StepsN w base sv n
theorem CodeAt.below {w w' : World} {p base n : Nat} {sv : Value} (h : CodeAt w p base n sv) (hb : Below w.heap.size w w') : CodeAt w' p base n sv := by
  obtain ⟨⟨h1, h0⟩, h2, ts, h3, h4⟩ := h
  exact ⟨⟨carry hb h1, h0.below hb⟩, h2.below hb, ts, h3, h4.below hb⟩
theorem CodeAt.not {w : World} {p base n : Nat} {sv : Value} (h : CodeAt w p base n sv) : p ∉ sv.ownBlock.toList := by
  obtain ⟨_, h2, ts, _, h4⟩ := h
  exact h2.not h4 (by decide)
theorem CodeAt.off {w w' : World} {p base n : Nat} {sv : Value} {m : List Nat} (h : CodeAt w p base n sv) (ho : Off m w w') (hp : p ∉ m) (hs : ∀ g ∈ sv.ownBlock.toList, g ∉ m) : CodeAt w' p base n sv := by
  obtain ⟨⟨h1, h0⟩, h2, ts, h3, h4⟩ := h
  exact ⟨⟨ho.cell h1 hp, h0.off ho hp⟩, h2.off ho hp, ts, h3, h4.off ho (fun g hg => hs g (by simp [hg]))⟩
def CodeTo (w w' : World) (p base : Nat) (sv : Value) (n : Nat) : Prop := ∃ sv', CodeAt w' p base n sv' ∧ Fresh w sv sv' ∧ Off (p :: sv.ownBlock.toList) w w'
theorem CodeTo.trans {w w1 w2 : World} {p base : Nat} {sv sv1 : Value} {n : Nat} (hf : Fresh w sv sv1) (ho : Off (p :: sv.ownBlock.toList) w w1) (k : CodeTo w1 w2 p base sv1 n) : CodeTo w w2 p base sv n := by
  obtain ⟨sv2, h1, h2, h3⟩ := k
  refine ⟨sv2, h1, hf.trans h2 ho.size, ho.trans2 h3 fun i hi => ?_⟩
  rcases List.mem_cons.1 hi with rfl | hi
  · exact .inl (List.mem_cons_self ..)
  · rcases hf i hi with h | h
    · exact .inl (List.mem_cons_of_mem _ h)
    · exact .inr h
theorem CodeTo.toBelow {w w1 : World} {p base B : Nat} {sv : Value} {n n0 : Nat} (h : CodeTo w w1 p base sv n) (h0 : CodeAt w p base n0 sv) (hp : B ≤ p) (hb : B ≤ base) (hw : B ≤ w.heap.size) : Below B w w1 := by
  obtain ⟨sv1, h1, h2, h3⟩ := h
  refine h3.toBelow (fun k hk => ?_) hw
  rcases List.mem_cons.1 hk with rfl | hk
  · exact hp
  · obtain ⟨_, _, ts, _, h4⟩ := h0
    have := (h4.block k hk).1; omega
end Go.Proofs.YthlcjlmaaaappaaDoor
