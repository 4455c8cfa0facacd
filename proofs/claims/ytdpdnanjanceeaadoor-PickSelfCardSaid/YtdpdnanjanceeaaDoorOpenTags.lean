/- A slice of tags that came in, opened; what the reach says of it. -/
import Derived.Test.YtdpdnanjanceeaaDoorOpenTag
import Derived.Test.YtdpdnanjanceeaaDoorTagsFault
import Derived.Deep.Slices
import Derived.Deep.Fields
import Derived.ChangeSame
namespace Go.Proofs.YtdpdnanjanceeaaDoor
open Go.RowKit Go.ChangeShapes Go.WideShapes Go.Joins Go.Deep

theorem list_of {α : Type} {P : Nat → α → Prop} (n : Nat) (h : ∀ i, i < n → ∃ t, P i t) : ∃ ts : List α, ts.length = n ∧ ∀ (i : Nat) t, ts[i]? = some t → P i t := by
  induction n with
  | zero => exact ⟨[], rfl, fun i t h => by simp at h⟩
  | succ n ih =>
    obtain ⟨ts, hl, ht⟩ := ih (fun i hi => h i (by omega))
    obtain ⟨t, hP⟩ := h n (by omega)
    refine ⟨ts ++ [t], by simp [hl], fun i u hu => ?_⟩
    by_cases hi : i < ts.length
    · rw [List.getElem?_append_left hi] at hu
      exact ht i u hu
    · rw [List.getElem?_append_right (by omega)] at hu
      obtain ⟨h0, h1⟩ := List.getElem?_eq_some_iff.1 hu
      simp at h0
      obtain rfl : i = n := by omega
      simp at h1
      subst h1
      exact hP

section
variable {H : Type} {enc : TypeId × Value → H} {P : Program} {w : World} {base : Nat} {spare : Nat → Bool} {held : Bool}
/-- A slice of structs of one-cell fields. -/
theorem open_fields {t e : TypeId} {fs : Array Field} {fuel : Nat} {cs : List Value} {x : DataW H × List MemPlace} (ht : P.underlying t = some (.slice e)) (he : P.underlying e = some (.struct fs))
    (hone : oneCellFields P fs = true) (hC : P.cellsOf e = fs.size) (h : DataW.trod enc P w base spare held fuel t cs = some x) :
    (cs = [.slice none 0 0] ∧ x = (.nil, [])) ∨
    ∃ (a : Addr) (len cap m : Nat) (D : Nat → DataW H), cs = [.slice (some a) len cap] ∧ len ≤ cap ∧ cap ≤ maxLen ∧ m = (if spare a.block then cap else len) ∧
      x.1 = .slice ((List.range len).map D) ((List.range (m - len)).map fun j => D (len + j)) ∧
      ∀ i, i < m → ∃ (ys : List (DataW H × List MemPlace)) (n : Nat), D i = .agg (ys.map (·.1)) ∧ ys.length = fs.size ∧
        ∀ (j : Nat) (f : Field), fs[j]? = some f → ∃ (v : Value) (y : DataW H × List MemPlace), w.cell? (a.add (i * fs.size + j)) = some v ∧ ys[j]? = some y ∧ DataW.trod enc P w base spare held n f.type [v] = some y := by
  rcases open_slice ht h with h0 | ⟨a, len, cap, m, n, D, Pl, hcs, hb, hl, hm, hmm, hx, hi⟩
  · exact .inl h0
  · refine .inr ⟨a, len, cap, m, D, hcs, hl, hm, hmm, by rw [hx], fun i him => ?_⟩
    obtain ⟨cs', hc, ht'⟩ := hi i him
    rw [hC] at hc
    obtain ⟨ys, n', hn', hy, hlen, hyl, hf⟩ := DataW.trod_struct he ht'
    obtain ⟨_, hcl, hat⟩ := World.cells?_some hc
    simp only [Prod.mk.injEq] at hy
    refine ⟨ys, n', hy.1, hyl, fun j f hj => ?_⟩
    obtain ⟨ho, hk⟩ := Go.Deep.hone_of hone j f hj
    have hjl : j < fs.size := (Array.getElem?_eq_some_iff.1 hj).1
    have hcell := hat j hjl
    have hv : cs'[j]? = some (cs'[j]'(by omega)) := List.getElem?_eq_getElem (by omega)
    have h1 := hf j f hj
    rw [ho, hk] at h1
    have hone' : (cs'.drop j).take 1 = [cs'[j]'(by omega)] := by
      rw [List.drop_eq_getElem_cons (by omega)]
      rfl
    rw [hone'] at h1
    have hys : ys[j]? = some (ys[j]'(by omega)) := List.getElem?_eq_getElem (by omega)
    refine ⟨_, _, ?_, hys, h1.trans hys⟩
    rw [← Go.Deep.add_add, hcell, hv]
end

theorem all_part {l m : List Nat} {q : Nat → Bool} (h : (l ++ m).all q = true) : l.all q = true ∧ m.all q = true := by
  rw [List.all_append, Bool.and_eq_true] at h
  exact h
theorem weightsAll_mem {H : Type} {P : Program} {e : TypeId} {ds : List (DataW H)} {q : Nat → Bool} (h : (DataW.weightsAll P e ds).all q = true) : ∀ d ∈ ds, (d.weights P e).all q = true := by
  induction ds with
  | nil => intro d hd; cases hd
  | cons x r ih =>
    have h2 := all_part (l := x.weights P e) (m := DataW.weightsAll P e r) h
    intro d hd
    rcases List.mem_cons.1 hd with rfl | hd
    · exact h2.1
    · exact ih h2.2 d hd

theorem open_strs_sized {H : Type} {enc : TypeId × Value → H} {P : Program} {W : World} {base fuel : Nat} {held : Bool} {t e : TypeId} {v : Value} {y : DataW H × List MemPlace} (ht : P.underlying t = some (.slice e)) (he : P.underlying e = some .string) (hc : P.cellsOf e = 1) (hby : P.bytesOf e = 16)
    (h : DataW.trod enc P W base (fun _ => true) held fuel t [v] = some y) (hw : (y.1.weights P t).all (· ≤ reachBytes) = true) :
    ∃ (A : Option Addr) (c : Nat) (xs : List ByteArray), v = .slice A xs.length c ∧ xs.length ≤ c ∧ c ≤ 8800000000000 ∧ (A = none → c = 0) ∧ StrsIn W A xs ∧ ∀ x ∈ xs, x.size ≤ 140737488355328 := by
  rcases open_strings ht he hc h with ⟨hcs, hx⟩ | ⟨a, len, cap, ss, hcs, _, hl, hm, hz, hx, hcell, hws⟩
  · simp only [List.cons.injEq, and_true] at hcs
    subst hcs
    exact ⟨none, 0, [], rfl, Nat.le_refl _, Nat.zero_le _, fun _ => rfl, .inl rfl, by simp⟩
  · simp only [List.cons.injEq, and_true] at hcs
    subst hcs
    simp only [if_true] at hz
    have hlen : (ss.take len).length = len := by rw [List.length_take, hz]; omega
    rw [hx] at hw
    simp only [DataW.weights, ht, List.all_cons, List.all_append, Bool.and_eq_true, decide_eq_true_eq, hby] at hw
    obtain ⟨w1, w2, _⟩ := hw
    have wl : len * 16 ≤ 140737488351232 ∧ cap * 16 ≤ 140737488351232 := by
      simp only [strs, List.length_map, reachBytes, List.length_take, List.length_drop, hz] at w1
      omega
    refine ⟨some a, cap, ss.take len, by rw [hlen], by rw [hlen]; exact hl, by omega, (fun h => by cases h), ?_, fun x hx => ?_⟩
    · by_cases h0 : ss.take len = []
      · exact .inl h0
      · have h1 : 0 < ss.length := by
          rcases ss with _ | ⟨s, r⟩
          · simp at h0
          · simp
        have hc0 := hcell 0 h1
        obtain ⟨b, o, rfl⟩ : ∃ b o, a = ⟨b, o, none⟩ := by
          obtain ⟨b, o, spot⟩ := a
          have hspot : spot = none := by simpa [Addr.add] using World.cell?_spot hc0
          subst hspot
          exact ⟨b, o, rfl⟩
        refine .inr ⟨b, o, rfl, fun j x hx => ?_⟩
        rw [List.getElem?_take] at hx
        split at hx
        · have hj : j < ss.length := (List.getElem?_eq_some_iff.1 hx).1
          have := hcell j hj
          simp only [List.getD_eq_getElem?_getD, hx, Option.getD_some] at this
          rw [← Go.WideShapes.add_plain]
          exact this
        · cases hx
    · have h0 := weightsAll_mem w2 (.lit (.string x.data.toList)) (List.mem_map_of_mem (f := fun s : ByteArray => DataW.lit (Lit.string s.data.toList)) hx)
      simp only [DataW.weights, List.all_cons, List.all_nil, Bool.and_true, decide_eq_true_eq] at h0
      have : x.data.toList.length = x.size := by simp
      rw [this] at h0
      exact Nat.le_trans h0 (by decide)

theorem one_weight {n : Nat} (h : ([n].all fun x => decide (x ≤ reachBytes)) = true) : n ≤ 140737488355328 := by
  simp only [List.all_cons, List.all_nil, Bool.and_true, decide_eq_true_eq] at h
  exact Nat.le_trans h (by decide)

def TagAt (W : World) (a : Addr) (i : Nat) (t : TagD) : Prop := (∀ (j : Nat) u, t.cells[j]? = some u → W.cell? (a.add (i * 4 + j)) = some u) ∧ t.fine W ∧ t.small

set_option maxRecDepth 100000 in
theorem open_tags {H : Type} {enc : TypeId × Value → H} {W : World} {base b0 : Nat} {r : Reach} {held : Bool} {v : Value} {d : DataW H} {p : List MemPlace}
    (hv : Value.okWide Tryd.prog W r b0 33 v) (h : DataW.Trod enc Tryd.prog W base (fun _ => true) held 33 v d p) (hw : (d.weights Tryd.prog 33).all (· ≤ reachBytes) = true) :
    ∃ (A : Option Addr) (n c : Nat) (ts : List TagD), v = .slice A n c ∧ ts.length = n ∧ n ≤ c ∧ n ≤ 1955000000000 ∧ (n = 0 ∨ ∃ g o, A = some ⟨g, o, none⟩ ∧ TagsIn W g o ts) ∧ (∀ t ∈ ts, t.fine W) ∧ (∀ t ∈ ts, t.small) := by
  obtain ⟨a0, len, cap, rfl⟩ := okWide_slice Tryd.underlying33 hv
  obtain ⟨fuel, hf⟩ := h
  rcases open_fields Tryd.underlying33 Tryd.underlying24 (by kernel_rfl) (by kernel_rfl) hf with ⟨hcs, hx⟩ | ⟨a, len', cap', m, D, hcs, hl, hm, hmm, hx, hi⟩
  · simp only [Value.cells, List.cons.injEq, Value.slice.injEq, and_true] at hcs
    obtain ⟨rfl, rfl, rfl⟩ := hcs
    exact ⟨none, 0, 0, [], rfl, rfl, Nat.le_refl _, by omega, .inl rfl, by simp, by simp⟩
  · simp only [Value.cells, List.cons.injEq, Value.slice.injEq, and_true] at hcs
    obtain ⟨rfl, rfl, rfl⟩ := hcs
    simp only [if_true] at hmm
    subst hmm
    simp only at hx
    rw [hx] at hw
    have hby : Tryd.prog.bytesOf 24 = 72 := by kernel_rfl
    have hby2 : Tryd.prog.bytesOf 9 = 16 := by kernel_rfl
    simp only [DataW.weights, Tryd.underlying33, List.all_cons, List.all_append, Bool.and_eq_true, decide_eq_true_eq, hby, List.length_map, List.length_range, reachBytes] at hw
    obtain ⟨w1, w2, _⟩ := hw
    have wl : len * 72 ≤ 140737488351232 := Nat.le_trans (Nat.mul_le_mul_right _ (Nat.le_add_right _ _)) (of_decide_eq_true w1)
    have hk : ∀ i, i < len → ∃ t, TagAt W a i t := by
      intro i hil
      obtain ⟨ys, n, hD, hyl, hcell⟩ := hi i (by omega)
      have hwi := weightsAll_mem w2 (D i) (List.mem_map_of_mem (List.mem_range.2 hil))
      obtain ⟨v0, y0, c0, e0, t0⟩ := hcell 0 _ rfl
      obtain ⟨v1, y1, c1, e1, t1⟩ := hcell 1 _ rfl
      obtain ⟨v2, y2, c2, e2, t2⟩ := hcell 2 _ rfl
      obtain ⟨v3, y3, c3, e3, t3⟩ := hcell 3 _ rfl
      obtain rfl : ys = [y0, y1, y2, y3] := by
        match ys, hyl with
        | [a0, a1, a2, a3], _ =>
          simp at e0 e1 e2 e3
          rw [e0, e1, e2, e3]
      rw [hD] at hwi
      simp only [DataW.weights, Tryd.underlying24, List.map_cons, List.map_nil, DataW.weightsEach, List.all_append, Bool.and_eq_true] at hwi
      obtain ⟨q0, q1, q2, q3, _⟩ := hwi
      obtain ⟨l, x0, r0, z0⟩ := DataW.trod_string Tryd.underlying9 t0
      obtain ⟨s, x1, r1, z1⟩ := DataW.trod_string Tryd.underlying9 t1
      obtain ⟨g, x2, r2, z2⟩ := DataW.trod_string Tryd.underlying9 t2
      obtain ⟨A, c, vs, x3, k1, k2, k3, k4, k5⟩ := open_strs_sized Tryd.underlying22 Tryd.underlying9 (by kernel_rfl) hby2 t3 q3
      simp only [List.cons.injEq, and_true] at x0 x1 x2 x3
      subst x0 x1 x2 x3
      subst r0 r1 r2
      simp only [DataW.weights] at q0 q1 q2
      have q0' := one_weight q0
      have q1' := one_weight q1
      have q2' := one_weight q2
      simp only [Array.length_toList] at q0' q1' q2'
      refine ⟨⟨⟨l, s, g, vs⟩, A, c⟩, ?_, ⟨k4, k3, k1⟩, ⟨⟨q0', q1', q2'⟩, k5, by show c ≤ _; omega⟩⟩
      intro j u hu
      match j, hu with
      | 0, hu => cases hu; exact c0
      | 1, hu => cases hu; exact c1
      | 2, hu => cases hu; exact c2
      | 3, hu => cases hu; exact c3
    obtain ⟨ts, hlen, hts⟩ := list_of len hk
    refine ⟨some a, len, m, ts, rfl, hlen, hl, by omega, ?_, fun t ht => ?_, fun t ht => ?_⟩
    · by_cases h0 : len = 0
      · exact .inl h0
      · right
        obtain ⟨t, ht⟩ : ∃ t, ts[0]? = some t := ⟨ts[0]'(by omega), List.getElem?_eq_getElem _⟩
        have hc0 := (hts 0 t ht).1 0 _ rfl
        obtain ⟨b, o, rfl⟩ : ∃ b o, a = ⟨b, o, none⟩ := by
          obtain ⟨b, o, spot⟩ := a
          have hspot : spot = none := by simpa [Addr.add] using World.cell?_spot hc0
          subst hspot
          exact ⟨b, o, rfl⟩
        refine ⟨b, o, rfl, fun j t i u ht hu => ?_⟩
        have := (hts j t ht).1 i u hu
        rw [Go.WideShapes.add_plain] at this
        rw [Nat.add_assoc]
        exact this
    · obtain ⟨i, hi⟩ := List.mem_iff_getElem?.1 ht
      exact (hts i t hi).2.1
    · obtain ⟨i, hi⟩ := List.mem_iff_getElem?.1 ht
      exact (hts i t hi).2.2
end Go.Proofs.YtdpdnanjanceeaaDoor
