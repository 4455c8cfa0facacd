/- OpenRule, OpenFive: texts put together. -/
import Derived.Test.YthlcjlmaaaappaaGreatDoorCo3
import Derived.Test.YthlcjlmaaaappaaGreatDoorCo11
set_option linter.unusedVariables false
set_option linter.unusedSimpArgs false
/- Rules that came in, opened; what the bound says of them. -/
namespace Go.Proofs.YthlcjlmaaaappaaGreatDoor
open Go.RowKit Go.ChangeShapes Go.WideShapes Go.Joins Go.Deep

def PairAt (W : World) (a : Addr) (i : Nat) (p : Int × Int) : Prop := (W.cell? (a.add (i * 2)) = some (.int .i64 p.1) ∧ W.cell? (a.add (i * 2 + 1)) = some (.int .i64 p.2)) ∧ (-9223372036854775808 ≤ p.1 ∧ p.1 ≤ 9223372036854775807) ∧ (-9223372036854775808 ≤ p.2 ∧ p.2 ≤ 9223372036854775807)

section
variable {H : Type} {enc : TypeId × Value → H} {W : World} {base b0 : Nat} {r : Reach} {sp : Nat → Bool} {held : Bool}

set_option maxRecDepth 100000 in
theorem open_rngs {fuel : Nat} {v : Value} {y : DataW H × List MemPlace} (h : DataW.trod enc Tryz.prog W base sp held fuel 114 [v] = some y) :
    ∃ (A : Option Addr) (c : Nat) (rs : List (Int × Int)), v = .slice A rs.length c ∧ rs.length ≤ c ∧ c ≤ 9223372036854775807 ∧ RngIn W A rs ∧
      (∀ p ∈ rs, (-9223372036854775808 ≤ p.1 ∧ p.1 ≤ 9223372036854775807) ∧ (-9223372036854775808 ≤ p.2 ∧ p.2 ≤ 9223372036854775807)) ∧ rs.length + 1 ≤ Rows.uptoBulk y.1 := by
  rcases open_slice Tryz.underlying114 h with ⟨hcs, hx⟩ | ⟨a, len, cap, m, n, D, Pl, hcs, _, hl, hm, hmm, hx, hi⟩
  · simp only [List.cons.injEq, and_true] at hcs
    subst hcs
    exact ⟨none, 0, [], rfl, Nat.le_refl _, Nat.zero_le _, .inl rfl, by simp, by rw [hx]; simp [Rows.uptoBulk]⟩
  · simp only [List.cons.injEq, and_true] at hcs
    subst hcs
    have hc2 : Tryz.prog.cellsOf 163 = 2 := by kernel_rfl
    have hc1 : Tryz.prog.cellsOf 3 = 1 := by kernel_rfl
    have hk : ∀ i, i < len → ∃ p : Int × Int, PairAt W a i p := by
      intro i hil
      obtain ⟨cs', h1, h2⟩ := hi i (by rw [hmm]; split <;> omega)
      obtain ⟨ys, k, _, _, hcl, hyl, hat⟩ := DataW.trod_array Tryz.underlying163 h2
      rw [hc2] at h1
      obtain ⟨_, hlen, hcell⟩ := World.cells?_some h1
      match cs', hlen with
      | [u, x], _ =>
        have c0 := hcell 0 (by omega)
        have c1 := hcell 1 (by omega)
        have t0 := hat 0 (by omega)
        have t1 := hat 1 (by omega)
        rw [hc1] at t0 t1
        obtain ⟨n0, e0, _, w0⟩ := DataW.trod_int Tryz.underlying3 (t0.trans (List.getElem?_eq_getElem (by omega)))
        obtain ⟨n1, e1, _, w1⟩ := DataW.trod_int Tryz.underlying3 (t1.trans (List.getElem?_eq_getElem (by omega)))
        simp at e0 e1
        subst e0 e1
        refine ⟨(n0, n1), ⟨?_, ?_⟩, wf_i64 w0, wf_i64 w1⟩
        · exact c0
        · rw [← Go.Deep.add_add]
          exact c1
    obtain ⟨rs, hlen, hrs⟩ := list_of len hk
    refine ⟨some a, cap, rs, by rw [hlen], by omega, by simp only [maxLen] at hm; omega, ?_, fun p hp => ?_, ?_⟩
    · by_cases h0 : rs = []
      · exact .inl h0
      · right
        obtain ⟨p, hp⟩ : ∃ p, rs[0]? = some p := ⟨rs[0]'(by have := List.length_pos_iff.2 h0; omega), List.getElem?_eq_getElem _⟩
        obtain ⟨b, o, rfl⟩ := addr_plain (hrs 0 p hp).1.1 (by simp)
        refine ⟨b, o, rfl, fun j q hq => ?_⟩
        have := (hrs j q hq).1
        rw [Go.WideShapes.add_plain, Go.WideShapes.add_plain] at this
        exact this
    · obtain ⟨i, hi⟩ := List.mem_iff_getElem?.1 hp
      exact (hrs i p hi).2
    · rw [hx]
      have := bulk_len ((List.range len).map D)
      simp only [List.length_map, List.length_range] at this
      simp only [Rows.uptoBulk]
      omega

def RelAt (W : World) (a : Addr) (i : Nat) (d : RelD) : Prop := (∀ (j : Nat) u, d.cells[j]? = some u → W.cell? (a.add (i * 4 + j)) = some u) ∧ d.fits W

theorem u8_of {n : Int} (h : (Lit.int .u8 n).wf = true) : ∃ c : UInt8, n = (c.toNat : Int) := by
  have w3 : 0 ≤ n ∧ n ≤ 255 := by simpa [Lit.wf, IntKind.min, IntKind.max, IntKind.signed, IntKind.bits] using h
  exact ⟨UInt8.ofNat n.toNat, by rw [UInt8.toNat_ofNat']; omega⟩

set_option maxRecDepth 100000 in
/-- a row of rels -/
theorem open_rels {fuel : Nat} {v : Value} {y : DataW H × List MemPlace} (h : DataW.trod enc Tryz.prog W base sp held fuel 113 [v] = some y) :
    ∃ p : PartD, v = .slice p.A p.rs.length p.n ∧ p.fits W ∧ (∀ d ∈ p.rs, d.c.rs.length ≤ Rows.uptoBulk y.1) ∧ p.rs.length + 1 ≤ Rows.uptoBulk y.1 := by
  rcases open_fields Tryz.underlying113 Tryz.underlying116 (by kernel_rfl) (by kernel_rfl) h with ⟨hcs, hx⟩ | ⟨a, len, cap, m, D, hcs, hl, hm, hmm, hx, hi⟩
  · simp only [List.cons.injEq, and_true] at hcs
    subst hcs
    exact ⟨⟨[], none, 0⟩, rfl, ⟨.inl rfl, Nat.le_refl _, Nat.zero_le _, by simp⟩, by simp, by rw [hx]; simp [Rows.uptoBulk]⟩
  · simp only [List.cons.injEq, and_true] at hcs
    subst hcs
    have hk : ∀ i, i < len → ∃ d : RelD, RelAt W a i d ∧ d.c.rs.length ≤ Rows.uptoBulk (D i) := by
      intro i hil
      obtain ⟨ys, n, hD, hyl, hcell⟩ := hi i (by rw [hmm]; split <;> omega)
      obtain ⟨v0, y0, c0, e0, t0⟩ := hcell 0 _ rfl
      obtain ⟨v1, y1, c1, e1, t1⟩ := hcell 1 _ rfl
      obtain ⟨v2, y2, c2, e2, t2⟩ := hcell 2 _ rfl
      obtain ⟨v3, y3, c3, e3, t3⟩ := hcell 3 _ rfl
      obtain rfl : ys = [y0, y1, y2, y3] := by
        match ys, hyl with
        | [a0, a1, a2, a3], _ =>
          simp at e0 e1 e2 e3
          rw [e0, e1, e2, e3]
      obtain ⟨n0, x0, _, w0⟩ := DataW.trod_int Tryz.underlying5 t0
      obtain ⟨n1, x1, _, w1⟩ := DataW.trod_int Tryz.underlying3 t1
      obtain ⟨n2, x2, _⟩ := DataW.trod_bool Tryz.underlying4 t2
      obtain ⟨A, c, rs, x3, k1, k2, k3, k4, k5⟩ := open_rngs t3
      simp only [List.cons.injEq, and_true] at x0 x1 x2
      subst x0 x1 x2 x3
      obtain ⟨op, rfl⟩ := u8_of w0
      refine ⟨⟨⟨op, n1, n2, rs⟩, A, c⟩, ⟨?_, ⟨k3, k1, k2, wf_i64 w1, k4⟩⟩, ?_⟩
      · intro j u hu
        match j, hu with
        | 0, hu => cases hu; exact c0
        | 1, hu => cases hu; exact c1
        | 2, hu => cases hu; exact c2
        | 3, hu => cases hu; exact c3
      · rw [hD]
        simp only [List.map_cons, List.map_nil, Rows.uptoBulk, Rows.uptoBulkAll]
        omega
    obtain ⟨ds, hlen, hds⟩ := list_of len hk
    refine ⟨⟨ds, some a, cap⟩, by rw [hlen], ⟨?_, by show ds.length ≤ cap; omega, by simp only [maxLen] at hm; exact hm, fun d hd => ?_⟩, fun d hd => ?_, ?_⟩
    · by_cases h0 : ds = []
      · exact .inl h0
      · right
        obtain ⟨d, hd⟩ : ∃ d, ds[0]? = some d := ⟨ds[0]'(by have := List.length_pos_iff.2 h0; omega), List.getElem?_eq_getElem _⟩
        obtain ⟨b, o, rfl⟩ := addr_plain ((hds 0 d hd).1.1 0 _ rfl) (by simp)
        refine ⟨b, o, rfl, fun j t i u ht hu => ?_⟩
        have := (hds j t ht).1.1 i u hu
        rw [Go.WideShapes.add_plain] at this
        rw [Nat.add_assoc]
        exact this
    · obtain ⟨i, hi⟩ := List.mem_iff_getElem?.1 hd
      exact (hds i d hi).1.2
    · obtain ⟨i, hi'⟩ := List.mem_iff_getElem?.1 hd
      have h1 := (hds i d hi').2
      have h2 := bulk_mem (List.mem_map_of_mem (f := D) (List.mem_range.2 (show i < len by have := (List.getElem?_eq_some_iff.1 hi').1; rw [← hlen]; exact this)))
      rw [hx]
      simp only [Rows.uptoBulk]
      omega
    · rw [hx]
      have := bulk_len ((List.range len).map D)
      simp only [List.length_map, List.length_range] at this
      simp only [Rows.uptoBulk]
      omega

theorem part_c_length (p : PartD) : p.c.length = p.rs.length := by unfold PartD.c; rw [List.length_map]

set_option maxRecDepth 100000 in
/-- a rule -/
theorem open_rule {v : Value} {d : DataW H} {p : List MemPlace} (hv : Value.okWide Tryz.prog W r b0 82 v) (h : DataW.Trod enc Tryz.prog W base sp held 82 v d p) :
    ∃ (A : Option Addr) (c : Nat) (ps : List PartD), v = .slice A ps.length c ∧ ps.length ≤ c ∧ c ≤ 9223372036854775807 ∧ (A = none → c = 0) ∧ RuleIn W A ps ∧ (∀ q ∈ ps, ∀ e ∈ q.rs, e.c.rs.length ≤ Rows.uptoBulk d) ∧ ruleCount (ruleC ps) + ps.length ≤ Rows.uptoBulk d := by
  obtain ⟨a0, len, cap, rfl⟩ := okWide_slice Tryz.underlying82 hv
  obtain ⟨fuel, hf⟩ := h
  rcases open_slice1 Tryz.underlying82 (by kernel_rfl) hf with ⟨hcs, hx⟩ | ⟨a, len', cap', m, n, V, D, Pl, hcs, _, hl, hm, hmm, hx, hi⟩
  · simp only [Value.cells, List.cons.injEq, Value.slice.injEq, and_true] at hcs
    obtain ⟨rfl, rfl, rfl⟩ := hcs
    exact ⟨none, 0, [], rfl, Nat.le_refl _, Nat.zero_le _, fun _ => rfl, ⟨.inl rfl, by simp⟩, by simp, by simp [ruleC, ruleCount]⟩
  · simp only [Value.cells, List.cons.injEq, Value.slice.injEq, and_true] at hcs
    obtain ⟨rfl, rfl, rfl⟩ := hcs
    simp only [Prod.mk.injEq] at hx
    obtain ⟨hx, _⟩ := hx
    have hk : ∀ i, i < len → ∃ q : PartD, (W.cell? (a.add i) = some (.slice q.A q.rs.length q.n) ∧ q.fits W) ∧ (∀ e ∈ q.rs, e.c.rs.length ≤ Rows.uptoBulk (D i)) ∧ q.rs.length + 1 ≤ Rows.uptoBulk (D i) := by
      intro i hil
      obtain ⟨h1, h2⟩ := hi i (by rw [hmm]; split <;> omega)
      obtain ⟨q, e1, e2, e3, e4⟩ := open_rels h2
      exact ⟨q, ⟨by rw [h1, e1], e2⟩, e3, e4⟩
    obtain ⟨ps, hlen, hps⟩ := list_of len hk
    have hD : ∀ i, i < len → Rows.uptoBulk (D i) ≤ Rows.uptoBulkAll ((List.range len).map D) := fun i hi => bulk_mem (List.mem_map_of_mem (f := D) (List.mem_range.2 hi))
    refine ⟨some a, cap, ps, by rw [hlen], by omega, by simp only [maxLen] at hm; exact hm, (fun h => by cases h), ⟨?_, fun q hq => ?_⟩, fun q hq e he => ?_, ?_⟩
    · by_cases h0 : ps = []
      · exact .inl h0
      · right
        obtain ⟨q, hq⟩ : ∃ q, ps[0]? = some q := ⟨ps[0]'(by have := List.length_pos_iff.2 h0; omega), List.getElem?_eq_getElem _⟩
        obtain ⟨b, o, rfl⟩ := addr_plain (hps 0 q hq).1.1 rfl
        refine ⟨b, o, rfl, fun j t ht => ?_⟩
        have := (hps j t ht).1.1
        rw [Go.WideShapes.add_plain] at this
        exact this
    · obtain ⟨i, hi⟩ := List.mem_iff_getElem?.1 hq
      exact (hps i q hi).1.2
    · obtain ⟨i, hi'⟩ := List.mem_iff_getElem?.1 hq
      have h1 := (hps i q hi').2.1 e he
      have h2 := hD i (by have := (List.getElem?_eq_some_iff.1 hi').1; omega)
      rw [hx]
      simp only [Rows.uptoBulk]
      omega
    · have h1 := bulk_sum (fun q : PartD => q.rs.length + 1) D len ps hlen (fun i t ht => (hps i t ht).2.2)
      have h2 : (ps.map fun q : PartD => q.rs.length + 1).sum = ruleCount (ruleC ps) + ps.length := by
        clear h1 hlen hps
        induction ps with
        | nil => rfl
        | cons q r ih =>
          rw [List.map_cons, List.sum_cons, ih, show ruleC (q :: r) = q.c :: ruleC r from rfl, count_cons, part_c_length, List.length_cons]
          omega
      rw [hx]
      simp only [Rows.uptoBulk]
      omega
end
end Go.Proofs.YthlcjlmaaaappaaGreatDoor

/- Structs of five fields that came in, opened. -/
namespace Go.Proofs.YthlcjlmaaaappaaGreatDoor
open Go.RowKit Go.ChangeShapes Go.WideShapes Go.Joins Go.Deep

section
variable {H : Type} {enc : TypeId × Value → H} {P : Program} {w : World} {base : Nat} {spare : Nat → Bool} {held : Bool}
theorem open_agg5 {r : Reach} {b0 : Nat} {t : TypeId} {f0 f1 f2 f3 f4 : Field} {v : Value} {d : DataW H} {p : List MemPlace} (hs : P.underlying t = some (.struct #[f0, f1, f2, f3, f4])) (hone : oneCellFields P #[f0, f1, f2, f3, f4] = true) (hC : P.cellsOf t = 5)
    (hv : Value.okWide P w r b0 t v) (h : DataW.Trod enc P w base spare held t v d p) :
    ∃ (v0 v1 v2 v3 v4 : Value) (y0 y1 y2 y3 y4 : DataW H × List MemPlace) (n : Nat), v = .agg #[v0, v1, v2, v3, v4] ∧ d = .agg [y0.1, y1.1, y2.1, y3.1, y4.1] ∧
      DataW.trod enc P w base spare held n f0.type [v0] = some y0 ∧ DataW.trod enc P w base spare held n f1.type [v1] = some y1 ∧ DataW.trod enc P w base spare held n f2.type [v2] = some y2 ∧ DataW.trod enc P w base spare held n f3.type [v3] = some y3 ∧ DataW.trod enc P w base spare held n f4.type [v4] = some y4 := by
  obtain ⟨cs, rfl, hsz⟩ := okWide_struct hs hv
  obtain ⟨l⟩ := cs
  match l, hsz.trans hC with
  | [c0, c1, c2, c3, c4], _ =>
    obtain ⟨fuel, hf⟩ := h
    obtain ⟨xs, n, _, hx, _, hlen, hg⟩ := DataW.trod_struct hs hf
    obtain ⟨o0, k0⟩ := hone_of hone 0 f0 rfl
    obtain ⟨o1, k1⟩ := hone_of hone 1 f1 rfl
    obtain ⟨o2, k2⟩ := hone_of hone 2 f2 rfl
    obtain ⟨o3, k3⟩ := hone_of hone 3 f3 rfl
    obtain ⟨o4, k4⟩ := hone_of hone 4 f4 rfl
    match xs, hlen with
    | [y0, y1, y2, y3, y4], _ =>
      simp only [Prod.mk.injEq] at hx
      exact ⟨c0, c1, c2, c3, c4, y0, y1, y2, y3, y4, n, rfl, by simpa using hx.1, by simpa [Value.cells, o0, k0] using hg 0 f0 rfl, by simpa [Value.cells, o1, k1] using hg 1 f1 rfl, by simpa [Value.cells, o2, k2] using hg 2 f2 rfl, by simpa [Value.cells, o3, k3] using hg 3 f3 rfl, by simpa [Value.cells, o4, k4] using hg 4 f4 rfl⟩
end

section
variable {H : Type} {enc : TypeId × Value → H} {W : World} {base b0 : Nat} {r : Reach} {sp : Nat → Bool} {held : Bool} {v : Value} {d : DataW H} {p : List MemPlace}
set_option maxRecDepth 100000 in
theorem open_ops (hv : Value.okWide Tryz.prog W r b0 232 v) (h : DataW.Trod enc Tryz.prog W base sp held 232 v d p) :
    ∃ o : OpsC, v = opsV o.i o.v o.w o.f o.t ∧ o.fits := by
  obtain ⟨a0, a1, a2, a3, a4, y0, y1, y2, y3, y4, n, rfl, _, h0, h1, h2, h3, h4⟩ := open_agg5 Tryz.underlying232 (by kernel_rfl) (by kernel_rfl) hv h
  obtain ⟨x0, e0, _, w0⟩ := DataW.trod_int Tryz.underlying3 h0
  obtain ⟨x1, e1, _, w1⟩ := DataW.trod_int Tryz.underlying3 h1
  obtain ⟨x2, e2, _, w2⟩ := DataW.trod_int Tryz.underlying3 h2
  obtain ⟨x3, e3, _, w3⟩ := DataW.trod_int Tryz.underlying3 h3
  obtain ⟨x4, e4, _, w4⟩ := DataW.trod_int Tryz.underlying3 h4
  simp only [List.cons.injEq, and_true] at e0 e1 e2 e3 e4
  subst e0 e1 e2 e3 e4
  exact ⟨⟨x0, x1, x2, x3, x4⟩, rfl, wf_i64 w0, wf_i64 w1, wf_i64 w2, wf_i64 w3, wf_i64 w4⟩
/-- a set of rules: five texts -/
structure SetC where
  s0 : ByteArray
  s1 : ByteArray
  s2 : ByteArray
  s3 : ByteArray
  s4 : ByteArray
def SetC.at (s : SetC) (i : Nat) : ByteArray := match i with | 0 => s.s0 | 1 => s.s1 | 2 => s.s2 | 3 => s.s3 | 4 => s.s4 | _ => ⟨#[]⟩
abbrev setV (s0 s1 s2 s3 s4 : ByteArray) : Value := .agg #[.string s0, .string s1, .string s2, .string s3, .string s4]
set_option maxRecDepth 100000 in
theorem open_set (hv : Value.okWide Tryz.prog W r b0 40 v) (h : DataW.Trod enc Tryz.prog W base sp held 40 v d p) :
    ∃ s : SetC, v = setV s.s0 s.s1 s.s2 s.s3 s.s4 ∧ s.s0.size + 1 ≤ Rows.uptoBulk d ∧ s.s1.size + 1 ≤ Rows.uptoBulk d ∧ s.s2.size + 1 ≤ Rows.uptoBulk d ∧ s.s3.size + 1 ≤ Rows.uptoBulk d ∧ s.s4.size + 1 ≤ Rows.uptoBulk d := by
  obtain ⟨a0, a1, a2, a3, a4, y0, y1, y2, y3, y4, n, rfl, rfl, h0, h1, h2, h3, h4⟩ := open_agg5 Tryz.underlying40 (by kernel_rfl) (by kernel_rfl) hv h
  obtain ⟨x0, e0, z0, w0⟩ := DataW.trod_string Tryz.underlying9 h0
  obtain ⟨x1, e1, z1, w1⟩ := DataW.trod_string Tryz.underlying9 h1
  obtain ⟨x2, e2, z2, w2⟩ := DataW.trod_string Tryz.underlying9 h2
  obtain ⟨x3, e3, z3, w3⟩ := DataW.trod_string Tryz.underlying9 h3
  obtain ⟨x4, e4, z4, w4⟩ := DataW.trod_string Tryz.underlying9 h4
  simp only [List.cons.injEq, and_true] at e0 e1 e2 e3 e4
  subst e0 e1 e2 e3 e4 z0 z1 z2 z3 z4
  refine ⟨⟨x0, x1, x2, x3, x4⟩, rfl, ?_⟩
  simp only [Rows.uptoBulk, Rows.uptoBulkAll, Array.length_toList, ByteArray.size_data]
  omega
end
end Go.Proofs.YthlcjlmaaaappaaGreatDoor
