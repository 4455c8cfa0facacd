/- Rules that came in, opened; what the bound says of them. -/
import Derived.Test.YtkklemhhimcahaaGreatDoorOpenList
import Derived.Test.YtkklemhhimcahaaGreatDoorRuleMem
namespace Go.Proofs.YtkklemhhimcahaaGreatDoor
open Go.RowKit Go.ChangeShapes Go.WideShapes Go.Joins Go.Deep

theorem bulk_pos {H : Type} (d : DataW H) : 1 ≤ Rows.uptoBulk d := by
  cases d with
  | lit l => cases l <;> (unfold Rows.uptoBulk; omega)
  | nil => unfold Rows.uptoBulk; omega
  | ptr d => unfold Rows.uptoBulk; omega
  | slice a b => unfold Rows.uptoBulk; omega
  | agg a => unfold Rows.uptoBulk; omega
  | iface a b => unfold Rows.uptoBulk; omega
  | map a => unfold Rows.uptoBulk; omega
  | held a => unfold Rows.uptoBulk; omega
theorem bulk_mem {H : Type} {d : DataW H} : ∀ {l : List (DataW H)}, d ∈ l → Rows.uptoBulk d ≤ Rows.uptoBulkAll l
  | [], h => by cases h
  | x :: r, h => by
    simp only [Rows.uptoBulkAll]
    rcases List.mem_cons.1 h with rfl | h
    · omega
    · have := bulk_mem h; omega
theorem bulk_len {H : Type} : ∀ (l : List (DataW H)), l.length ≤ Rows.uptoBulkAll l
  | [] => by simp
  | x :: r => by
    have h1 := bulk_pos x
    have h2 := bulk_len r
    simp only [Rows.uptoBulkAll, List.length_cons]
    omega
theorem bulkAll_append {H : Type} : ∀ (a b : List (DataW H)), Rows.uptoBulkAll (a ++ b) = Rows.uptoBulkAll a + Rows.uptoBulkAll b
  | [], b => by simp [Rows.uptoBulkAll]
  | x :: r, b => by simp only [List.cons_append, Rows.uptoBulkAll, bulkAll_append r b]; omega
/-- what each is no more than its data's bulk, all are no more than the list's -/
theorem bulk_sum {H : Type} {α : Type} (f : α → Nat) (D : Nat → DataW H) : ∀ (n : Nat) (ts : List α), ts.length = n → (∀ (i : Nat) t, ts[i]? = some t → f t ≤ Rows.uptoBulk (D i)) → (ts.map f).sum ≤ Rows.uptoBulkAll ((List.range n).map D) := by
  intro n
  induction n with
  | zero => intro ts h _; obtain rfl := List.length_eq_zero_iff.1 h; simp
  | succ n ih =>
    intro ts h hf
    have hne : ts ≠ [] := by intro e; rw [e] at h; simp at h
    obtain ⟨r, t, rfl⟩ : ∃ r t, ts = r ++ [t] := ⟨ts.dropLast, ts.getLast hne, (List.dropLast_concat_getLast hne).symm⟩
    have hr : r.length = n := by simpa using h
    have h1 := ih r hr (fun i u hu => hf i u (by rw [List.getElem?_append_left (List.getElem?_eq_some_iff.1 hu).1]; exact hu))
    have h2 := hf n t (by rw [← hr]; simp)
    rw [List.range_succ, List.map_append (f := D), bulkAll_append, List.map_append, List.sum_append]
    simp only [List.map_cons, List.map_nil, List.sum_cons, List.sum_nil, Rows.uptoBulkAll]
    omega

theorem addr_plain {W : World} {a : Addr} {n : Nat} {v : Value} (h : W.cell? (a.add n) = some v) (hn : n = 0) : ∃ b o, a = ⟨b, o, none⟩ := by
  obtain ⟨b, o, spot⟩ := a
  subst hn
  have hspot : spot = none := World.cell?_spot (show W.cell? ⟨b, o, spot⟩ = some v from h)
  subst hspot
  exact ⟨b, o, rfl⟩
theorem wf_i64 {n : Int} (h : (Lit.int .i64 n).wf = true) : -9223372036854775808 ≤ n ∧ n ≤ 9223372036854775807 := by
  simpa [Lit.wf, IntKind.min, IntKind.max, IntKind.signed, IntKind.bits] using h

def PairAt (W : World) (a : Addr) (i : Nat) (p : Int × Int) : Prop := (W.cell? (a.add (i * 2)) = some (.int .i64 p.1) ∧ W.cell? (a.add (i * 2 + 1)) = some (.int .i64 p.2)) ∧ (-9223372036854775808 ≤ p.1 ∧ p.1 ≤ 9223372036854775807) ∧ (-9223372036854775808 ≤ p.2 ∧ p.2 ≤ 9223372036854775807)

section
variable {H : Type} {enc : TypeId × Value → H} {W : World} {base b0 : Nat} {r : Reach} {sp : Nat → Bool} {held : Bool}

set_option maxRecDepth 100000 in
theorem open_rngs {fuel : Nat} {v : Value} {y : DataW H × List MemPlace} (h : DataW.trod enc Tryz.prog W base sp held fuel 22 [v] = some y) :
    ∃ (A : Option Addr) (c : Nat) (rs : List (Int × Int)), v = .slice A rs.length c ∧ rs.length ≤ c ∧ c ≤ 9223372036854775807 ∧ RngIn W A rs ∧
      (∀ p ∈ rs, (-9223372036854775808 ≤ p.1 ∧ p.1 ≤ 9223372036854775807) ∧ (-9223372036854775808 ≤ p.2 ∧ p.2 ≤ 9223372036854775807)) ∧ rs.length + 1 ≤ Rows.uptoBulk y.1 := by
  rcases open_slice Tryz.underlying22 h with ⟨hcs, hx⟩ | ⟨a, len, cap, m, n, D, Pl, hcs, _, hl, hm, hmm, hx, hi⟩
  · simp only [List.cons.injEq, and_true] at hcs
    subst hcs
    exact ⟨none, 0, [], rfl, Nat.le_refl _, Nat.zero_le _, .inl rfl, by simp, by rw [hx]; simp [Rows.uptoBulk]⟩
  · simp only [List.cons.injEq, and_true] at hcs
    subst hcs
    have hc2 : Tryz.prog.cellsOf 103 = 2 := by kernel_rfl
    have hc1 : Tryz.prog.cellsOf 3 = 1 := by kernel_rfl
    have hk : ∀ i, i < len → ∃ p : Int × Int, PairAt W a i p := by
      intro i hil
      obtain ⟨cs', h1, h2⟩ := hi i (by rw [hmm]; split <;> omega)
      obtain ⟨ys, k, _, _, hcl, hyl, hat⟩ := DataW.trod_array Tryz.underlying103 h2
      rw [hc2] at h1
      obtain ⟨_, hlen, hcell⟩ := World.cells?_some h1
      match cs', hlen with
      | [u, x], _ =>
        have c0 := hcell 0 (by omega)
        have c1 := hcell 1 (by omega)
        have t0 := hat 0 (by omega)
        have t1 := hat 1 (by omega)
        rw [hc1] at t0 t1
        obtain ⟨n0, e0, _, w0⟩ := DataW.trod_int Tryz.underlying3 (t0.trans (List.getElem?_eq_getElem (by omega)))
        obtain ⟨n1, e1, _, w1⟩ := DataW.trod_int Tryz.underlying3 (t1.trans (List.getElem?_eq_getElem (by omega)))
        simp at e0 e1
        subst e0 e1
        refine ⟨(n0, n1), ⟨?_, ?_⟩, wf_i64 w0, wf_i64 w1⟩
        · exact c0
        · rw [← Go.Deep.add_add]
          exact c1
    obtain ⟨rs, hlen, hrs⟩ := list_of len hk
    refine ⟨some a, cap, rs, by rw [hlen], by omega, by simp only [maxLen] at hm; omega, ?_, fun p hp => ?_, ?_⟩
    · by_cases h0 : rs = []
      · exact .inl h0
      · right
        obtain ⟨p, hp⟩ : ∃ p, rs[0]? = some p := ⟨rs[0]'(by have := List.length_pos_iff.2 h0; omega), List.getElem?_eq_getElem _⟩
        obtain ⟨b, o, rfl⟩ := addr_plain (hrs 0 p hp).1.1 (by simp)
        refine ⟨b, o, rfl, fun j q hq => ?_⟩
        have := (hrs j q hq).1
        rw [Go.WideShapes.add_plain, Go.WideShapes.add_plain] at this
        exact this
    · obtain ⟨i, hi⟩ := List.mem_iff_getElem?.1 hp
      exact (hrs i p hi).2
    · rw [hx]
      have := bulk_len ((List.range len).map D)
      simp only [List.length_map, List.length_range] at this
      simp only [Rows.uptoBulk]
      omega

def RelAt (W : World) (a : Addr) (i : Nat) (d : RelD) : Prop := (∀ (j : Nat) u, d.cells[j]? = some u → W.cell? (a.add (i * 4 + j)) = some u) ∧ d.fits W

theorem u8_of {n : Int} (h : (Lit.int .u8 n).wf = true) : ∃ c : UInt8, n = (c.toNat : Int) := by
  have w3 : 0 ≤ n ∧ n ≤ 255 := by simpa [Lit.wf, IntKind.min, IntKind.max, IntKind.signed, IntKind.bits] using h
  exact ⟨UInt8.ofNat n.toNat, by rw [UInt8.toNat_ofNat']; omega⟩

set_option maxRecDepth 100000 in
/-- a row of rels -/
theorem open_rels {fuel : Nat} {v : Value} {y : DataW H × List MemPlace} (h : DataW.trod enc Tryz.prog W base sp held fuel 32 [v] = some y) :
    ∃ p : PartD, v = .slice p.A p.rs.length p.n ∧ p.fits W ∧ (∀ d ∈ p.rs, d.c.rs.length ≤ Rows.uptoBulk y.1) ∧ p.rs.length + 1 ≤ Rows.uptoBulk y.1 := by
  rcases open_fields Tryz.underlying32 Tryz.underlying24 (by kernel_rfl) (by kernel_rfl) h with ⟨hcs, hx⟩ | ⟨a, len, cap, m, D, hcs, hl, hm, hmm, hx, hi⟩
  · simp only [List.cons.injEq, and_true] at hcs
    subst hcs
    exact ⟨⟨[], none, 0⟩, rfl, ⟨.inl rfl, Nat.le_refl _, Nat.zero_le _, by simp⟩, by simp, by rw [hx]; simp [Rows.uptoBulk]⟩
  · simp only [List.cons.injEq, and_true] at hcs
    subst hcs
    have hk : ∀ i, i < len → ∃ d : RelD, RelAt W a i d ∧ d.c.rs.length ≤ Rows.uptoBulk (D i) := by
      intro i hil
      obtain ⟨ys, n, hD, hyl, hcell⟩ := hi i (by rw [hmm]; split <;> omega)
      obtain ⟨v0, y0, c0, e0, t0⟩ := hcell 0 _ rfl
      obtain ⟨v1, y1, c1, e1, t1⟩ := hcell 1 _ rfl
      obtain ⟨v2, y2, c2, e2, t2⟩ := hcell 2 _ rfl
      obtain ⟨v3, y3, c3, e3, t3⟩ := hcell 3 _ rfl
      obtain rfl : ys = [y0, y1, y2, y3] := by
        match ys, hyl with
        | [a0, a1, a2, a3], _ =>
          simp at e0 e1 e2 e3
          rw [e0, e1, e2, e3]
      obtain ⟨n0, x0, _, w0⟩ := DataW.trod_int Tryz.underlying5 t0
      obtain ⟨n1, x1, _, w1⟩ := DataW.trod_int Tryz.underlying3 t1
      obtain ⟨n2, x2, _⟩ := DataW.trod_bool Tryz.underlying4 t2
      obtain ⟨A, c, rs, x3, k1, k2, k3, k4, k5⟩ := open_rngs t3
      simp only [List.cons.injEq, and_true] at x0 x1 x2
      subst x0 x1 x2 x3
      obtain ⟨op, rfl⟩ := u8_of w0
      refine ⟨⟨⟨op, n1, n2, rs⟩, A, c⟩, ⟨?_, ⟨k3, k1, k2, wf_i64 w1, k4⟩⟩, ?_⟩
      · intro j u hu
        match j, hu with
        | 0, hu => cases hu; exact c0
        | 1, hu => cases hu; exact c1
        | 2, hu => cases hu; exact c2
        | 3, hu => cases hu; exact c3
      · rw [hD]
        simp only [List.map_cons, List.map_nil, Rows.uptoBulk, Rows.uptoBulkAll]
        omega
    obtain ⟨ds, hlen, hds⟩ := list_of len hk
    refine ⟨⟨ds, some a, cap⟩, by rw [hlen], ⟨?_, by show ds.length ≤ cap; omega, by simp only [maxLen] at hm; exact hm, fun d hd => ?_⟩, fun d hd => ?_, ?_⟩
    · by_cases h0 : ds = []
      · exact .inl h0
      · right
        obtain ⟨d, hd⟩ : ∃ d, ds[0]? = some d := ⟨ds[0]'(by have := List.length_pos_iff.2 h0; omega), List.getElem?_eq_getElem _⟩
        obtain ⟨b, o, rfl⟩ := addr_plain ((hds 0 d hd).1.1 0 _ rfl) (by simp)
        refine ⟨b, o, rfl, fun j t i u ht hu => ?_⟩
        have := (hds j t ht).1.1 i u hu
        rw [Go.WideShapes.add_plain] at this
        rw [Nat.add_assoc]
        exact this
    · obtain ⟨i, hi⟩ := List.mem_iff_getElem?.1 hd
      exact (hds i d hi).1.2
    · obtain ⟨i, hi'⟩ := List.mem_iff_getElem?.1 hd
      have h1 := (hds i d hi').2
      have h2 := bulk_mem (List.mem_map_of_mem (f := D) (List.mem_range.2 (show i < len by have := (List.getElem?_eq_some_iff.1 hi').1; rw [← hlen]; exact this)))
      rw [hx]
      simp only [Rows.uptoBulk]
      omega
    · rw [hx]
      have := bulk_len ((List.range len).map D)
      simp only [List.length_map, List.length_range] at this
      simp only [Rows.uptoBulk]
      omega

theorem part_c_length (p : PartD) : p.c.length = p.rs.length := by unfold PartD.c; rw [List.length_map]

set_option maxRecDepth 100000 in
/-- a rule -/
theorem open_rule {v : Value} {d : DataW H} {p : List MemPlace} (hv : Value.okWide Tryz.prog W r b0 25 v) (h : DataW.Trod enc Tryz.prog W base sp held 25 v d p) :
    ∃ (A : Option Addr) (c : Nat) (ps : List PartD), v = .slice A ps.length c ∧ ps.length ≤ c ∧ c ≤ 9223372036854775807 ∧ (A = none → c = 0) ∧ RuleIn W A ps ∧ (∀ q ∈ ps, ∀ e ∈ q.rs, e.c.rs.length ≤ Rows.uptoBulk d) ∧ ruleCount (ruleC ps) + ps.length ≤ Rows.uptoBulk d := by
  obtain ⟨a0, len, cap, rfl⟩ := okWide_slice Tryz.underlying25 hv
  obtain ⟨fuel, hf⟩ := h
  rcases open_slice1 Tryz.underlying25 (by kernel_rfl) hf with ⟨hcs, hx⟩ | ⟨a, len', cap', m, n, V, D, Pl, hcs, _, hl, hm, hmm, hx, hi⟩
  · simp only [Value.cells, List.cons.injEq, Value.slice.injEq, and_true] at hcs
    obtain ⟨rfl, rfl, rfl⟩ := hcs
    exact ⟨none, 0, [], rfl, Nat.le_refl _, Nat.zero_le _, fun _ => rfl, ⟨.inl rfl, by simp⟩, by simp, by simp [ruleC, ruleCount]⟩
  · simp only [Value.cells, List.cons.injEq, Value.slice.injEq, and_true] at hcs
    obtain ⟨rfl, rfl, rfl⟩ := hcs
    simp only [Prod.mk.injEq] at hx
    obtain ⟨hx, _⟩ := hx
    have hk : ∀ i, i < len → ∃ q : PartD, (W.cell? (a.add i) = some (.slice q.A q.rs.length q.n) ∧ q.fits W) ∧ (∀ e ∈ q.rs, e.c.rs.length ≤ Rows.uptoBulk (D i)) ∧ q.rs.length + 1 ≤ Rows.uptoBulk (D i) := by
      intro i hil
      obtain ⟨h1, h2⟩ := hi i (by rw [hmm]; split <;> omega)
      obtain ⟨q, e1, e2, e3, e4⟩ := open_rels h2
      exact ⟨q, ⟨by rw [h1, e1], e2⟩, e3, e4⟩
    obtain ⟨ps, hlen, hps⟩ := list_of len hk
    have hD : ∀ i, i < len → Rows.uptoBulk (D i) ≤ Rows.uptoBulkAll ((List.range len).map D) := fun i hi => bulk_mem (List.mem_map_of_mem (f := D) (List.mem_range.2 hi))
    refine ⟨some a, cap, ps, by rw [hlen], by omega, by simp only [maxLen] at hm; exact hm, (fun h => by cases h), ⟨?_, fun q hq => ?_⟩, fun q hq e he => ?_, ?_⟩
    · by_cases h0 : ps = []
      · exact .inl h0
      · right
        obtain ⟨q, hq⟩ : ∃ q, ps[0]? = some q := ⟨ps[0]'(by have := List.length_pos_iff.2 h0; omega), List.getElem?_eq_getElem _⟩
        obtain ⟨b, o, rfl⟩ := addr_plain (hps 0 q hq).1.1 rfl
        refine ⟨b, o, rfl, fun j t ht => ?_⟩
        have := (hps j t ht).1.1
        rw [Go.WideShapes.add_plain] at this
        exact this
    · obtain ⟨i, hi⟩ := List.mem_iff_getElem?.1 hq
      exact (hps i q hi).1.2
    · obtain ⟨i, hi'⟩ := List.mem_iff_getElem?.1 hq
      have h1 := (hps i q hi').2.1 e he
      have h2 := hD i (by have := (List.getElem?_eq_some_iff.1 hi').1; omega)
      rw [hx]
      simp only [Rows.uptoBulk]
      omega
    · have h1 := bulk_sum (fun q : PartD => q.rs.length + 1) D len ps hlen (fun i t ht => (hps i t ht).2.2)
      have h2 : (ps.map fun q : PartD => q.rs.length + 1).sum = ruleCount (ruleC ps) + ps.length := by
        clear h1 hlen hps
        induction ps with
        | nil => rfl
        | cons q r ih =>
          rw [List.map_cons, List.sum_cons, ih, show ruleC (q :: r) = q.c :: ruleC r from rfl, count_cons, part_c_length, List.length_cons]
          omega
      rw [hx]
      simp only [Rows.uptoBulk]
      omega
end
end Go.Proofs.YtkklemhhimcahaaGreatDoor
