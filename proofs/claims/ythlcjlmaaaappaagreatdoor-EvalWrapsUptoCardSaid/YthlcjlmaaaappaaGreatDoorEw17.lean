/- MKindsLaid, OpenNodes: texts put together. -/
import Derived.Test.YthlcjlmaaaappaaGreatDoorEw16
import Derived.Test.YthlcjlmaaaappaaGreatDoorEw6
import Derived.SliceStrings
import Derived.Test.YthlcjlmaaaappaaGreatDoorEw1
set_option linter.unusedVariables false
set_option linter.unusedSimpArgs false
/- What a row that lists msg.kinds gives the walks. -/
namespace Go.Proofs.YthlcjlmaaaappaaGreatDoor
open Go.RowKit Go.ChangeShapes Go.WideShapes

theorem gMKinds : Tryz.prog.globalNamed "linguister/msg.kinds" = some 1 := by kernel_rfl
theorem gMKindsType : (Tryz.prog.globals[1]?).map (·.type) = some 22 := by kernel_rfl
theorem strs_inj {H : Type} : ∀ {a b : List ByteArray}, strs (H := H) a = strs b → a = b
  | [], [], _ => rfl
  | [], _ :: _, h => by simp [strs] at h
  | _ :: _, [], h => by simp [strs] at h
  | x :: r, y :: q, h => by
    simp only [strs, List.map_cons, List.cons.injEq, DataW.lit.injEq, Lit.string.injEq] at h
    have hx : x = y := ByteArray.ext (Array.ext' h.1)
    rw [hx, strs_inj (a := r) (b := q) h.2]
set_option maxRecDepth 100000 in
theorem mkinds_of {W : World} {l : List (String × DataW Unit)} (h : laidMet Tryz.prog l W) (hm : ("linguister/msg.kinds", Rows.laid_linguister_msg_kinds) ∈ l) : MKinds W := by
  obtain ⟨g', t', cs, fuel, p, hg', ht', hvar, hd⟩ := Lib.laidMet.reads h hm
  obtain rfl := Option.some.inj (gMKinds.symm.trans hg')
  obtain rfl := Option.some.inj (gMKindsType.symm.trans ht')
  rcases open_strings Tryz.underlying22 Tryz.underlying9 (by kernel_rfl) hd with ⟨_, hx⟩ | ⟨a, len, cap, ss, hcs, _, hl, hm, hz, hx, hcell, hws⟩
  · unfold Rows.laid_linguister_msg_kinds at hx
    cases hx
  · have hx1 := congrArg Prod.fst hx
    have hk : Rows.laid_linguister_msg_kinds (H := Unit) = .slice (strs kinds6) [] := rfl
    simp only [hk, DataW.slice.injEq] at hx1
    have hk6 : ss.take len = kinds6 := (strs_inj hx1.1).symm
    have hlen : len = 6 := by
      have h1 : (ss.take len).length = 6 := by rw [hk6]; rfl
      rw [List.length_take, hz, if_pos rfl] at h1
      omega
    have hsl : 6 ≤ ss.length := by rw [hz, if_pos rfl]; omega
    have h0 := hcell 0 (by omega)
    obtain ⟨b, o, rfl⟩ : ∃ b o, a = ⟨b, o, none⟩ := by
      obtain ⟨b, o, spot⟩ := a
      have hspot : spot = none := by simpa [Addr.add] using World.cell?_spot h0
      subst hspot
      exact ⟨b, o, rfl⟩
    refine ⟨b, o, cap, ?_, fun j hj => ?_⟩
    · rw [World.var?_cell gMKinds hvar 0]
      obtain ⟨cs⟩ := cs
      obtain rfl : cs = _ := hcs
      simp [hlen]
    · have := hcell j (by omega)
      rw [Go.WideShapes.add_plain] at this
      rw [this]
      congr 2
      have e : ss[j]? = kinds6[j]? := by
        rw [← hk6, List.getElem?_take, if_pos (by omega)]
      rw [List.getD_eq_getElem?_getD, e, List.getD_eq_getElem?_getD]
      have : j < kinds6.length := hj
      rw [List.getElem?_eq_getElem this]
      rfl
end Go.Proofs.YthlcjlmaaaappaaGreatDoor

/- A message that came in, opened. -/
namespace Go.Proofs.YthlcjlmaaaappaaGreatDoor
open Go.RowKit Go.ChangeShapes Go.WideShapes Go.Joins Go.Deep

section
variable {H : Type} {enc : TypeId × Value → H} {W : World} {base b0 : Nat} {r : Reach} {held : Bool}

theorem size_of_weight {s : ByteArray} {P : Program} {t : TypeId} (h : ((DataW.lit (H := H) (.string s.data.toList)).weights P t).all (· ≤ reachBytes) = true) : s.size ≤ 140737488355328 := by
  simp only [DataW.weights] at h
  have := one_weight h
  simp at this
  exact this

set_option maxRecDepth 100000 in
theorem open_nodes (N : Nat) : ∀ (fuel : Nat) (v : Value) (y : DataW H × List MemPlace), DataW.trod enc Tryz.prog W base (fun _ => true) held fuel 23 [v] = some y → Rows.uptoBulk y.1 ≤ N →
    (y.1.weights Tryz.prog 23).all (· ≤ reachBytes) = true → ∃ ms, NodesIn N W v ms := by
  induction N with
  | zero => intro fuel v y _ h; have := bulk_pos y.1; omega
  | succ N ih =>
    intro fuel v y h hbk hw
    have hby : Tryz.prog.bytesOf 30 = 56 := by kernel_rfl
    have hby2 : Tryz.prog.bytesOf 33 = 40 := by kernel_rfl
    rcases open_fields Tryz.underlying23 Tryz.underlying30 (by kernel_rfl) (by kernel_rfl) h with ⟨hcs, hx⟩ | ⟨a, len, cap, m, D, hcs, hl, hm, hmm, hx, hi⟩
    · simp only [List.cons.injEq, and_true] at hcs
      subst hcs
      exact ⟨[], none, 0, rfl, Nat.le_refl _, by omega, by simp, .inl rfl⟩
    · simp only [List.cons.injEq, and_true] at hcs
      subst hcs
      simp only [if_true] at hmm
      subst hmm
      rw [hx] at hw hbk
      simp only [DataW.weights, Tryz.underlying23, List.all_cons, List.all_append, Bool.and_eq_true, decide_eq_true_eq, hby, List.length_map, List.length_range, reachBytes] at hw
      obtain ⟨w1, w2, _⟩ := hw
      have wl : len * 56 ≤ 140737488351232 := Nat.le_trans (Nat.mul_le_mul_right _ (Nat.le_add_right _ _)) (of_decide_eq_true w1)
      simp only [Rows.uptoBulk] at hbk
      have hk : ∀ i, i < len → ∃ x : Nd, x.t.size ≤ 140737488355328 ∧ (-9223372036854775808 ≤ x.off ∧ x.off ≤ 9223372036854775807) ∧ (-9223372036854775808 ≤ x.kd ∧ x.kd ≤ 9223372036854775807) ∧
          W.cell? (a.add (i * 4)) = some (.int .i64 x.kd) ∧ W.cell? (a.add (i * 4 + 1)) = some (.string x.t) ∧ W.cell? (a.add (i * 4 + 2)) = some (.int .i64 x.off) ∧ ∃ vc, W.cell? (a.add (i * 4 + 3)) = some vc ∧ CasesN (NodesIn N W) W vc x.cs := by
        intro i hil
        obtain ⟨ys, n, hD, hyl, hcell⟩ := hi i (by omega)
        have hwi := weightsAll_mem w2 (D i) (List.mem_map_of_mem (List.mem_range.2 hil))
        have hbi := bulk_mem (List.mem_map_of_mem (f := D) (List.mem_range.2 hil))
        obtain ⟨v0, y0, c0, e0, t0⟩ := hcell 0 _ rfl
        obtain ⟨v1, y1, c1, e1, t1⟩ := hcell 1 _ rfl
        obtain ⟨v2, y2, c2, e2, t2⟩ := hcell 2 _ rfl
        obtain ⟨v3, y3, c3, e3, t3⟩ := hcell 3 _ rfl
        obtain rfl : ys = [y0, y1, y2, y3] := by
          match ys, hyl with
          | [a0, a1, a2, a3], _ =>
            simp at e0 e1 e2 e3
            rw [e0, e1, e2, e3]
        rw [hD] at hwi hbi
        simp only [DataW.weights, Tryz.underlying30, List.map_cons, List.map_nil, DataW.weightsEach, List.all_append, Bool.and_eq_true] at hwi
        simp only [List.map_cons, List.map_nil, Rows.uptoBulk, Rows.uptoBulkAll] at hbi
        obtain ⟨_, q1, _, q3, _⟩ := hwi
        obtain ⟨n0, x0, _, z0⟩ := DataW.trod_int Tryz.underlying3 t0
        obtain ⟨t, x1, r1, _⟩ := DataW.trod_string Tryz.underlying9 t1
        obtain ⟨n2, x2, _, z2⟩ := DataW.trod_int Tryz.underlying3 t2
        simp only [List.cons.injEq, and_true] at x0 x1 x2
        subst x0 x1 x2
        rw [r1] at q1
        have q1' := size_of_weight (s := t) q1
        -- the cases
        have hC : ∃ cs, CasesN (NodesIn N W) W v3 cs := by
          rcases open_fields Tryz.underlying28 Tryz.underlying33 (by kernel_rfl) (by kernel_rfl) t3 with ⟨hcs, hx⟩ | ⟨a2, len2, cap2, m2, D2, hcs2, hl2, hm2, hmm2, hx2, hi2⟩
          · simp only [List.cons.injEq, and_true] at hcs
            subst hcs
            exact ⟨[], none, 0, rfl, Nat.le_refl _, by omega, by simp, .inl rfl⟩
          · simp only [List.cons.injEq, and_true] at hcs2
            subst hcs2
            simp only [if_true] at hmm2
            subst hmm2
            rw [hx2] at q3 hbi
            simp only [DataW.weights, Tryz.underlying28, List.all_cons, List.all_append, Bool.and_eq_true, decide_eq_true_eq, hby2, List.length_map, List.length_range, reachBytes] at q3
            obtain ⟨u1, u2, _⟩ := q3
            have ul : len2 * 40 ≤ 140737488351232 := Nat.le_trans (Nat.mul_le_mul_right _ (Nat.le_add_right _ _)) (of_decide_eq_true u1)
            simp only [Rows.uptoBulk] at hbi
            have hk2 : ∀ i, i < len2 → ∃ k : ByteArray × List Nd, k.1.size ≤ 140737488355328 ∧ W.cell? (a2.add (i * 2)) = some (.string k.1) ∧ ∃ vb, W.cell? (a2.add (i * 2 + 1)) = some vb ∧ NodesIn N W vb k.2 := by
              intro j hjl
              obtain ⟨zs, n', hD', hzl, hcell'⟩ := hi2 j (by omega)
              have hwj := weightsAll_mem u2 (D2 j) (List.mem_map_of_mem (List.mem_range.2 hjl))
              have hbj := bulk_mem (List.mem_map_of_mem (f := D2) (List.mem_range.2 hjl))
              obtain ⟨u0, z0, d0, f0, s0⟩ := hcell' 0 _ rfl
              obtain ⟨u1, z1, d1, f1, s1⟩ := hcell' 1 _ rfl
              obtain rfl : zs = [z0, z1] := by
                match zs, hzl with
                | [a0, a1], _ =>
                  simp at f0 f1
                  rw [f0, f1]
              rw [hD'] at hwj hbj
              simp only [DataW.weights, Tryz.underlying33, List.map_cons, List.map_nil, DataW.weightsEach, List.all_append, Bool.and_eq_true] at hwj
              simp only [List.map_cons, List.map_nil, Rows.uptoBulk, Rows.uptoBulkAll] at hbj
              obtain ⟨p0, p1, _⟩ := hwj
              obtain ⟨k, x0, r0, _⟩ := DataW.trod_string Tryz.underlying9 s0
              simp only [List.cons.injEq, and_true] at x0
              subst x0
              rw [r0] at p0
              obtain ⟨body, hbody⟩ := ih n' u1 z1 s1 (by omega) p1
              exact ⟨(k, body), size_of_weight (s := k) p0, d0, u1, d1, hbody⟩
            obtain ⟨cs, hlen, hcs⟩ := list_of len2 hk2
            refine ⟨cs, some a2, m2, by rw [hlen], by rw [hlen]; exact hl2, by simp only [maxLen] at hm2; omega, by omega, ?_⟩
            by_cases h0 : cs = []
            · exact .inl h0
            · right
              obtain ⟨k, hk⟩ : ∃ k, cs[0]? = some k := ⟨cs[0]'(by have := List.length_pos_iff.2 h0; omega), List.getElem?_eq_getElem _⟩
              obtain ⟨b, o, rfl⟩ := addr_plain (hcs 0 k hk).2.1 (by simp)
              refine ⟨b, o, rfl, fun j k hk => ?_⟩
              have := hcs j k hk
              rw [Go.WideShapes.add_plain, Go.WideShapes.add_plain] at this
              exact this
        obtain ⟨cs, hC⟩ := hC
        exact ⟨.mk n0 t n2 cs, q1', wf_i64 z2, wf_i64 z0, c0, c1, c2, v3, c3, hC⟩
      obtain ⟨ms, hlen, hms⟩ := list_of len hk
      refine ⟨ms, some a, m, by rw [hlen], by rw [hlen]; exact hl, by simp only [maxLen] at hm; omega, by omega, ?_⟩
      by_cases h0 : ms = []
      · exact .inl h0
      · right
        obtain ⟨x, hx⟩ : ∃ x, ms[0]? = some x := ⟨ms[0]'(by have := List.length_pos_iff.2 h0; omega), List.getElem?_eq_getElem _⟩
        obtain ⟨b, o, rfl⟩ := addr_plain (hms 0 x hx).2.2.2.1 (by simp)
        refine ⟨b, o, rfl, fun j x hx => ?_⟩
        have := hms j x hx
        rw [Go.WideShapes.add_plain, Go.WideShapes.add_plain, Go.WideShapes.add_plain, Go.WideShapes.add_plain] at this
        exact this
set_option maxRecDepth 100000 in
theorem open_msg {v : Value} {d : DataW H} {p : List MemPlace} (hv : Value.okWide Tryz.prog W r b0 23 v) (h : DataW.Trod enc Tryz.prog W base (fun _ => true) held 23 v d p) (hw : (d.weights Tryz.prog 23).all (· ≤ reachBytes) = true) :
    ∃ f ms, NodesIn f W v ms := by
  obtain ⟨a0, len, cap, rfl⟩ := okWide_slice Tryz.underlying23 hv
  obtain ⟨fuel, hf⟩ := h
  exact ⟨_, open_nodes _ fuel _ _ hf (Nat.le_refl _) hw⟩
end
end Go.Proofs.YthlcjlmaaaappaaGreatDoor
