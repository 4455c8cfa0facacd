/- Rows of nodes, joined: NodesIn of what append makes. -/
import Derived.Test.YthlcjlmaaaappaaDoorNodeRows
import Derived.Test.YthlcjlmaaaappaaDoorWeights
namespace Go.Proofs.YthlcjlmaaaappaaDoor
open Go.RowKit

def RowQ (f : Nat) (w : World) (q : Vals 4) (x : Nd) : Prop :=
  x.t.size ≤ 140737488355328 ∧ (-9223372036854775808 ≤ x.off ∧ x.off ≤ 9223372036854775807) ∧ (-9223372036854775808 ≤ x.kd ∧ x.kd ≤ 9223372036854775807) ∧ ∃ A n c, q = nodeQ x.kd x.t x.off A n c ∧ CasesN (NodesIn f w) w (.slice A n c) x.cs
theorem RowQ.below {f : Nat} {w w' : World} {q : Vals 4} {x : Nd} (h : RowQ f w q x) (hb : Below w.heap.size w w') : RowQ f w' q x := by
  obtain ⟨h1, h2, h3, A, n, c, h4, h5⟩ := h
  exact ⟨h1, h2, h3, A, n, c, h4, h5.mono hb fun v ms => NodesIn.below hb f⟩
def RowsQ (f : Nat) (w : World) (qs : List (Vals 4)) (ms : List Nd) : Prop := qs.length = ms.length ∧ ∀ (j : Nat) q x, qs[j]? = some q → ms[j]? = some x → RowQ f w q x
theorem RowsQ.below {f : Nat} {w w' : World} {qs : List (Vals 4)} {ms : List Nd} (h : RowsQ f w qs ms) (hb : Below w.heap.size w w') : RowsQ f w' qs ms := ⟨h.1, fun j q x hq hx => (h.2 j q x hq hx).below hb⟩
theorem RowsQ.append {f : Nat} {w : World} {qa qb : List (Vals 4)} {ms ns : List Nd} (h : RowsQ f w qa ms) (k : RowsQ f w qb ns) : RowsQ f w (qa ++ qb) (ms ++ ns) := by
  refine ⟨by rw [List.length_append, List.length_append, h.1, k.1], fun j q x hq hx => ?_⟩
  rw [List.getElem?_append] at hq hx
  rw [h.1] at hq
  split at hq
  · rename_i hj
    rw [if_pos hj] at hx
    exact h.2 j q x hq hx
  · rename_i hj
    rw [if_neg hj] at hx
    exact k.2 _ q x hq hx
theorem rows_of {f : Nat} {w : World} {A : Option Addr} {n c : Nat} {ms : List Nd} (h : NodesIn (f + 1) w (.slice A n c) ms) : ∃ qs, RowsQ f w qs ms ∧ LiesG kNodeQ w A qs := by
  by_cases h0 : ms = []
  · exact ⟨[], ⟨by rw [h0]; rfl, fun j q x hq => by simp at hq⟩, .inl rfl⟩
  · obtain ⟨b, o, rfl, hat⟩ := h.at (List.length_pos_iff.2 h0)
    obtain ⟨qs, hlen, hqs⟩ := list_of (P := fun j (q : Vals 4) => (∀ x, ms[j]? = some x → RowQ f w q x) ∧ ∀ i u, (kNodeQ.cells q)[i]? = some u → w.cell? ⟨b, o + j * 4 + i, none⟩ = some u) ms.length (fun j hj => by
      obtain ⟨x, hx⟩ : ∃ x, ms[j]? = some x := ⟨ms[j], List.getElem?_eq_getElem hj⟩
      obtain ⟨h1, h2, h3, c0, c1, c2, vc, c3, hC⟩ := hat j x hx
      obtain ⟨A2, d2, rfl, _⟩ := hC.form
      refine ⟨nodeQ x.kd x.t x.off A2 x.cs.length d2, fun y hy => ?_, fun i u hu => ?_⟩
      · rw [hx] at hy; cases hy
        exact ⟨h1, h2, h3, _, _, _, rfl, hC⟩
      · match i, hu with
        | 0, hu => cases hu; exact c0
        | 1, hu => cases hu; exact c1
        | 2, hu => cases hu; exact c2
        | 3, hu => cases hu; exact c3)
    refine ⟨qs, ⟨hlen, fun j q x hq hx => (hqs j q hq).1 x hx⟩, .inr ⟨b, o, rfl, fun j q i u hq hu => (hqs j q hq).2 i u hu⟩⟩
theorem nodes_join {f : Nat} {w : World} {base : Nat} {v : Value} {qs : List (Vals 4)} {ms : List Nd} (ho : OwnsG kNodeQ w base v qs) (h : RowsQ f w qs ms) (hl : ms.length ≤ 3518437208800) : NodesIn (f + 1) w v ms := by
  obtain ⟨A, c, rfl, h1, h2, _, h3⟩ := ho.form
  refine ⟨A, c, by rw [h.1], by rw [← h.1]; exact h1, h2, hl, ?_⟩
  rcases h3 with h3 | ⟨g, rfl, _, _, h4⟩
  · left
    have := h.1
    rw [h3] at this
    exact List.length_eq_zero_iff.1 this.symm
  · refine .inr ⟨g, 0, rfl, fun j x hx => ?_⟩
    have hj : j < qs.length := by rw [h.1]; exact (List.getElem?_eq_some_iff.1 hx).1
    have hq : qs[j]? = some qs[j] := List.getElem?_eq_getElem hj
    obtain ⟨k1, k2, k3, A2, n2, d2, k4, k5⟩ := h.2 j _ x hq hx
    have hc : ∀ i u, (kNodeQ.cells qs[j])[i]? = some u → w.cell? ⟨g, j * 4 + i, none⟩ = some u := fun i u hu => h4 j _ i u hq hu
    rw [k4] at hc
    rw [Nat.zero_add]
    exact ⟨k1, k2, k3, hc 0 _ rfl, hc 1 _ rfl, hc 2 _ rfl, _, hc 3 _ rfl, k5⟩
theorem cnt_join (f : Nat) (ms ns : List Nd) : cntP (f + 1) (ms ++ ns) = cntP (f + 1) ms + cntP (f + 1) ns := by
  rw [cntP_succ, cntP_succ, cntP_succ, List.length_append]
  unfold flatC
  rw [List.flatMap_append, cntC_append]
  omega
theorem cnt_wrap (f : Nat) (s : ByteArray) (ms : List Nd) (k : ByteArray) : cntP (f + 1) [.mk 5 s 0 [(k, ms)]] = cntP f ms + 1 := by
  rw [cntP_succ]
  simp [flatC, casesOf, Nd.kd, Nd.cs, cntC]
  omega
theorem cnt_show : cntP 1 [.mk 2 ⟨#[97]⟩ 0 []] = 1 := rfl
end Go.Proofs.YthlcjlmaaaappaaDoor
