/- What is told by blocks that stay. -/
import Derived.Test.YtkklemhhimcahaaGreatDoorRowG
namespace Go.Proofs.YtkklemhhimcahaaGreatDoor
open Go.RowKit

/-- Φ holds of each world that bears these blocks (from lo on, below hi, cells of these types) as W bears them -/
def Held (W : World) (lo hi : Nat) (Ts : List TypeId) (Φ : World → Prop) : Prop :=
  ∃ G : List (Nat × Array Value × TypeId), (∀ x ∈ G, lo ≤ x.1 ∧ x.1 < hi ∧ x.2.2 ∈ Ts ∧ W.heap[x.1]? = some (.cells x.2.1 x.2.2 (0, 0))) ∧
    ∀ W' : World, (∀ x ∈ G, W'.heap[x.1]? = some (.cells x.2.1 x.2.2 (0, 0))) → Φ W'
variable {W W' : World} {lo hi lo' hi' : Nat} {Ts Ts' : List TypeId} {Φ Ψ : World → Prop}
theorem Held.now (h : Held W lo hi Ts Φ) : Φ W := by
  obtain ⟨G, h1, h2⟩ := h
  exact h2 W fun x hx => (h1 x hx).2.2.2
theorem Held.kept (h : Held W lo hi Ts Φ) (hk : ∀ k cur t, lo ≤ k → k < hi → t ∈ Ts → W.heap[k]? = some (.cells cur t (0, 0)) → W'.heap[k]? = W.heap[k]?) : Held W' lo hi Ts Φ := by
  obtain ⟨G, h1, h2⟩ := h
  exact ⟨G, fun x hx => ⟨(h1 x hx).1, (h1 x hx).2.1, (h1 x hx).2.2.1, (hk _ _ _ (h1 x hx).1 (h1 x hx).2.1 (h1 x hx).2.2.1 (h1 x hx).2.2.2).trans (h1 x hx).2.2.2⟩, h2⟩
theorem Held.mono (h : Held W lo hi Ts Φ) (hlo : lo' ≤ lo) (hhi : hi ≤ hi') (hT : ∀ t ∈ Ts, t ∈ Ts') (hΦ : ∀ W, Φ W → Ψ W) : Held W lo' hi' Ts' Ψ := by
  obtain ⟨G, h1, h2⟩ := h
  exact ⟨G, fun x hx => ⟨by have := (h1 x hx).1; omega, by have := (h1 x hx).2.1; omega, hT _ (h1 x hx).2.2.1, (h1 x hx).2.2.2⟩, fun W' hW => hΦ _ (h2 W' hW)⟩
theorem Held.pure (h : ∀ W, Φ W) : Held W lo hi Ts Φ := ⟨[], ⟨fun _ hx => (List.not_mem_nil hx).elim, fun W' _ => h W'⟩⟩
theorem Held.and (h : Held W lo hi Ts Φ) (k : Held W lo hi Ts Ψ) : Held W lo hi Ts (fun W => Φ W ∧ Ψ W) := by
  obtain ⟨G, h1, h2⟩ := h
  obtain ⟨G', k1, k2⟩ := k
  refine ⟨G ++ G', fun x hx => ?_, fun W' hW => ⟨h2 W' fun x hx => hW x (by simp [hx]), k2 W' fun x hx => hW x (by simp [hx])⟩⟩
  rcases List.mem_append.1 hx with hx | hx
  · exact h1 x hx
  · exact k1 x hx
theorem Held.all {β : Type} {Φ : β → World → Prop} {l : List β} (h : ∀ b ∈ l, Held W lo hi Ts (Φ b)) : Held W lo hi Ts (fun W => ∀ b ∈ l, Φ b W) := by
  induction l with
  | nil => exact .pure fun _ b hb => (List.not_mem_nil hb).elim
  | cons b l ih =>
    refine ((h b (List.mem_cons_self ..)).and (ih fun c hc => h c (List.mem_cons_of_mem _ hc))).mono (Nat.le_refl _) (Nat.le_refl _) (fun _ h => h) fun W hW c hc => ?_
    rcases List.mem_cons.1 hc with rfl | hc
    · exact hW.1
    · exact hW.2 c hc
theorem Held.block {k : Nat} {cur : Array Value} {t : TypeId} (h : W.heap[k]? = some (.cells cur t (0, 0))) (h1 : lo ≤ k) (h2 : k < hi) (h3 : t ∈ Ts) : Held W lo hi Ts (fun W' => W'.heap[k]? = some (.cells cur t (0, 0))) :=
  ⟨[(k, cur, t)], fun x hx => by simp at hx; subst hx; exact ⟨h1, h2, h3, h⟩, fun W' hW => hW (k, cur, t) (by simp)⟩
theorem Held.lt (h : W.heap.size ≤ W'.heap.size) (k : Held W lo W.heap.size Ts Φ) (hk : ∀ k cur t, lo ≤ k → k < W.heap.size → t ∈ Ts → W.heap[k]? = some (.cells cur t (0, 0)) → W'.heap[k]? = W.heap[k]?) : Held W' lo W'.heap.size Ts Φ :=
  (k.kept hk).mono (Nat.le_refl _) h (fun _ h => h) fun _ h => h
theorem Held.below {B : Nat} (h : Held W lo hi Ts Φ) (hb : Below B W W') (hB : hi ≤ B) : Held W' lo hi Ts Φ := h.kept fun k _ _ _ h2 _ _ => hb.block k (by omega)
theorem OwnsG.held {α : Type} {k : Kind α} {base : Nat} {v : Value} {ts : List α} (h : OwnsG k W base v ts) : Held W base W.heap.size [k.e] (fun W' => OwnsG k W' base v ts) := by
  rcases h.2 with h2 | ⟨g, cap, cur, h1, h3, h4, h5⟩
  · exact .pure fun W' => ⟨h.1, .inl h2⟩
  · exact (Held.block h4 h3 (Array.getElem?_eq_some_iff.1 h4).1 (by simp)).mono (Nat.le_refl _) (Nat.le_refl _) (fun _ h => h) fun W' h' => ⟨h.1, .inr ⟨g, cap, cur, h1, h3, h', h5⟩⟩
/-- an append to an own row of a type that is none of these -/
theorem Held.off {L : List Nat} (h : Held W lo hi Ts Φ) (hf : Off L W W') (hL : ∀ g ∈ L, ∃ cur t, W.heap[g]? = some (.cells cur t (0, 0)) ∧ (t ∉ Ts ∨ g < lo ∨ hi ≤ g)) : Held W' lo hi Ts Φ :=
  h.kept fun k cur t h1 h2 h3 h4 => hf.block k (Array.getElem?_eq_some_iff.1 h4).1 fun hm => by
    obtain ⟨c, t', e, h5⟩ := hL k hm
    rw [h4] at e
    cases e
    rcases h5 with h5 | h5 | h5
    · exact h5 h3
    · omega
    · omega
end Go.Proofs.YtkklemhhimcahaaGreatDoor
