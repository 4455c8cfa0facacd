/- In a round of a loop over a function, too, an operation that reads no world may be taken first, where no operation of the region defers. -/
import Derived.Test.YtkklemhhimcahaaGreatDoorSplitLaw
import Derived.Shelf.RegionOpen
namespace Go.Proofs.YtkklemhhimcahaaGreatDoor
section
variable {F : Fence} {n : Nat} {P : Program} {ops : Array Oper} {Q : Exit → Act → World → Prop} {md : Region.Mode}

def noDefer (ops : Array Oper) : Bool := ops.all fun o => match o.op with | .defer _ => false | _ => true
theorem noDefer_at (h : noDefer ops = true) {j : Nat} {o : Oper} (ho : ops[j]? = some o) (F : Fence) (a : Act) : Oper.semAt F.round a.eval o = execOp a.eval o := by
  refine Oper.semAt_eq _ _ _ (fun c e => ?_)
  have := Array.all_eq_true_iff_forall_mem.1 h o (Array.mem_of_getElem? ho)
  simp [e] at this

/-- what the operation does, told of any place that it is done at -/
def stepOf (F : Fence) (n : Nat) (P : Program) (o : Oper) (Q : Exit → Act → World → Prop) (K : Act → World → Prop) (ops : Array Oper) (a : Act) (w : World) : Prop :=
  (∀ f, o.about P w a.eval = some f → F.fn f) ∧ if Region.wanted o (yielded ops a.tmps) then o.uponIn F n P a K Q ((execOp a.eval o).run P w) else K (a.put o.dst undef) w

theorem step_iff (hd : noDefer ops = true) {j : Nat} {o : Oper} (ho : ops[j]? = some o) {K : Act → World → Prop} {a : Act} {w : World} : wpOpIn F n P ops Q j K a w ↔ stepOf F n P o Q K ops a w := by
  unfold wpOpIn stepOf Oper.wpIn
  simp only [ho, noDefer_at hd ho]
  split <;> exact Iff.rfl

theorem yields_step {o : Oper} {v : Value} {a : Act} (hy : YieldsFenced P ops o v a) {K : Act → World → Prop} {w : World} (h : K (a.put o.dst v) w) : stepOf F n P o Q K ops a w := by
  refine ⟨fun f hf => (by rw [hy.2 w] at hf; cases hf), ?_⟩
  rcases hy.1 with ⟨hw, hv⟩ | ⟨hw, rfl⟩
  · rw [if_pos hw, hv w]; exact h
  · rw [hw]; exact h

theorem step_put {oi oj : Oper} {v : Value} (hap : oi.apart ops oj = true) (hsi : ∀ cs b, oi.op ≠ .select cs b) (hsj : ∀ cs b, oj.op ≠ .select cs b)
    (hQ : ∀ c a w, Q (.panic c) (a.put oi.dst v) w → Q (.panic c) a w) {K : Act → World → Prop} {a : Act} {w : World}
    (hy : YieldsFenced P ops oi v a) (h : stepOf F n P oj Q K ops (a.put oi.dst v) w) :
    stepOf F n P oj Q (fun a' w' => YieldsFenced P ops oi v a' ∧ K (a'.put oi.dst v) w') ops a w := by
  obtain ⟨h1, h2, h3⟩ := Oper.apart_spec hap
  have keep : ∀ (a : Act), YieldsFenced P ops oi v a → ∀ u, YieldsFenced P ops oi v (a.put oj.dst u) := fun a hy u =>
    hy.of_same (execOp_put oi hsi a oj.dst u h3) (wanted_put oi a oj.dst u h3) (fun w => about_put oi w a oj.dst u h3)
  have put : ∀ u, K ((a.put oi.dst v).put oj.dst u) = K ((a.put oj.dst u).put oi.dst v) := fun u => by rw [Act.put_comm a v u h2]
  obtain ⟨g1, g2⟩ := h
  rw [about_put oj w a oi.dst v h1] at g1
  rw [wanted_put oj a oi.dst v h1, execOp_put oj hsj a oi.dst v h1] at g2
  refine ⟨g1, ?_⟩
  split
  · rename_i hw
    rw [if_pos hw] at g2
    cases hr : (execOp a.eval oj).run P w with
    | ok x w' =>
      rw [hr] at g2
      cases x <;> simp only [Oper.uponIn] at g2 ⊢
      case value u => exact ⟨keep a hy u, by rw [← put]; exact g2⟩
      case skip => exact ⟨keep a hy _, by rw [← put]; exact g2⟩
      case defer d => exact ⟨keep { a with defers := d :: a.defers } (hy.of_same rfl rfl (fun _ => rfl)) _, by rw [← Act.put_comm _ v undef h2, ← Act.put_defers]; exact g2⟩
      case enter f args =>
        refine ⟨g2.1, CallsIn.mono g2.2 fun e w'' he => ?_⟩
        cases e with
        | returned u => exact ⟨keep a hy u, by rw [← put]; exact he⟩
        | panicked c => exact hQ _ _ _ he
        | outgrown => exact he
      case row row args => exact ⟨g2.1, RowsIn.mono g2.2 fun u w'' he => ⟨keep a hy u, by rw [← put]; exact he⟩⟩
      case round l f tmps assign body =>
        refine ⟨g2.1, RoundIn.mono g2.2 fun e w'' he => ?_⟩
        cases e with
        | returned u => exact ⟨keep a hy u, by rw [← put]; exact he⟩
        | panicked c => exact hQ _ _ _ he
        | outgrown => exact he
    | halt x w' =>
      rw [hr] at g2
      cases x <;> simp only [Oper.uponIn] at g2 ⊢
      case panic u => exact hQ _ _ _ g2
  · rename_i hw
    rw [if_neg hw] at g2
    exact ⟨keep a hy _, by rw [← put]; exact g2⟩

theorem first_r {i : Nat} {oi : Oper} {v : Value} (hd : noDefer ops = true) (hi : ops[i]? = some oi) (hsel : ∀ (j : Nat) (o : Oper) cs b, ops[j]? = some o → o.op ≠ .select cs b)
    (hQ : ∀ c a w, Q (.panic c) (a.put oi.dst v) w → Q (.panic c) a w) :
    ∀ (fuel : Nat) (listed : Array Bool) (a : Act) (w : World),
      (∀ j oj, ops[j]? = some oj → j ≠ i → listed.getD j true = false → (∀ e ∈ oj.after, Region.binds md e = true → e.on ≠ i) → oi.apart ops oj = true) →
      i ∈ Region.ready md ops listed → YieldsFenced P ops oi v a →
      wpAnyIn F n P md ops Q fuel (listed.setIfInBounds i true) (a.put oi.dst v) w → wpAnyIn F n P md ops Q (fuel + 1) listed a w
  | fuel, listed, a, w => fun hfree hr hy H => by
    refine ⟨fun h => (by rw [h] at hr; cases hr), fun j hj => ?_⟩
    by_cases hji : j = i
    · subst hji; exact (step_iff hd hi).2 (yields_step hy H)
    · cases fuel with
      | zero => have := ready_mono hj hji; rw [H.1] at this; cases this
      | succ fuel =>
        have h1 := H.2 j (ready_mono hj hji)
        obtain ⟨hjun, oj, hoj, hall⟩ := mem_ready.1 hj
        have hnot : ∀ e ∈ oj.after, Region.binds md e = true → e.on ≠ i := fun e he hb heq => by
          have h2 := hall e he hb
          have h0 := (mem_ready.1 hr).1
          rw [heq] at h2
          rcases Nat.lt_or_ge i listed.size with h' | h'
          · simp [h'] at h0 h2; rw [h0] at h2; cases h2
          · simp [Array.getElem?_eq_none h'] at h2
        have h2 := step_put (hfree j oj hoj hji hjun hnot) (fun cs b => hsel i oi cs b hi) (fun cs b => hsel j oj cs b hoj) hQ hy ((step_iff hd hoj).1 h1)
        refine wpOpIn_mono (fun a' w' h3 => first_r hd hi hsel hQ fuel (listed.setIfInBounds j true) a' w' (fun k ok hk hki hun hno => hfree k ok hk hki ?_ hno) (ready_mono hr (Ne.symm hji)) h3.1 ?_) ((step_iff hd hoj).2 h2)
        · by_cases hjk : j = k
          · subst hjk; exact hjun
          · rw [getD_set_ne true hjk] at hun; exact hun
        · rw [Array.setIfInBounds_comm _ _ hji]; exact h3.2

theorem take_r {i : Nat} {oi : Oper} {v : Value} {fuel : Nat} {listed : Array Bool} {a : Act} {w : World} (hd : noDefer ops = true) (hi : ops[i]? = some oi)
    (hs : Region.noSelect ops = true) (hf : Region.free md ops listed i = true) (hr : (Region.ready md ops listed).contains i = true)
    (hQ : ∀ c a w, Q (.panic c) (a.put oi.dst v) w → Q (.panic c) a w) (hw : Region.wanted oi (yielded ops a.tmps) = true) (hy : ∀ w, (execOp a.eval oi).run P w = .ok (.value v) w) (ha : ∀ w, oi.about P w a.eval = none)
    (h : wpAnyIn F n P md ops Q fuel (listed.setIfInBounds i true) (a.put oi.dst v) w) : wpAnyIn F n P md ops Q (fuel + 1) listed a w :=
  first_r hd hi (Region.noSelect_spec hs) hQ fuel listed a w (Region.free_spec hi hf) (by simpa using hr) ⟨Or.inl ⟨hw, hy⟩, ha⟩ h
end
end Go.Proofs.YtkklemhhimcahaaGreatDoor
