/- StorePlain: texts put together. -/
import Derived.Maps.Own
import Derived.Maps.OwnSet
import Derived.Maps.Views
import Derived.Maps.Ext
import Derived.Lib.SlMapFilter
import Derived.Lib.SlKeysI
set_option linter.unusedVariables false
set_option linter.unusedSimpArgs false
/- A store's versions as entries of a map. No program stands here. -/
namespace Go.Proofs.YtplaohmdllindaaGreatDoor
open Go Go.Maps

abbrev SD := DataW Value
def ptrV (b : Nat) : Value := .pointer (some ⟨b, 0, none⟩)
def keyI (i : Nat) : Lit := .int .i64 (i : Int)
theorem keyI_inj {i j : Nat} (h : keyI i = keyI j) : i = j := by
  unfold keyI at h
  injection h with _ h
  omega
/-- the entries: these numbers, each with its version's place -/
def Ent (es : List (Lit × SD)) (S : List Nat) (vb : Nat → Nat) : Prop := ∀ p, p ∈ es ↔ ∃ i ∈ S, p = (keyI i, .held (ptrV (vb i)))
theorem Ent.put {es : List (Lit × SD)} {S : List Nat} {vb : Nat → Nat} (h : Ent es S vb) {i b : Nat} (hi : i ∉ S) : ∃ es', (DataW.map es).put (keyI i) (.held (ptrV b)) = .map es' ∧ Ent es' (S ++ [i]) (fun j => if j = i then b else vb j) := by
  refine ⟨_, rfl, fun p => ?_⟩
  have hf : (es.filter fun p => !p.1.sameKey (keyI i)) = es := List.filter_eq_self.2 fun p hp => by
    obtain ⟨j, hj, rfl⟩ := (h p).1 hp
    have hne : keyI j ≠ keyI i := fun e => hi (by rw [← keyI_inj e]; exact hj)
    show (!(keyI j).sameKey (keyI i)) = true
    rw [sameKey_ne hne]
    rfl
  rw [hf, ChangeMaps.mem_insert_iff]
  constructor
  · rintro (rfl | hp)
    · exact ⟨i, by simp, by simp⟩
    · obtain ⟨j, hj, rfl⟩ := (h p).1 hp
      exact ⟨j, by simp [hj], by simp only; rw [if_neg (fun e : j = i => hi (e ▸ hj))]⟩
  · rintro ⟨j, hj, rfl⟩
    rcases List.mem_append.1 hj with hj | hj
    · exact .inr ((h _).2 ⟨j, hj, by simp only; rw [if_neg (fun e : j = i => hi (e ▸ hj))]⟩)
    · obtain rfl := List.mem_singleton.1 hj
      exact .inl (by simp)
theorem Ent.del {es : List (Lit × SD)} {S : List Nat} {vb : Nat → Nat} (h : Ent es S vb) (pd : Lit → SD → Bool) (q : Nat → Bool) (hq : ∀ i ∈ S, pd (keyI i) (.held (ptrV (vb i))) = !q i) :
    ∃ es', Lib.deleteFuncD pd (.map es) = .map es' ∧ Ent es' (S.filter q) vb := by
  refine ⟨_, rfl, fun p => ?_⟩
  rw [List.mem_filter]
  constructor
  · rintro ⟨hp, hn⟩
    obtain ⟨i, hi, rfl⟩ := (h p).1 hp
    rw [hq i hi, Bool.not_not] at hn
    exact ⟨i, List.mem_filter.2 ⟨hi, hn⟩, rfl⟩
  · rintro ⟨i, hi, rfl⟩
    obtain ⟨hi, hn⟩ := List.mem_filter.1 hi
    exact ⟨(h _).2 ⟨i, hi, rfl⟩, by rw [hq i hi, hn]; rfl⟩
/-- which version lies at a place -/
def verIdx (vb : Nat → Nat) (N : Nat) (v : Value) : Option Nat := match v with
  | .pointer (some ⟨b, 0, none⟩) => (List.range (N + 1)).find? (fun i => decide (1 ≤ i) && (vb i == b))
  | _ => none
theorem verIdx_some {vb : Nat → Nat} {N : Nat} {v : Value} {i : Nat} (h : verIdx vb N v = some i) : 1 ≤ i ∧ i ≤ N ∧ v = ptrV (vb i) := by
  unfold verIdx at h
  split at h
  · rename_i b
    have h1 := List.find?_some h
    have h2 := List.mem_range.1 (List.mem_of_find?_eq_some h)
    simp only [Bool.and_eq_true, decide_eq_true_eq, beq_iff_eq] at h1
    exact ⟨h1.1, by omega, by rw [h1.2]; rfl⟩
  · cases h
theorem verIdx_at {vb : Nat → Nat} {N i : Nat} (h1 : 1 ≤ i) (h2 : i ≤ N) (hinj : ∀ j, 1 ≤ j → j ≤ N → vb j = vb i → j = i) : verIdx vb N (ptrV (vb i)) = some i := by
  unfold verIdx ptrV
  simp only
  rw [List.find?_range_eq_some]
  refine ⟨by simp [h1], List.mem_range.2 (by omega), fun j hj => ?_⟩
  simp only [Bool.not_eq_true', Bool.and_eq_false_iff, decide_eq_false_iff_not, beq_eq_false_iff_ne]
  by_cases h : 1 ≤ j
  · exact .inr fun e => by have := hinj j h (by omega) e; omega
  · exact .inl h
/-- how a version's place reads -/
def verE (vb : Nat → Nat) (N : Nat) (v : Value) : Option (SD × List MemPlace) := (verIdx vb N v).map fun _ => (.held v, [])
theorem verE_some {vb : Nat → Nat} {N : Nat} {v : Value} {z : SD × List MemPlace} (h : verE vb N v = some z) : z = (.held v, []) ∧ ∃ i, 1 ≤ i ∧ i ≤ N ∧ v = ptrV (vb i) ∧ verIdx vb N v = some i := by
  unfold verE at h
  obtain ⟨i, hi, rfl⟩ := Option.map_eq_some_iff.1 h
  obtain ⟨h1, h2, h3⟩ := verIdx_some hi
  exact ⟨rfl, i, h1, h2, h3, hi⟩
/-- what is deleted: all but the newest one, of those that are held no more -/
def goneB (vb : Nat → Nat) (hd : Nat → Nat) (N : Nat) (kl : Lit) (d : SD) : Bool := match kl, d with
  | .int _ n, .held v => (match verIdx vb N v with | some i => decide (n ≠ (N : Int)) && decide (hd i = 0) | none => false)
  | _, _ => false
end Go.Proofs.YtplaohmdllindaaGreatDoor
