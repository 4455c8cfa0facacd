/- Store: texts put together. -/
import Derived.Test.YtplaohmdllindaaGreatDoorQn39
import Derived.Test.YtplaohmdllindaaGreatDoorQn1
import Derived.Test.YtplaohmdllindaaGreatDoorQn2
import Derived.Maps.OwnSet
import Derived.Shelf.SlMaps.DeleteFunc
import Derived.Deep.QuietTactic
import Derived.BigQuiet
import Derived.StillTailTactics
set_option linter.unusedVariables false
set_option linter.unusedSimpArgs false
/- store: a store in memory; clean. -/
namespace Go.Proofs.YtplaohmdllindaaGreatDoor
open Go.RowKit Go.Maps

theorem intKey (n : Int) (h : (Lit.int .i64 n).wf = true) : keyOf Tryz.prog 3 (.int .i64 n) = some (.int .i64 n) := keyOf_int_mk Tryz.underlying3 h
theorem natKey (n : Nat) (h : n ≤ 1000) : keyOf Tryz.prog 3 (.int .i64 (n : Int)) = some (keyI n) := intKey _ (by simp [Lit.wf, IntKind.min, IntKind.max, IntKind.signed, IntKind.bits]; omega)

theorem int_of_keyOf {P : Program} {k : TypeId} {q : IntKind} (hk : P.underlying k = some (.int q)) {v : Value} {l : Lit} (h : keyOf P k v = some l) : ∃ n, v = .int q n ∧ l = .int q n ∧ (Lit.int q n).wf = true := by
  have e : keyOf P k v = mapKey P k v := by simp [keyOf, hk]
  rw [e] at h
  cases v <;> simp [mapKey, hk] at h
  obtain ⟨⟨rfl, h2⟩, rfl⟩ := h
  exact ⟨_, rfl, rfl, h2⟩
/-- the store at sb: N versions were loaded; these are there; where each lies, how often it is held -/
structure StoreAt (w : World) (B sb mb N : Nat) (S : List Nat) (vb hd : Nat → Nat) : Prop where
  c0 : w.cell? ⟨sb, 0, none⟩ = some (.int .i64 N)
  c1 : w.cell? ⟨sb, 1, none⟩ = some (.map (some mb))
  f0 : w.frozen? ⟨sb, 0, none⟩ = false
  own : ∃ es, w.ownsMap Tryz.prog 3 (verE vb N) mb N (.map es) ∧ Ent es S vb
  nd : S.Nodup
  le : ∀ i ∈ S, 1 ≤ i ∧ i ≤ N
  ver : ∀ i, 1 ≤ i → i ≤ N → w.cell? ⟨vb i, 1, none⟩ = some (.int .i64 (hd i)) ∧ w.frozen? ⟨vb i, 1, none⟩ = false ∧ vb i ≠ sb ∧ vb i ≠ mb ∧ B ≤ vb i
  inj : ∀ i j, 1 ≤ i → i ≤ N → 1 ≤ j → j ≤ N → vb i = vb j → i = j
  base : B ≤ sb ∧ B ≤ mb ∧ sb ≠ mb
  few : N ≤ 20
variable {w w' : World} {B sb mb N : Nat} {S : List Nat} {vb hd : Nat → Nat}
theorem StoreAt.lt (h : StoreAt w B sb mb N S vb hd) : sb < w.heap.size ∧ mb < w.heap.size := by
  obtain ⟨es, ho, _⟩ := h.own
  exact ⟨lt_of_cell h.c0, ho.lt⟩
/-- it stays where all its blocks but the map's stay, and the map stays what it is -/
theorem StoreAt.kept (h : StoreAt w B sb mb N S vb hd) {es' : List (Lit × SD)} {S' : List Nat} (hb : ∀ k, k < w.heap.size → k ≠ mb → w'.heap[k]? = w.heap[k]?) (ho : w'.ownsMap Tryz.prog 3 (verE vb N) mb N (.map es')) (hE : Ent es' S' vb) (hn : S'.Nodup) (hl : ∀ i ∈ S', i ∈ S) : StoreAt w' B sb mb N S' vb hd := by
  have hc : ∀ b o v, b ≠ mb → w.cell? ⟨b, o, none⟩ = some v → w'.cell? ⟨b, o, none⟩ = some v := fun b o v hne hv => by
    have hlt := lt_of_cell hv
    rw [← hv]
    simp only [World.cell?, hb b hlt hne]
  have hf : ∀ b o v, b ≠ mb → w.cell? ⟨b, o, none⟩ = some v → w'.frozen? ⟨b, o, none⟩ = w.frozen? ⟨b, o, none⟩ := fun b o v hne hv => by
    have hlt := lt_of_cell hv
    simp only [World.frozen?, hb b hlt hne]
  refine ⟨hc _ _ _ h.base.2.2 h.c0, hc _ _ _ h.base.2.2 h.c1, (hf _ _ _ h.base.2.2 h.c0).trans h.f0, ⟨es', ho, hE⟩, hn, fun i hi => h.le i (hl i hi), fun i h1 h2 => ?_, h.inj, h.base, h.few⟩
  obtain ⟨a1, a2, a3, a4, a5⟩ := h.ver i h1 h2
  exact ⟨hc _ _ _ a4 a1, (hf _ _ _ a4 a1).trans a2, a3, a4, a5⟩
theorem owns_block {P : Program} {k : TypeId} {R : Value → Option (SD × List MemPlace)} {b n : Nat} {D : SD} (h : w.ownsMap P k R b n D) (hb : w'.heap[b]? = w.heap[b]?) : w'.ownsMap P k R b n D := by
  obtain ⟨es, clock, h1, h2, h3, h4⟩ := h
  exact ⟨es, clock, hb.trans h1, h2, h3, h4⟩
theorem StoreAt.below (h : StoreAt w B sb mb N S vb hd) (hb : Below w.heap.size w w') : StoreAt w' B sb mb N S vb hd := by
  obtain ⟨es, ho, hE⟩ := h.own
  exact h.kept (fun k hk _ => hb.block k hk) (owns_block ho (hb.block mb ho.lt)) hE h.nd fun _ h => h

set_option maxHeartbeats 1000000 in
/-- is a version deleted? -/
theorem clean_del (n : Int) (bx i : Nat) (W : World) (hx : W.cell? ⟨bx, 0, none⟩ = some (.pointer (some ⟨sb, 0, none⟩))) (h0 : W.cell? ⟨sb, 0, none⟩ = some (.int .i64 N)) (h1 : W.cell? ⟨vb i, 1, none⟩ = some (.int .i64 (hd i))) :
    Calls Tryz.prog 160 #[.int .i64 n, .pointer (some ⟨vb i, 0, none⟩), .pointer (some ⟨bx, 0, none⟩)] W fun e w' => e = .returned (.bool (decide (n ≠ (N : Int)) && decide (hd i = 0))) ∧ w' = W := by
  by_cases hn : n = (N : Int)
  · rw [decide_eq_false (by simpa using hn), Bool.false_and]
    have hb : (n != (N : Int)) = false := by rw [hn]; simp
    clear hn
    go_enter Tryz.func160, Tryz.ntmps160
    go_wp2
    go_ret
    exact ⟨rfl, rfl⟩
  · rw [decide_eq_true (by simpa using hn), Bool.true_and]
    have hb : (n != (N : Int)) = true := by simpa using hn
    by_cases hz : hd i = 0
    · rw [decide_eq_true hz]
      have hz2 : ((hd i : Int) == 0) = true := by rw [hz]; rfl
      clear hz hn
      generalize hd i = q at *
      go_enter Tryz.func160, Tryz.ntmps160
      go_wp2
      go_ret
      exact ⟨rfl, rfl⟩
    · rw [decide_eq_false hz]
      have hz2 : ((hd i : Int) == 0) = false := by rw [beq_eq_false_iff_ne]; omega
      clear hz hn
      generalize hd i = q at *
      go_enter Tryz.func160, Tryz.ntmps160
      go_wp2
      go_ret
      exact ⟨rfl, rfl⟩

def stays (hd : Nat → Nat) (N i : Nat) : Bool := decide (i = N) || !decide (hd i = 0)
set_option maxHeartbeats 2000000 in
theorem store_clean (w : World) (h : StoreAt w B sb mb N S vb hd) :
    Calls Tryz.prog 102 #[.pointer (some ⟨sb, 0, none⟩)] w fun e w' => e = .returned (.tuple #[]) ∧ StoreAt w' B sb mb N (S.filter (stays hd N)) vb hd ∧ (∀ k, k < w.heap.size → k ≠ mb → w'.heap[k]? = w.heap[k]?) ∧ Below B w w' := by
  have eg : ∀ args w, (callFunc 160 args).run Tryz.prog w = .ok (.enter 160 args) w := enters_of Tryz.func160 (by kernel_rfl) rfl
  obtain ⟨es, ho, hE⟩ := h.own
  obtain ⟨hsb, hmb⟩ := h.lt
  have hbox : (w.alloc (.cells #[.pointer (some ⟨sb, 0, none⟩)] 122)).cell? ⟨w.heap.size, 0, none⟩ = some (.pointer (some ⟨sb, 0, none⟩)) := by go_simp
  have hS := h.below ((Below.refl w.heap.size w).alloc (Nat.le_refl _) (.cells #[.pointer (some ⟨sb, 0, none⟩)] 122))
  have hcon : Calls Tryz.prog 159 #[.map (some mb), .func (.func 160) #[] #[.pointer (some ⟨w.heap.size, 0, none⟩)]] (w.alloc (.cells #[.pointer (some ⟨sb, 0, none⟩)] 122))
      (fun e w' => e = .returned (.tuple #[]) ∧ w'.ownsMap Tryz.prog 3 (verE vb N) mb N (Lib.deleteFuncD (goneB vb hd N) (.map es)) ∧ (w.alloc (.cells #[.pointer (some ⟨sb, 0, none⟩)] 122)).grownBy w' (some mb)) :=
    AnyDf.maps_DeleteFunc Tryz.delV (int_keyed Tryz.underlying3) (verE vb N) (goneB vb hd N) 160 _ mb N (.map es) _ eg (ho.alloc _) (fun W key val kl yd yp hgW hkey hv => by
      obtain ⟨hz, i, h1, h2, rfl, hi⟩ := verE_some hv
      obtain rfl : yd = .held (ptrV (vb i)) := congrArg Prod.fst hz
      obtain ⟨n, rfl, rfl, _⟩ := int_of_keyOf Tryz.underlying3 hkey
      have hp : goneB vb hd N (.int .i64 n) (.held (ptrV (vb i))) = (decide (n ≠ (N : Int)) && decide (hd i = 0)) := by unfold goneB; simp only [hi]
      rw [hp]
      obtain ⟨a1, a2, a3, a4, a5⟩ := hS.ver i h1 h2
      exact (clean_del n w.heap.size i W (hgW.cell hbox (fun e => by have := Option.some.inj e; simp at this; omega)) (hgW.cell hS.c0 (fun e => hS.base.2.2 (Option.some.inj e))) (hgW.cell a1 (fun e => a4 (Option.some.inj e)))).mono fun _ _ ⟨he, hw⟩ => ⟨he, hw ▸ World.grownBy.refl _ _⟩)
  have HC := Lib.hid hcon
  have HH := Lib.hid h
  have hc1 : (w.alloc (.cells #[.pointer (some ⟨sb, 0, none⟩)] 122)).cell? ⟨sb, 1, none⟩ = some (.map (some mb)) := hS.c1
  have HE := Lib.hid hE
  clear hcon h hS hE ho eg
  go_enter Tryz.func102, Tryz.ntmps102
  go_wp2_with fail
  refine HC.out.mono ?_
  rintro e w1 ⟨rfl, ho, hg⟩
  go_wp2_with fail
  go_end0
  have hk : ∀ k, k < w.heap.size → k ≠ mb → w1.heap[k]? = w.heap[k]? := fun k hk hne => (hg.block k (by simp; omega) (fun e => hne (Option.some.inj e))).trans (((Below.refl w.heap.size w).alloc (Nat.le_refl _) _).block k hk)
  obtain ⟨es', he', hE'⟩ := HE.out.del (goneB vb hd N) (stays hd N) (fun i hi => by
    obtain ⟨h1, h2⟩ := HH.out.le i hi
    unfold goneB stays keyI
    simp only [verIdx_at h1 h2 (fun j j1 j2 e => HH.out.inj j i j1 j2 h1 h2 e)]
    by_cases e : i = N
    · subst e; simp
    · have : ¬ ((i : Int) = (N : Int)) := by omega
      simp [e, this])
  rw [he'] at ho
  refine ⟨rfl, HH.out.kept hk ho hE' (HH.out.nd.filter _) (fun i hi => (List.mem_filter.1 hi).1), hk, ⟨hg.os, hg.tape, hg.output, by have := hg.size; simp at this; omega, fun k hkB => hk k (by have := HH.out.base; omega) (by have := HH.out.base; omega)⟩⟩
end Go.Proofs.YtplaohmdllindaaGreatDoor
