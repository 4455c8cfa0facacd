/- Frame, OpenList, Bulk, HeldBase, HeldMap, ListsOf: texts put together. -/
import Derived.Test.YtnhlnhmjnnopaaaGreatDoorRows
import Derived.WalkKit
import Derived.ProofKit
import Derived.OpenShut
import Derived.Below
import Derived.Carry
import Derived.ChangeSame
import Derived.JoinedCond
import Derived.Deep.DeepHandedRow
import Derived.Lib.SmallJoins
import Derived.Deep.Slices
import Derived.Deep.Fields
import Derived.WideShapes
import Derived.Test.YtnhlnhmjnnopaaaGreatDoorProg
import Derived.Maps.Views
import Derived.Maps.OwnSet
import Derived.Maps.Keyed
set_option linter.unusedVariables false
set_option linter.unusedSimpArgs false
/- The frame that all laws share: a law that returns true and leaves everything below the heap's old end as it was meets its row's 'post'. -/
namespace Go.Proofs.YtnhlnhmjnnopaaaGreatDoor
open Go.RowKit Go.WideShapes Go.ChangeShapes

theorem trodAll_below {H : Type} {enc : TypeId × Value → H} {P : Program} (hl : laidOutB P = true) {W W' : World} (hb : Below W.heap.size W W') {sp : Nat → Bool} :
    ∀ (ts : List TypeId) (vs : List Value) (ds : List (DataW H)) (ps : List MemPlace), (∀ t ∈ ts, P.readableRec t = true ∧ t < P.types.size) →
      DataW.TrodAll enc P W 0 (fun _ => true) true ts vs ds ps → (∀ p ∈ ps, p.block < W.heap.size) → (∀ p ∈ ps, sp p.block = true) → DataW.TrodAll enc P W' 0 sp true ts vs ds ps
  | [], [], [], _, _, h, _, _ => h
  | t :: ts, v :: vs, d :: ds, _, hts, ⟨p, q, h1, h2, e⟩, hlt, hs => by
    subst e
    exact ⟨p, q, WideElems.Trod_stays hl (hts t List.mem_cons_self).1 (hts t List.mem_cons_self).2 h1 (fun x hx => hb.same (hlt x (List.mem_append_left _ hx))) (fun x hx => hs x (List.mem_append_left _ hx)),
      trodAll_below hl hb ts vs ds q (fun t' ht' => hts t' (List.mem_cons_of_mem _ ht')) h2 (fun x hx => hlt x (List.mem_append_right _ hx)) (fun x hx => hs x (List.mem_append_right _ hx)), rfl⟩
  | [], [], _ :: _, _, _, h, _, _ => h.elim
  | [], _ :: _, _, _, _, h, _, _ => h.elim
  | _ :: _, [], _, _, _, h, _, _ => h.elim
  | _ :: _, _ :: _, [], _, _, h, _, _ => h.elim

/-- THE LAW's POST. -/
theorem law_post {H : Type} {enc : TypeId × Value → H} {P : Program} {f : Func} {s : ChangeSpec} {W W' : World} {args : Array Value} {ds gs : List (DataW H)} {before : List MemPlace} {tb : TypeId}
    (hl : laidOutB P = true) (hts : (f.params.toList.all fun t => P.readableRec t && decide (t < P.types.size)) = true) (hr : f.resultTypes = #[tb]) (htb : P.underlying tb = some .bool) (hvars : s.vars = [])
    (hW : DataW.Whole enc P f.params.toList s.vars false W args.toList ds gs before) (hfn : s.fn H (ds ++ gs) = { results := [.lit (.bool true)], args := ds }) (hb : Below W.heap.size W W') :
    s.post enc P f false true false false W args (.bool true) W' := by
  have hlt : ∀ p ∈ before, p.block < W.heap.size := fun p hp => hW.lt p hp
  have hW' := hW
  obtain ⟨p, q, hA, hV, e, hz, hn⟩ := hW
  rw [hvars] at hV
  obtain ⟨hg, hq⟩ := trodVars_none hV
  subst hq
  rw [List.append_nil] at e
  subst e
  have hts' : ∀ t ∈ f.params.toList, P.readableRec t = true ∧ t < P.types.size := fun t ht => by
    have := List.all_eq_true.1 hts t ht
    simpa using this
  refine ⟨ds, gs, before, [], before, [], hW', ?_, ?_, ?_, World.keptBut_mono (fun p hp => ⟨hp, Or.inr (Or.inl hp)⟩) (hb.frame (· ∈ before)), fun h => by cases h⟩
  · rw [hfn, hr]
    exact trodAll_mk1 (shut_bool htb _)
  · rw [hfn]
    exact trodAll_below hl hb _ _ _ _ hts' hA hlt (fun p hp => by simpa using hlt p hp)
  · rw [hvars, hfn]
    rfl

end Go.Proofs.YtnhlnhmjnnopaaaGreatDoor

/- A list out of what is there at each place; slices of structs of one-cell fields, opened. -/
namespace Go.Proofs.YtnhlnhmjnnopaaaGreatDoor
open Go.RowKit Go.ChangeShapes Go.WideShapes Go.Joins Go.Deep

theorem list_of {α : Type} {P : Nat → α → Prop} (n : Nat) (h : ∀ i, i < n → ∃ t, P i t) : ∃ ts : List α, ts.length = n ∧ ∀ (i : Nat) t, ts[i]? = some t → P i t := by
  induction n with
  | zero => exact ⟨[], rfl, fun i t h => by simp at h⟩
  | succ n ih =>
    obtain ⟨ts, hl, ht⟩ := ih (fun i hi => h i (by omega))
    obtain ⟨t, hP⟩ := h n (by omega)
    refine ⟨ts ++ [t], by simp [hl], fun i u hu => ?_⟩
    by_cases hi : i < ts.length
    · rw [List.getElem?_append_left hi] at hu
      exact ht i u hu
    · rw [List.getElem?_append_right (by omega)] at hu
      obtain ⟨h0, h1⟩ := List.getElem?_eq_some_iff.1 hu
      simp at h0
      obtain rfl : i = n := by omega
      simp at h1
      subst h1
      exact hP

section
variable {H : Type} {enc : TypeId × Value → H} {P : Program} {w : World} {base : Nat} {spare : Nat → Bool} {held : Bool}
/-- A slice of structs of one-cell fields. -/
theorem open_fields {t e : TypeId} {fs : Array Field} {fuel : Nat} {cs : List Value} {x : DataW H × List MemPlace} (ht : P.underlying t = some (.slice e)) (he : P.underlying e = some (.struct fs))
    (hone : oneCellFields P fs = true) (hC : P.cellsOf e = fs.size) (h : DataW.trod enc P w base spare held fuel t cs = some x) :
    (cs = [.slice none 0 0] ∧ x = (.nil, [])) ∨
    ∃ (a : Addr) (len cap m : Nat) (D : Nat → DataW H), cs = [.slice (some a) len cap] ∧ len ≤ cap ∧ cap ≤ maxLen ∧ m = (if spare a.block then cap else len) ∧
      x.1 = .slice ((List.range len).map D) ((List.range (m - len)).map fun j => D (len + j)) ∧
      ∀ i, i < m → ∃ (ys : List (DataW H × List MemPlace)) (n : Nat), D i = .agg (ys.map (·.1)) ∧ ys.length = fs.size ∧
        ∀ (j : Nat) (f : Field), fs[j]? = some f → ∃ (v : Value) (y : DataW H × List MemPlace), w.cell? (a.add (i * fs.size + j)) = some v ∧ ys[j]? = some y ∧ DataW.trod enc P w base spare held n f.type [v] = some y := by
  rcases open_slice ht h with h0 | ⟨a, len, cap, m, n, D, Pl, hcs, hb, hl, hm, hmm, hx, hi⟩
  · exact .inl h0
  · refine .inr ⟨a, len, cap, m, D, hcs, hl, hm, hmm, by rw [hx], fun i him => ?_⟩
    obtain ⟨cs', hc, ht'⟩ := hi i him
    rw [hC] at hc
    obtain ⟨ys, n', hn', hy, hlen, hyl, hf⟩ := DataW.trod_struct he ht'
    obtain ⟨_, hcl, hat⟩ := World.cells?_some hc
    simp only [Prod.mk.injEq] at hy
    refine ⟨ys, n', hy.1, hyl, fun j f hj => ?_⟩
    obtain ⟨ho, hk⟩ := Go.Deep.hone_of hone j f hj
    have hjl : j < fs.size := (Array.getElem?_eq_some_iff.1 hj).1
    have hcell := hat j hjl
    have hv : cs'[j]? = some (cs'[j]'(by omega)) := List.getElem?_eq_getElem (by omega)
    have h1 := hf j f hj
    rw [ho, hk] at h1
    have hone' : (cs'.drop j).take 1 = [cs'[j]'(by omega)] := by
      rw [List.drop_eq_getElem_cons (by omega)]
      rfl
    rw [hone'] at h1
    have hys : ys[j]? = some (ys[j]'(by omega)) := List.getElem?_eq_getElem (by omega)
    refine ⟨_, _, ?_, hys, h1.trans hys⟩
    rw [← Go.Deep.add_add, hcell, hv]
end
end Go.Proofs.YtnhlnhmjnnopaaaGreatDoor

/- The bulk of data; small facts on readings. -/
namespace Go.Proofs.YtnhlnhmjnnopaaaGreatDoor
open Go.RowKit Go.ChangeShapes Go.WideShapes Go.Joins Go.Deep

theorem bulk_pos {H : Type} (d : DataW H) : 1 ≤ Rows.uptoBulk d := by
  cases d with
  | lit l => cases l <;> (unfold Rows.uptoBulk; omega)
  | nil => unfold Rows.uptoBulk; omega
  | ptr d => unfold Rows.uptoBulk; omega
  | slice a b => unfold Rows.uptoBulk; omega
  | agg a => unfold Rows.uptoBulk; omega
  | iface a b => unfold Rows.uptoBulk; omega
  | map a => unfold Rows.uptoBulk; omega
  | held a => unfold Rows.uptoBulk; omega
theorem bulk_mem {H : Type} {d : DataW H} : ∀ {l : List (DataW H)}, d ∈ l → Rows.uptoBulk d ≤ Rows.uptoBulkAll l
  | [], h => by cases h
  | x :: r, h => by
    simp only [Rows.uptoBulkAll]
    rcases List.mem_cons.1 h with rfl | h
    · omega
    · have := bulk_mem h; omega
theorem bulk_len {H : Type} : ∀ (l : List (DataW H)), l.length ≤ Rows.uptoBulkAll l
  | [] => by simp
  | x :: r => by
    have h1 := bulk_pos x
    have h2 := bulk_len r
    simp only [Rows.uptoBulkAll, List.length_cons]
    omega
theorem bulkAll_append {H : Type} : ∀ (a b : List (DataW H)), Rows.uptoBulkAll (a ++ b) = Rows.uptoBulkAll a + Rows.uptoBulkAll b
  | [], b => by simp [Rows.uptoBulkAll]
  | x :: r, b => by simp only [List.cons_append, Rows.uptoBulkAll, bulkAll_append r b]; omega
/-- what each is no more than its data's bulk, all are no more than the list's -/
theorem bulk_sum {H : Type} {α : Type} (f : α → Nat) (D : Nat → DataW H) : ∀ (n : Nat) (ts : List α), ts.length = n → (∀ (i : Nat) t, ts[i]? = some t → f t ≤ Rows.uptoBulk (D i)) → (ts.map f).sum ≤ Rows.uptoBulkAll ((List.range n).map D) := by
  intro n
  induction n with
  | zero => intro ts h _; obtain rfl := List.length_eq_zero_iff.1 h; simp
  | succ n ih =>
    intro ts h hf
    have hne : ts ≠ [] := by intro e; rw [e] at h; simp at h
    obtain ⟨r, t, rfl⟩ : ∃ r t, ts = r ++ [t] := ⟨ts.dropLast, ts.getLast hne, (List.dropLast_concat_getLast hne).symm⟩
    have hr : r.length = n := by simpa using h
    have h1 := ih r hr (fun i u hu => hf i u (by rw [List.getElem?_append_left (List.getElem?_eq_some_iff.1 hu).1]; exact hu))
    have h2 := hf n t (by rw [← hr]; simp)
    rw [List.range_succ, List.map_append (f := D), bulkAll_append, List.map_append, List.sum_append]
    simp only [List.map_cons, List.map_nil, List.sum_cons, List.sum_nil, Rows.uptoBulkAll]
    omega

theorem addr_plain {W : World} {a : Addr} {n : Nat} {v : Value} (h : W.cell? (a.add n) = some v) (hn : n = 0) : ∃ b o, a = ⟨b, o, none⟩ := by
  obtain ⟨b, o, spot⟩ := a
  subst hn
  have hspot : spot = none := World.cell?_spot (show W.cell? ⟨b, o, spot⟩ = some v from h)
  subst hspot
  exact ⟨b, o, rfl⟩
theorem wf_i64 {n : Int} (h : (Lit.int .i64 n).wf = true) : -9223372036854775808 ≤ n ∧ n ≤ 9223372036854775807 := by
  simpa [Lit.wf, IntKind.min, IntKind.max, IntKind.signed, IntKind.bits] using h

end Go.Proofs.YtnhlnhmjnnopaaaGreatDoor

/- Values that are taken as they are, under texts as keys. -/
namespace Go.Proofs.YtnhlnhmjnnopaaaGreatDoor
open Go Go.RowKit Go.Maps Go.WideMaps

abbrev VD := DataW Value
theorem isMap_put {H : Type} {D : DataW H} (h : IsMap D) (k : Lit) (d : DataW H) : IsMap (D.put k d) := by
  obtain ⟨es, rfl⟩ := h
  exact ⟨_, rfl⟩
theorem strKey (l : List UInt8) : WideAt.IsKeyLit (.string l) := by simp [WideAt.IsKeyLit]
/-- any value, as it is -/
def heldE (v : Value) : Option (VD × List MemPlace) := some (.held v, [])
theorem strK (l : ByteArray) (h : l.size ≤ maxLen) : keyOf Tryz.prog 9 (.string l) = some (.string l.data.toList) := keyOf_string_mk Tryz.underlying9 h
end Go.Proofs.YtnhlnhmjnnopaaaGreatDoor

/- Maps from texts to values that are taken as they are. No program stands here. -/
namespace Go.Proofs.YtnhlnhmjnnopaaaGreatDoor
open Go Go.Maps

abbrev HL := List (List UInt8 × Value)
def putH (D : VD) (l : HL) : VD := l.foldl (fun D p => D.put (.string p.1) (.held p.2)) D
def hmap (l : HL) : VD := putH (.map []) l
def hlook (l : HL) (s : List UInt8) : Option Value := (l.find? (fun p => decide (p.1 = s))).map (·.2)
theorem hmap_snoc (l : HL) (k : List UInt8) (v : Value) : (hmap l).put (.string k) (.held v) = hmap (l ++ [(k, v)]) := by unfold hmap putH; rw [List.foldl_append]; rfl
theorem hmap_is : ∀ (l : HL) (D : VD), IsMap D → IsMap (putH D l)
  | [], _, h => h
  | p :: l, D, h => hmap_is l (D.put (.string p.1) (.held p.2)) (isMap_put h _ _)
theorem putH_none (s : List UInt8) (z : VD) : ∀ (l : HL) (D : VD), (∀ p ∈ l, p.1 ≠ s) → (putH D l).atKey (.string s) z = D.atKey (.string s) z ∧ has (putH D l) (.string s) = has D (.string s)
  | [], D, _ => ⟨rfl, rfl⟩
  | p :: l, D, h => by
    have hp : Lit.string s ≠ .string p.1 := fun e => h p (by simp) (by injection e with e; exact e.symm)
    obtain ⟨a, b⟩ := putH_none s z l (D.put (.string p.1) (.held p.2)) (fun q hq => h q (List.mem_cons_of_mem _ hq))
    exact ⟨a.trans (atKey_put_other hp _ _), b.trans (has_put_other hp _)⟩
theorem putH_some (s : List UInt8) (z : VD) : ∀ (l : HL) (D : VD), IsMap D → (l.map (·.1)).Nodup → ∀ x, l.find? (fun p => decide (p.1 = s)) = some x → (putH D l).atKey (.string s) z = .held x.2 ∧ has (putH D l) (.string s) = true
  | [], D, _, _, x, hx => by cases hx
  | p :: l, D, hD, hn, x, hx => by
    rw [List.map_cons, List.nodup_cons] at hn
    by_cases hp : p.1 = s
    · rw [List.find?_cons_of_pos (by simpa using hp)] at hx
      cases hx
      have hl : ∀ q ∈ l, q.1 ≠ s := fun q hq e => hn.1 (by rw [hp, ← e]; exact List.mem_map_of_mem hq)
      obtain ⟨a, b⟩ := putH_none s z l (D.put (.string p.1) (.held p.2)) hl
      refine ⟨a.trans ?_, b.trans ?_⟩
      · rw [hp]; exact atKey_put_same hD (strKey s) _ _
      · rw [hp]; exact has_put_same hD (strKey s) _
    · rw [List.find?_cons_of_neg (by simpa using hp)] at hx
      exact putH_some s z l _ (isMap_put hD _ _) hn.2 x hx
theorem hmap_some {l : HL} {s : List UInt8} {v : Value} (hn : (l.map (·.1)).Nodup) (h : hlook l s = some v) (z : VD) : (hmap l).atKey (.string s) z = .held v ∧ has (hmap l) (.string s) = true := by
  obtain ⟨p, hp, rfl⟩ := Option.map_eq_some_iff.1 h
  exact putH_some s z l (.map []) ⟨_, rfl⟩ hn p hp
theorem hmap_none {l : HL} {s : List UInt8} (h : hlook l s = none) (z : VD) : (hmap l).atKey (.string s) z = z ∧ has (hmap l) (.string s) = false := by
  have h' := Option.map_eq_none_iff.1 h
  rw [List.find?_eq_none] at h'
  obtain ⟨a, b⟩ := putH_none s z l (.map []) (fun p hp e => by have := h' p hp; simp [e] at this)
  exact ⟨a, b⟩
theorem hlook_none_iff {l : HL} {s : List UInt8} : hlook l s = none ↔ s ∉ l.map (·.1) := by
  unfold hlook
  rw [Option.map_eq_none_iff, List.find?_eq_none, List.mem_map]
  constructor
  · rintro h ⟨p, hp, e⟩
    exact absurd (decide_eq_true e) (h p hp)
  · intro h p hp e
    exact h ⟨p, hp, of_decide_eq_true e⟩
end Go.Proofs.YtnhlnhmjnnopaaaGreatDoor

/- The bytes of texts. -/
namespace Go.Proofs.YtnhlnhmjnnopaaaGreatDoor
abbrev listsOf (vs : List ByteArray) : List (List UInt8) := vs.map (·.data.toList)
end Go.Proofs.YtnhlnhmjnnopaaaGreatDoor
