/- NeedAdd, NeedAdd2: texts put together. -/
import Derived.Test.YtplaohmdllindaaGreatDoorQn10
import Derived.Test.YtplaohmdllindaaGreatDoorQn4
import Derived.Test.YtplaohmdllindaaGreatDoorQn1
import Derived.Deep.RegionLaw
import Derived.Deep.DeepCutAuto
set_option linter.unusedVariables false
set_option linter.unusedSimpArgs false
/- names' add: IndexFunc over its own closure; what is asked for, one more. -/
namespace Go.Proofs.YtplaohmdllindaaGreatDoor
open Go.RowKit

def Need.cells (x : Need) : List Value := [.string x.name, .bool x.num, .bool x.text]
def kNeed : Kind Need where
  e := 164
  sl := 158
  size := 3
  bytes := 24
  cells := Need.cells
  zero := .agg #[.string ⟨#[]⟩, .bool false, .bool false]
  hsl := Tryz.underlying158
  hi := by
    have h : (Tryz.prog.info? 164).map (fun i => (i.zero, i.size, i.bytes)) = some (some (.agg #[.string ⟨#[]⟩, .bool false, .bool false]), 3, 24) := by kernel_rfl
    obtain ⟨i, hi, h2⟩ := Option.map_eq_some_iff.1 h
    simp only [Prod.mk.injEq] at h2
    exact ⟨i, hi, h2.1, h2.2.1, h2.2.2⟩
  hzs := rfl
  hpos := by decide
  hlen := fun _ => rfl
  hone := fun x u hu => by
    simp only [Need.cells, List.mem_cons, List.not_mem_nil, or_false] at hu
    rcases hu with rfl | rfl | rfl <;> rfl

/-- needs lie there -/
def NeedsIn (w : World) (A : Option Addr) (l : List Need) : Prop :=
  l = [] ∨ ∃ b o, A = some ⟨b, o, none⟩ ∧ ∀ (j : Nat) x, l[j]? = some x → w.cell? ⟨b, o + j * 3, none⟩ = some (.string x.name) ∧ w.cell? ⟨b, o + j * 3 + 1, none⟩ = some (.bool x.num) ∧ w.cell? ⟨b, o + j * 3 + 2, none⟩ = some (.bool x.text)
theorem NeedsIn.below {w w' : World} {A : Option Addr} {l : List Need} (h : NeedsIn w A l) (hb : Below w.heap.size w w') : NeedsIn w' A l := by
  rcases h with h | ⟨b, o, h1, h2⟩
  · exact .inl h
  · exact .inr ⟨b, o, h1, fun j x hx => ⟨carry hb (h2 j x hx).1, carry hb (h2 j x hx).2.1, carry hb (h2 j x hx).2.2⟩⟩
theorem NeedsIn.at {w : World} {A : Option Addr} {l : List Need} (h : NeedsIn w A l) (hp : 0 < l.length) : ∃ b o, A = some ⟨b, o, none⟩ ∧ ∀ (j : Nat) x, l[j]? = some x → w.cell? ⟨b, o + j * 3, none⟩ = some (.string x.name) ∧ w.cell? ⟨b, o + j * 3 + 1, none⟩ = some (.bool x.num) ∧ w.cell? ⟨b, o + j * 3 + 2, none⟩ = some (.bool x.text) := by
  rcases h with h | h
  · rw [h] at hp; simp at hp
  · exact h
theorem needs_of {w : World} {base : Nat} {v : Value} {l : List Need} (h : OwnsG kNeed w base v l) : ∃ A c, v = .slice A l.length c ∧ l.length ≤ c ∧ c ≤ 9223372036854775807 ∧ NeedsIn w A l := by
  obtain ⟨A, c, rfl, h1, h2, _, h3⟩ := h.form
  refine ⟨A, c, rfl, h1, h2, ?_⟩
  rcases h3 with h3 | ⟨g, rfl, _, _, h4⟩
  · exact .inl h3
  · refine .inr ⟨g, 0, rfl, fun j x hx => ⟨?_, ?_, ?_⟩⟩
    · have := h4 j x 0 _ hx rfl
      rw [Nat.zero_add]
      exact this
    · have := h4 j x 1 _ hx rfl
      rw [Nat.zero_add]
      exact this
    · have := h4 j x 2 _ hx rfl
      rw [Nat.zero_add]
      exact this

theorem add_is (n : Need) (bx : Nat) (t : ByteArray) (w : World) (hb : w.cell? ⟨bx, 1, none⟩ = some (.string t)) :
    Calls Tryz.prog 219 #[.agg #[.string n.name, .bool n.num, .bool n.text], .pointer (some ⟨bx, 0, none⟩)] w fun e w' => e = .returned (.bool (hasN t n)) ∧ Below w.heap.size w w' := by
  have HD : Hid (hasN t n = (n.name.toList == t.toList)) := Lib.hid rfl
  have hb1 := carry ((Below.refl w.heap.size w).alloc (Nat.le_refl _) (.cells #[.string n.name, .bool n.num, .bool n.text] 164)) hb
  clear hb
  go_enter Tryz.func219, Tryz.ntmps219
  go_wp2_with fail
  go_ret
  exact ⟨ret_bool HD.out.symm, belx⟩

def idxN (l : List Need) (t : ByteArray) : Int := match l.findIdx? (hasN t) with | some i => (i : Int) | none => -1
theorem idx_none {l : List Need} {t : ByteArray} (h : ∀ x ∈ l, hasN t x = false) : l.findIdx? (hasN t) = none := by
  rw [List.findIdx?_eq_none_iff]
  exact h
theorem idx_some {l : List Need} {t : ByteArray} {k : Nat} {x : Need} (hx : l[k]? = some x) (h1 : hasN t x = true) (h2 : ∀ y ∈ l.take k, hasN t y = false) : l.findIdx? (hasN t) = some k := by
  rw [List.findIdx?_eq_some_iff_getElem]
  obtain ⟨hlt, he⟩ := List.getElem?_eq_some_iff.1 hx
  refine ⟨hlt, by rw [he]; exact h1, fun j hj => ?_⟩
  have := h2 l[j] (List.mem_iff_getElem?.2 ⟨j, by rw [List.getElem?_take, if_pos hj]; exact List.getElem?_eq_getElem (by omega)⟩)
  rw [this]
  simp

set_option maxHeartbeats 1000000 in
theorem index_name (A : Option Addr) (c : Nat) (l : List Need) (bx : Nat) (t : ByteArray) (w : World) (hL : NeedsIn w A l) (hc : l.length ≤ c) (hc2 : c ≤ 9223372036854775807) (hb : w.cell? ⟨bx, 1, none⟩ = some (.string t)) :
    Calls Tryz.prog 190 #[.slice A l.length c, .func (Fn.func 219) #[] #[.pointer (some ⟨bx, 0, none⟩)]] w fun e w' => e = .returned (.int .i64 (idxN l t)) ∧ Below w.heap.size w w' := by
  have HL := Lib.hid hL
  have HB0 := Lib.hid hb
  clear hL hb
  go_enter Tryz.func190, Tryz.ntmps190
  go_wp2_with fail
  go_loopw [8] (fun i wr => ∃ k : Nat, k ≤ l.length ∧ i = .int .i64 k ∧ Hid (∀ y ∈ l.take k, hasN t y = false) ∧ Hid (Below w.heap.size w wr)) (fun i _ => l.length - (intOf i).toNat)
  case atStart => exact ⟨0, Nat.zero_le _, rfl, Lib.hid (by simp), Lib.hid (Below.refl _ _)⟩
  case round =>
    obtain ⟨k, hk, rfl, HF, HB⟩ := hrel
    by_cases hlt : k < l.length
    · obtain ⟨b, o, rfl, hat⟩ := (HL.out.below HB.out).at (by omega)
      obtain ⟨x, hx⟩ : ∃ x, l[k]? = some x := ⟨l[k], List.getElem?_eq_getElem hlt⟩
      obtain ⟨n0, n1, n2⟩ := hat k x hx
      have hb := carry HB.out HB0.out
      have sB := HB.out.size
      have i0 : (0 : Int) ≤ (k : Int) := by omega
      have i1 : (k : Int) < (l.length : Int) := by omega
      have i2 : (k : Int) ≤ (c : Int) := by omega
      have e1 : IntKind.i64.wrap ((k : Int) + 1) = (k : Int) + 1 := IntWalk.i64_in _ (by omega)
      have K := Lib.hid (add_is x bx t wr hb)
      have HN : Hid (∀ y ∈ l.take (k + 1), hasN t y = false → True) := Lib.hid fun _ _ _ => trivial
      have HX := Lib.hid hx
      clear hat hx hb HN
      cases hq : hasN t x
      · rw [hq] at K
        have HF2 : Hid (∀ y ∈ l.take (k + 1), hasN t y = false) := Lib.hid fun y hy => by
          rw [List.take_add_one, HX.out, Option.toList_some, List.mem_append, List.mem_singleton] at hy
          rcases hy with hy | rfl
          · exact HF.out y hy
          · exact hq
        clear hq
        go_wp2_with fail
        refine K.out.mono ?_
        rintro e w1 ⟨rfl, hb1⟩
        have HB1 := Lib.hid (HB.out.trans (hb1.mono sB))
        clear hb1
        go_wp2_with fail
        go_roundw
        case rel => exact ⟨k + 1, by omega, by go_num, HF2, HB1⟩
        case measure => simp [intOf]; omega
      · rw [hq] at K
        have HD : Hid (idxN l t = (k : Int)) := Lib.hid (by unfold idxN; rw [idx_some HX.out hq HF.out])
        clear hq
        go_wp2_with fail
        refine K.out.mono ?_
        rintro e w1 ⟨rfl, hb1⟩
        have HB1 := Lib.hid (HB.out.trans (hb1.mono sB))
        clear hb1
        go_wp2_with fail
        go_ret
        exact ⟨ret_int HD.out.symm, HB1.out⟩
    · obtain rfl : k = l.length := by omega
      have HD : Hid (idxN l t = -1) := Lib.hid (by unfold idxN; rw [idx_none (fun x hx => HF.out x (by rw [List.take_length]; exact hx))])
      go_wp2_with fail
      go_ret
      exact ⟨ret_int HD.out.symm, HB.out⟩
end Go.Proofs.YtplaohmdllindaaGreatDoor

/- names' add. -/
namespace Go.Proofs.YtplaohmdllindaaGreatDoor
open Go.RowKit

/-- the variable at p holds a row of needs that is the call's own -/
def NeedsAt (w : World) (p base : Nat) (l : List Need) (sv : Value) : Prop :=
  w.cell? ⟨p, 0, none⟩ = some sv ∧ w.frozen? ⟨p, 0, none⟩ = false ∧ OwnsG kNeed w base sv l ∧ p ∉ sv.ownBlock.toList
theorem NeedsAt.below {w w' : World} {p base : Nat} {l : List Need} {sv : Value} (h : NeedsAt w p base l sv) (hb : Below w.heap.size w w') : NeedsAt w' p base l sv :=
  ⟨carry hb h.1, carryF hb (lt_of_cell h.1) h.2.1, h.2.2.1.below hb, h.2.2.2⟩
def NeedTo (w w' : World) (p base : Nat) (sv : Value) (l : List Need) : Prop :=
  ∃ sv', NeedsAt w' p base l sv' ∧ Fresh w sv sv' ∧ Off (p :: sv.ownBlock.toList) w w'

theorem modify_set {α : Type} {l : List α} {i : Nat} {y : α} {f : α → α} (h : l[i]? = some y) : l.modify i f = l.set i (f y) := by
  apply List.ext_getElem?
  intro j
  rw [List.getElem?_modify, List.getElem?_set]
  by_cases hj : i = j
  · subst hj
    rw [h]
    simp [(List.getElem?_eq_some_iff.1 h).1]
  · simp [hj]
set_option maxHeartbeats 4000000 in
theorem need_add (p base : Nat) (kd off : Int) (t : ByteArray) (A : Option Addr) (n c : Nat) (l : List Need) (sv : Value) (w : World) (h : NeedsAt w p base l sv) (hbase : base ≤ w.heap.size) (hl : l.length ≤ 1000000) :
    Calls Tryz.prog 189 #[.pointer (some ⟨p, 0, none⟩), nodeV kd t off A n c] w fun e w' => e = .returned (.tuple #[]) ∧ NeedTo w w' p base sv (addN l kd t) := by
  have hb0 : Below w.heap.size w (w.alloc (.cells #[.int .i64 kd, .string t, .int .i64 off, .slice A n c] 51)) := belx
  have h1 := h.below hb0
  have b0 : (w.alloc (.cells #[.int .i64 kd, .string t, .int .i64 off, .slice A n c] 51)).cell? ⟨w.heap.size, 0, none⟩ = some (.int .i64 kd) := by go_simp
  have b1 : (w.alloc (.cells #[.int .i64 kd, .string t, .int .i64 off, .slice A n c] 51)).cell? ⟨w.heap.size, 1, none⟩ = some (.string t) := by go_simp
  have hsz : (w.alloc (.cells #[.int .i64 kd, .string t, .int .i64 off, .slice A n c] 51)).heap.size = w.heap.size + 1 := by simp
  obtain ⟨W0, hW⟩ : ∃ W0, W0 = w.alloc (.cells #[.int .i64 kd, .string t, .int .i64 off, .slice A n c] 51) := ⟨_, rfl⟩
  rw [← hW] at hb0 h1 b0 b1 hsz
  have HW := Lib.hid hW
  have HH := Lib.hid h1
  have HB0 := Lib.hid hb0
  have HSZ := Lib.hid hsz
  have B0 := Lib.hid b0
  have B1 := Lib.hid b1
  have hlt := lt_of_cell h.1
  clear h h1 hb0 hW hsz
  unfold nodeV
  by_cases hk : kd = 1 ∨ kd = 6
  · have HD : Hid (addN l kd t = l) := Lib.hid (if_pos hk)
    rcases hk with rfl | rfl
    all_goals
      clear b0 b1
      go_enter Tryz.func189, Tryz.ntmps189
      go_wp2_with fail
      rw [← HW.out]
      refine bodyPost_ret (results_none rfl _ _ _) rfl ⟨rfl, sv, ?_, Fresh.refl _ _, (Off.refl _ _).below HB0.out (Nat.le_refl _)⟩
      rw [HD.out]
      exact HH.out
  · have k1 : (kd == 1) = false := by rw [beq_eq_false_iff_ne]; exact fun h => hk (.inl h)
    have k6 : (kd == 6) = false := by rw [beq_eq_false_iff_ne]; exact fun h => hk (.inr h)
    have HD : Hid (addN l kd t = (growN l t).1.modify (growN l t).2 (flagN kd)) := Lib.hid (if_neg hk)
    have HGL := Lib.hid (growN_lt l t)
    have HGE := Lib.hid (growN_le l t)
    have hmf : ∀ (fn : Fn) (first cap : Array Value) (w : World), (Instr.makeFunc fn first cap).run Tryz.prog w = .ok (.func fn first cap) w := fun _ _ _ _ => rfl
    obtain ⟨A0, c0, rfl, g1, g2, hin⟩ := needs_of HH.out.2.2.1
    have KI := Lib.hid (index_name A0 c0 l w.heap.size t W0 hin g1 g2 B1.out)
    have p0 := HH.out.1
    rw [HW.out] at p0
    clear b0 b1 hk hin
    obtain ⟨G, hG⟩ : ∃ G, G = growN l t := ⟨_, rfl⟩
    rw [← hG] at HD HGL HGE
    have HX : Hid ((∃ i : Nat, idxN l t = (i : Int) ∧ G = (l, i)) ∨ (idxN l t = -1 ∧ G = (l ++ [Need.mk t false false], l.length))) := Lib.hid (by
      rw [hG]
      unfold idxN growN
      cases l.findIdx? (hasN t) with
      | none => exact .inr ⟨rfl, rfl⟩
      | some i => exact .inl ⟨i, rfl, rfl⟩)
    clear hG
    generalize idxN l t = I at *
    go_enter Tryz.func189, Tryz.ntmps189
    go_wp2_with fail
    rw [← HW.out]
    refine KI.out.mono ?_
    rintro e w1 ⟨rfl, hb1⟩
    have hN1 := HH.out.below hb1
    have q1 := carry hb1 B1.out
    have q0 := carry hb1 B0.out
    obtain ⟨p1, p2, hO1, p3⟩ := hN1
    have s1 := hb1.size
    have s0 := HSZ.out
    have HB1 := Lib.hid hb1
    have HO1 := Lib.hid hO1
    have hbl : ∀ g ∈ (Value.slice A0 l.length c0).ownBlock.toList, g ≠ w.heap.size := fun g hg => by
      have := (HH.out.2.2.1.block g hg).2
      obtain ⟨cur, hc⟩ := this
      intro e
      rw [e, HW.out, heap_alloc_new] at hc
      injection hc with hc
      injection hc with _ h2 _
      exact absurd h2 (by decide)
    clear hb1 hO1 p0
    go_upto_if 20 with fail
    go_cut [4] (fun s4 wx => s4 = .int .i64 (G.2 : Int) ∧ Hid (NeedTo W0 wx p base (.slice A0 l.length c0) G.1) ∧ Hid (wx.cell? ⟨w.heap.size, 0, none⟩ = some (.int .i64 kd)))
    case first =>
      rcases HX.out with ⟨i, rfl, rfl⟩ | ⟨rfl, rfl⟩
      · have i0 : (0 : Int) ≤ (i : Int) := by omega
        go_wp2_with fail
        go_meet
        exact ⟨rfl, Lib.hid ⟨_, ⟨p1, p2, HO1.out, p3⟩, Fresh.refl _ _, (Off.refl _ _).below HB1.out (Nat.le_refl _)⟩, Lib.hid q0⟩
      · obtain ⟨W2, hW2⟩ : ∃ W2, W2 = (w1.alloc (.cells #[.string t, .bool false, .bool false] 164)).drew := ⟨_, rfl⟩
        have hb2 : Below w1.heap.size w1 W2 := by rw [hW2]; exact belx
        have HO2 := Lib.hid (HO1.out.below hb2)
        have X0 : Hid (∀ i u, (kNeed.cells (Need.mk t false false))[i]? = some u → W2.cell? ⟨w1.heap.size, i, none⟩ = some u) := Lib.hid (fun i u hu => by
          rw [hW2]
          match i, hu with
          | 0, hu => cases hu; go_simp
          | 1, hu => cases hu; go_simp
          | 2, hu => cases hu; go_simp)
        have s2 := hb2.size
        have HS2 : Hid (base ≤ W2.heap.size) := Lib.hid (by omega)
        have HSW : Hid (w.heap.size < W2.heap.size) := Lib.hid (by omega)
        have HL1 : Hid ((l.length + 1) * kNeed.bytes ≤ 140737488355328) := Lib.hid (by show (l.length + 1) * 24 ≤ _; omega)
        have HL2 : Hid (l.length + 1 ≤ 9223372036854775807) := Lib.hid (by omega)
        have P0 := Lib.hid (carry hb2 p1)
        have P1 := Lib.hid (carryF hb2 (lt_of_cell p1) p2)
        have HB2 := Lib.hid (HB1.out.trans (hb2.mono s1))
        have Q0 := Lib.hid (carry hb2 q0)
        have Q1 := Lib.hid (carry hb2 q1)
        have HP3 := Lib.hid p3
        have HBL := Lib.hid hbl
        rw [hW2] at HO2 X0 HS2
        have HW2 := Lib.hid hW2
        have p1x := P0.out
        have q1x := Q1.out
        rw [hW2] at p1x q1x
        clear hb2 s2 hW2 hbl
        go_wp2_with fail
        go_region_law (apply step_append_gB (k := kNeed) (s := .tmp 28) (x := .tmp 32) (t := Need.mk t false false) (hown := HO2.out) (hc := X0.out) (hb := HS2.out) (hn := HL1.out) (hn2 := HL2.out); (any_goals rfl); intro v' w3 ho hoff hfr; obtain ⟨A1, c1, rfl, _⟩ := ho.form; have HO3 := Lib.hid ho; rw [← HW2.out] at hoff hfr; have HF3 := Lib.hid (Fresh.of hfr); have P3 := hoff.cell P0.out HP3.out; have P4 := (hoff.frozen (lt_of_cell P0.out) HP3.out).trans P1.out; have HOFF := Lib.hid hoff; clear ho hfr hoff)
        all_goals
          rw [show (l ++ [Need.mk t false false]).length = l.length + 1 by simp] at HO3 HF3
          go_wp2_with fail
          go_meet
          refine ⟨rfl, Lib.hid ⟨_, ⟨cell_same P3, (World.frozen?_setCell ..).trans P4, OwnsG.off HO3.out ((Off.refl [p] _).setCell _ _ (by simp)) ?_, ?_⟩, Fresh.trans (Fresh.refl _ _) HF3.out HB2.out.size, ?_⟩, Lib.hid ?_⟩
          · intro g hg hm
            simp only [List.mem_singleton] at hm
            subst hm
            exact HF3.out.not HP3.out (lt_of_cell P0.out) (by simpa using hg)
          · exact HF3.out.not HP3.out (lt_of_cell P0.out)
          · exact (((Off.refl _ _).below HB2.out (Nat.le_refl _)).trans (HOFF.out.more (fun k hk => List.mem_cons_of_mem _ hk))).setCell _ _ (by simp)
          · exact cell_other (HOFF.out.cell Q0.out (fun hm => HBL.out _ hm rfl)) (by first | (simp; done) | (simp; omega))
    case rest =>
      obtain ⟨rfl, HT, HQ⟩ := hcut
      clear p1 p2 p3 q0 q1 HX KI HO1 HB1 HH B1 HW B0
      generalize G.2 = i at *
      generalize G.1 = L at *
      have hlp := hlt
      replace hlt := HGL.out
      obtain ⟨sv', ⟨c0p, c1p, hO, c3p⟩, hF, hOff⟩ := HT.out
      obtain ⟨A2, c2, rfl, e1, e2, e3, e4⟩ := hO.form
      obtain ⟨g, rfl, hg1, hg2, hcell⟩ : ∃ g, A2 = some ⟨g, 0, none⟩ ∧ base ≤ g ∧ g < wc.heap.size ∧ ∀ (j : Nat) t i u, L[j]? = some t → (kNeed.cells t)[i]? = some u → wc.cell? ⟨g, j * kNeed.size + i, none⟩ = some u := by
        rcases e4 with e4 | ⟨g, h1, h2, h3, h4⟩
        · rw [e4] at hlt; simp at hlt
        · exact ⟨g, h1, h2, h3, h4⟩
      obtain ⟨y, hy⟩ : ∃ y, L[i]? = some y := ⟨L[i], List.getElem?_eq_getElem hlt⟩
      have d1 : wc.cell? ⟨g, i * 3 + 1, none⟩ = some (.bool y.num) := hcell i y 1 _ hy rfl
      have d2 : wc.cell? ⟨g, i * 3 + 2, none⟩ = some (.bool y.text) := hcell i y 2 _ hy rfl
      have f1 : wc.frozen? ⟨g, i * 3 + 1, none⟩ = false := hO.frozen _
      have f2 : wc.frozen? ⟨g, i * 3 + 2, none⟩ = false := hO.frozen _
      have bq := HQ.out
      have hpg : p ≠ g := fun e => c3p (by simp [Value.ownBlock, e])
      have hbg : w.heap.size ≠ g := fun e => by
        rcases hF g (by simp [Value.ownBlock]) with h | h
        · exact hbl g h e.symm
        · have := HSZ.out; omega
      have i0 : (0 : Int) ≤ (i : Int) := by omega
      have i1 : (i : Int) < (L.length : Int) := by omega
      have i2 : (i : Int) ≤ (c2 : Int) := by omega
      have END : Hid (∀ N T : Bool, (flagN kd y).num = N → (flagN kd y).text = T → NeedTo w ((wc.setCell ⟨g, i * 3 + 1, none⟩ (.bool N)).setCell ⟨g, i * 3 + 2, none⟩ (.bool T)) p base (.slice A0 l.length c0) (addN l kd t)) := Lib.hid (by
        rintro N T rfl rfl
        have t1 := hO.turnAt i 1 ⟨y.name, (flagN kd y).num, y.text⟩ (.bool (flagN kd y).num) hlt (by decide) (fun t ht => by rw [hy] at ht; cases ht; rfl)
        have t2 := t1.turnAt i 2 (flagN kd y) (.bool (flagN kd y).text) (by rw [List.length_set]; exact hlt) (by decide) (fun t ht => by rw [List.getElem?_set_self hlt] at ht; cases ht; rfl)
        rw [List.set_set] at t2
        have hd : addN l kd t = L.set i (flagN kd y) := by
          rw [HD.out]
          exact modify_set hy
        rw [hd]
        refine ⟨_, ⟨?_, ?_, t2, ?_⟩, Fresh.trans (Fresh.refl _ _) hF HB0.out.size, ?_⟩
        · exact cell_other (cell_other c0p (fun h => hpg (by injection h with h; exact h.symm))) (fun h => hpg (by injection h with h; exact h.symm))
        · rw [World.frozen?_setCell, World.frozen?_setCell]; exact c1p
        · exact c3p
        · refine ((((((Off.refl _ w).below HB0.out (Nat.le_refl _)).trans hOff).more (m := g :: p :: (Value.slice A0 l.length c0).ownBlock.toList) (fun k hk => List.mem_cons_of_mem _ hk)).setCell ⟨g, i * 3 + 1, none⟩ _ (by simp)).setCell ⟨g, i * 3 + 2, none⟩ _ (by simp)).less ?_
          intro k hk
          rcases List.mem_cons.1 hk with rfl | hk
          · rcases hF k (by simp [Value.ownBlock]) with h | h
            · exact .inl (List.mem_cons_of_mem _ h)
            · exact .inr (by have := HSZ.out; omega)
          · exact .inl hk)
      clear hcell hO hF hOff HT HQ HD
      obtain ⟨yn, ynum, ytext⟩ := y
      simp only at d1 d2
      unfold flagN at END
      simp only at END
      have E0 : ∀ (h3 : (kd == 3) = false) (h4 : (kd == 4) = false) (h5 : (kd == 5) = false), decide (kd = 3) = false ∧ decide (kd = 4) = false ∧ decide (kd = 5) = false := fun h3 h4 h5 => ⟨decide_eq_false (by simpa using h3), decide_eq_false (by simpa using h4), decide_eq_false (by simpa using h5)⟩
      have HE0 := Lib.hid E0
      clear E0
      by_cases h3 : kd = 3
      · subst h3
        clear k1 k6 HE0
        cases ynum <;> cases ytext
        all_goals
          go_wp2_with fail
          refine bodyPost_end (results_none rfl _ _ _) rfl ⟨rfl, ?_⟩
          exact END.out _ _ (by decide) (by decide)
      · by_cases h4 : kd = 4
        · subst h4
          clear k1 k6 HE0
          cases ynum <;> cases ytext
          all_goals
            go_wp2_with fail
            refine bodyPost_end (results_none rfl _ _ _) rfl ⟨rfl, ?_⟩
            exact END.out _ _ (by decide) (by decide)
        · by_cases h5 : kd = 5
          · subst h5
            clear k1 k6 HE0
            cases ynum <;> cases ytext
            all_goals
              go_wp2_with fail
              refine bodyPost_end (results_none rfl _ _ _) rfl ⟨rfl, ?_⟩
              exact END.out _ _ (by decide) (by decide)
          · have k3 : (kd == 3) = false := by rw [beq_eq_false_iff_ne]; exact h3
            have k4 : (kd == 4) = false := by rw [beq_eq_false_iff_ne]; exact h4
            have k5 : (kd == 5) = false := by rw [beq_eq_false_iff_ne]; exact h5
            obtain ⟨x3, x4, x5⟩ := HE0.out k3 k4 k5
            rw [x3, x4, x5] at END
            clear h3 h4 h5 x3 x4 x5
            cases ynum <;> cases ytext
            all_goals
              go_wp2_with fail
              refine bodyPost_end (results_none rfl _ _ _) rfl ⟨rfl, ?_⟩
              exact END.out _ _ rfl rfl
end Go.Proofs.YtplaohmdllindaaGreatDoor
