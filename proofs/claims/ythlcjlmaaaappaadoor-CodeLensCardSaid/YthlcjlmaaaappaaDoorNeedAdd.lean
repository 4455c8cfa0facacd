/- names' add: IndexFunc over its own closure; what is asked for, one more. -/
import Derived.Test.YthlcjlmaaaappaaDoorNeed
import Derived.Test.YthlcjlmaaaappaaDoorRowSet
import Derived.Test.YthlcjlmaaaappaaDoorSizeT
namespace Go.Proofs.YthlcjlmaaaappaaDoor
open Go.RowKit

def Need.cells (x : Need) : List Value := [.string x.name, .bool x.num, .bool x.text]
def kNeed : Kind Need where
  e := 55
  sl := 51
  size := 3
  bytes := 24
  cells := Need.cells
  zero := .agg #[.string ⟨#[]⟩, .bool false, .bool false]
  hsl := Tryd.underlying51
  hi := by
    have h : (Tryd.prog.info? 55).map (fun i => (i.zero, i.size, i.bytes)) = some (some (.agg #[.string ⟨#[]⟩, .bool false, .bool false]), 3, 24) := by kernel_rfl
    obtain ⟨i, hi, h2⟩ := Option.map_eq_some_iff.1 h
    simp only [Prod.mk.injEq] at h2
    exact ⟨i, hi, h2.1, h2.2.1, h2.2.2⟩
  hzs := rfl
  hpos := by decide
  hlen := fun _ => rfl
  hone := fun x u hu => by
    simp only [Need.cells, List.mem_cons, List.not_mem_nil, or_false] at hu
    rcases hu with rfl | rfl | rfl <;> rfl

/-- needs lie there -/
def NeedsIn (w : World) (A : Option Addr) (l : List Need) : Prop :=
  l = [] ∨ ∃ b o, A = some ⟨b, o, none⟩ ∧ ∀ (j : Nat) x, l[j]? = some x → w.cell? ⟨b, o + j * 3, none⟩ = some (.string x.name) ∧ w.cell? ⟨b, o + j * 3 + 1, none⟩ = some (.bool x.num) ∧ w.cell? ⟨b, o + j * 3 + 2, none⟩ = some (.bool x.text)
theorem NeedsIn.below {w w' : World} {A : Option Addr} {l : List Need} (h : NeedsIn w A l) (hb : Below w.heap.size w w') : NeedsIn w' A l := by
  rcases h with h | ⟨b, o, h1, h2⟩
  · exact .inl h
  · exact .inr ⟨b, o, h1, fun j x hx => ⟨carry hb (h2 j x hx).1, carry hb (h2 j x hx).2.1, carry hb (h2 j x hx).2.2⟩⟩
theorem NeedsIn.at {w : World} {A : Option Addr} {l : List Need} (h : NeedsIn w A l) (hp : 0 < l.length) : ∃ b o, A = some ⟨b, o, none⟩ ∧ ∀ (j : Nat) x, l[j]? = some x → w.cell? ⟨b, o + j * 3, none⟩ = some (.string x.name) ∧ w.cell? ⟨b, o + j * 3 + 1, none⟩ = some (.bool x.num) ∧ w.cell? ⟨b, o + j * 3 + 2, none⟩ = some (.bool x.text) := by
  rcases h with h | h
  · rw [h] at hp; simp at hp
  · exact h
theorem needs_of {w : World} {base : Nat} {v : Value} {l : List Need} (h : OwnsG kNeed w base v l) : ∃ A c, v = .slice A l.length c ∧ l.length ≤ c ∧ c ≤ 9223372036854775807 ∧ NeedsIn w A l := by
  obtain ⟨A, c, rfl, h1, h2, _, h3⟩ := h.form
  refine ⟨A, c, rfl, h1, h2, ?_⟩
  rcases h3 with h3 | ⟨g, rfl, _, _, h4⟩
  · exact .inl h3
  · refine .inr ⟨g, 0, rfl, fun j x hx => ⟨?_, ?_, ?_⟩⟩
    · have := h4 j x 0 _ hx rfl
      rw [Nat.zero_add]
      exact this
    · have := h4 j x 1 _ hx rfl
      rw [Nat.zero_add]
      exact this
    · have := h4 j x 2 _ hx rfl
      rw [Nat.zero_add]
      exact this

theorem add_is (n : Need) (bx : Nat) (t : ByteArray) (w : World) (hb : w.cell? ⟨bx, 1, none⟩ = some (.string t)) :
    Calls Tryd.prog 27 #[.agg #[.string n.name, .bool n.num, .bool n.text], .pointer (some ⟨bx, 0, none⟩)] w fun e w' => e = .returned (.bool (hasN t n)) ∧ Below w.heap.size w w' := by
  have HD : Hid (hasN t n = (n.name.toList == t.toList)) := Lib.hid rfl
  have hb1 := carry ((Below.refl w.heap.size w).alloc (Nat.le_refl _) (.cells #[.string n.name, .bool n.num, .bool n.text] 55)) hb
  clear hb
  go_enter Tryd.func27, Tryd.ntmps27
  go_wp2_with fail
  go_ret
  exact ⟨ret_bool HD.out.symm, (by (repeat (first | with_reducible exact Below.refl _ _ | with_reducible refine bel_set ?_ ?_ | with_reducible refine bel_alloc ?_ ?_ | with_reducible refine Below.drew ?_ | with_reducible refine bel_drewN _ ?_ | with_reducible refine bel_call ?_ (by assumption) ?_)); all_goals (first | (simp; done) | omega | (simp; omega)))⟩

def idxN (l : List Need) (t : ByteArray) : Int := match l.findIdx? (hasN t) with | some i => (i : Int) | none => -1
theorem idx_none {l : List Need} {t : ByteArray} (h : ∀ x ∈ l, hasN t x = false) : l.findIdx? (hasN t) = none := by
  rw [List.findIdx?_eq_none_iff]
  exact h
theorem idx_some {l : List Need} {t : ByteArray} {k : Nat} {x : Need} (hx : l[k]? = some x) (h1 : hasN t x = true) (h2 : ∀ y ∈ l.take k, hasN t y = false) : l.findIdx? (hasN t) = some k := by
  rw [List.findIdx?_eq_some_iff_getElem]
  obtain ⟨hlt, he⟩ := List.getElem?_eq_some_iff.1 hx
  refine ⟨hlt, by rw [he]; exact h1, fun j hj => ?_⟩
  have := h2 l[j] (List.mem_iff_getElem?.2 ⟨j, by rw [List.getElem?_take, if_pos hj]; exact List.getElem?_eq_getElem (by omega)⟩)
  rw [this]
  simp

set_option maxHeartbeats 1000000 in
theorem index_name (A : Option Addr) (c : Nat) (l : List Need) (bx : Nat) (t : ByteArray) (w : World) (hL : NeedsIn w A l) (hc : l.length ≤ c) (hc2 : c ≤ 9223372036854775807) (hb : w.cell? ⟨bx, 1, none⟩ = some (.string t)) :
    Calls Tryd.prog 23 #[.slice A l.length c, .func (Fn.func 27) #[] #[.pointer (some ⟨bx, 0, none⟩)]] w fun e w' => e = .returned (.int .i64 (idxN l t)) ∧ Below w.heap.size w w' := by
  have HL := Lib.hid hL
  have HB0 := Lib.hid hb
  clear hL hb
  go_enter Tryd.func23, Tryd.ntmps23
  go_wp2_with fail
  go_loopw [8] (fun i wr => ∃ k : Nat, k ≤ l.length ∧ i = .int .i64 k ∧ Hid (∀ y ∈ l.take k, hasN t y = false) ∧ Hid (Below w.heap.size w wr)) (fun i _ => l.length - (intOf i).toNat)
  case atStart => exact ⟨0, Nat.zero_le _, rfl, Lib.hid (by simp), Lib.hid (Below.refl _ _)⟩
  case round =>
    obtain ⟨k, hk, rfl, HF, HB⟩ := hrel
    by_cases hlt : k < l.length
    · obtain ⟨b, o, rfl, hat⟩ := (HL.out.below HB.out).at (by omega)
      obtain ⟨x, hx⟩ : ∃ x, l[k]? = some x := ⟨l[k], List.getElem?_eq_getElem hlt⟩
      obtain ⟨n0, n1, n2⟩ := hat k x hx
      have hb := carry HB.out HB0.out
      have sB := HB.out.size
      have i0 : (0 : Int) ≤ (k : Int) := by omega
      have i1 : (k : Int) < (l.length : Int) := by omega
      have i2 : (k : Int) ≤ (c : Int) := by omega
      have e1 : IntKind.i64.wrap ((k : Int) + 1) = (k : Int) + 1 := IntWalk.i64_in _ (by omega)
      have K := Lib.hid (add_is x bx t wr hb)
      have HN : Hid (∀ y ∈ l.take (k + 1), hasN t y = false → True) := Lib.hid fun _ _ _ => trivial
      have HX := Lib.hid hx
      clear hat hx hb HN
      cases hq : hasN t x
      · rw [hq] at K
        have HF2 : Hid (∀ y ∈ l.take (k + 1), hasN t y = false) := Lib.hid fun y hy => by
          rw [List.take_add_one, HX.out, Option.toList_some, List.mem_append, List.mem_singleton] at hy
          rcases hy with hy | rfl
          · exact HF.out y hy
          · exact hq
        clear hq
        go_wp2_with fail
        refine K.out.mono ?_
        rintro e w1 ⟨rfl, hb1⟩
        have HB1 := Lib.hid (HB.out.trans (hb1.mono sB))
        clear hb1
        go_wp2_with fail
        go_roundw
        case rel => exact ⟨k + 1, by omega, by go_num, HF2, HB1⟩
        case measure => simp [intOf]; omega
      · rw [hq] at K
        have HD : Hid (idxN l t = (k : Int)) := Lib.hid (by unfold idxN; rw [idx_some HX.out hq HF.out])
        clear hq
        go_wp2_with fail
        refine K.out.mono ?_
        rintro e w1 ⟨rfl, hb1⟩
        have HB1 := Lib.hid (HB.out.trans (hb1.mono sB))
        clear hb1
        go_wp2_with fail
        go_ret
        exact ⟨ret_int HD.out.symm, HB1.out⟩
    · obtain rfl : k = l.length := by omega
      have HD : Hid (idxN l t = -1) := Lib.hid (by unfold idxN; rw [idx_none (fun x hx => HF.out x (by rw [List.take_length]; exact hx))])
      go_wp2_with fail
      go_ret
      exact ⟨ret_int HD.out.symm, HB.out⟩
end Go.Proofs.YthlcjlmaaaappaaDoor
