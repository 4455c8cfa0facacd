/- linguistersame.Texts, Tag. -/
import Derived.Test.YtdpdnanjanceeaaDoorInTexts
import Derived.Test.YtdpdnanjanceeaaDoorTagCheck2
namespace Go.Proofs.YtdpdnanjanceeaaDoor
open Go.RowKit

theorem take_ne {xs ys : List ByteArray} {k : Nat} {x y : ByteArray} (hx : xs[k]? = some x) (hy : ys[k]? = some y) (h : (x.toList == y.toList) = false) : xs ≠ ys := by
  rintro rfl
  rw [hx] at hy
  cases hy
  simp at h
theorem texts_any (A B : Option Addr) (c d : Nat) (xs ys : List ByteArray) (w : World) (hA : StrsIn w A xs) (hB : StrsIn w B ys) (hlen : xs.length ≤ 9223372036854775807) (hlen2 : ys.length ≤ 9223372036854775807) :
    Calls Tryd.prog 39 #[.slice A xs.length c, .slice B ys.length d] w fun e w' => e = .returned (.bool (decide (xs = ys))) ∧ ∃ n, w' = w.drewN n := by
  by_cases hll : xs.length = ys.length
  · have HA := Lib.hid hA
    have HB := Lib.hid hB
    have HLL := Lib.hid hll
    rw [← hll] at hlen2 ⊢
    clear hA hB hll
    go_enter Tryd.func39, Tryd.ntmps39
    go_wp2_with fail
    go_loopw [5] (fun i wr => ∃ k n : Nat, k ≤ xs.length ∧ i = .int .i64 k ∧ w.drewN n = wr ∧ Hid (xs.take k = ys.take k)) (fun i _ => xs.length - (intOf i).toNat)
    case atStart => exact ⟨0, 0, Nat.zero_le _, rfl, rfl, Lib.hid rfl⟩
    case round =>
      obtain ⟨k, n, hk, rfl, rfl, HT⟩ := hrel
      by_cases hlt : k < xs.length
      · have hg : xs[k]? = some xs[k] := List.getElem?_eq_getElem hlt
        have hlt2 : k < ys.length := by have := HLL.out; omega
        have hg2 : ys[k]? = some ys[k] := List.getElem?_eq_getElem hlt2
        rcases HA.out with h0 | ⟨bk, o, rfl, hc⟩
        · subst h0; simp at hlt
        rcases HB.out with h0 | ⟨bk', o', rfl, hc'⟩
        · subst h0; simp at hlt2
        have hcell := hc k _ hg
        have hcell' := hc' k _ hg2
        have HG := Lib.hid hg
        have HG2 := Lib.hid hg2
        clear hc hc' hg hg2
        generalize xs[k] = x at *
        generalize ys[k] = y at *
        have i1 : (0 : Int) ≤ (k : Int) := by omega
        have i2 : (k : Int) < (xs.length : Int) := by omega
        have j1 : IntKind.i64.wrap ((k : Int) + 1) = (k : Int) + 1 := IntWalk.i64_in _ (by omega)
        clear hlt2
        cases he : (x.toList == y.toList) with
        | true =>
          have hxy : x = y := bytes_eq he
          clear he
          subst hxy
          have HT2 : Hid (xs.take (k + 1) = ys.take (k + 1)) := Lib.hid (by rw [List.take_add_one, List.take_add_one, HT.out, HG.out, HG2.out])
          clear HT
          go_wp2_with fail
          go_quiet (fail)
          go_wp2_with fail
          go_roundw
          case rel => exact ⟨k + 1, n + nq, by omega, by go_num, by simp, HT2⟩
          case measure => simp [intOf]; omega
        | false =>
          have HN := Lib.hid (take_ne HG.out HG2.out he)
          have he2 : (x.toList != y.toList) = true := by simp only [bne, he]; rfl
          have he3 : ¬ x.toList = y.toList := fun h => by rw [h] at he; simp at he
          go_wp2_with fail
          go_quiet (fail)
          go_wp2_with fail
          go_ret
          exact ⟨ret_bool (by rw [decide_eq_false HN.out]), n + nq, by simp⟩
      · obtain rfl : k = xs.length := by omega
        have HE : Hid (xs = ys) := Lib.hid (by have := HT.out; rwa [List.take_length, HLL.out, List.take_length] at this)
        clear HT
        go_wp2_with fail
        go_ret
        exact ⟨ret_bool (by rw [decide_eq_true HE.out]), n, rfl⟩
  · have HN : Hid (xs ≠ ys) := Lib.hid (fun h => hll (by rw [h]))
    have i1 : ¬ ((xs.length : Int) = (ys.length : Int)) := by omega
    clear hll
    go_enter Tryd.func39, Tryd.ntmps39
    go_wp2_with fail
    go_ret
    exact ⟨ret_bool (by rw [decide_eq_false HN.out]), 0, rfl⟩

def sameTagB (l s r l' s' r' : ByteArray) (vs vs' : List ByteArray) : Bool := decide (vs = vs') && ((l.toList == l'.toList) && ((s.toList == s'.toList) && (r.toList == r'.toList)))
theorem beq_ne {a b : ByteArray} (h : (a.toList == b.toList) = false) : ¬ a.toList = b.toList := fun e => by rw [e] at h; simp at h

set_option maxHeartbeats 1000000 in
theorem same_tag (l s r l' s' r' : ByteArray) (A B : Option Addr) (c d : Nat) (vs vs' : List ByteArray) (w : World) (hA : StrsIn w A vs) (hB : StrsIn w B vs') (hlen : vs.length ≤ 9223372036854775807) (hlen2 : vs'.length ≤ 9223372036854775807) :
    Calls Tryd.prog 11 #[tagV l s r A vs.length c, tagV l' s' r' B vs'.length d] w fun e w' => e = .returned (.bool (sameTagB l s r l' s' r' vs vs')) ∧ Below w.heap.size w w' := by
  have K := Lib.hid (fun W (h1 : StrsIn W A vs) (h2 : StrsIn W B vs') => texts_any A B c d vs vs' W h1 h2 hlen hlen2)
  have HA := Lib.hid hA
  have HB := Lib.hid hB
  clear hA hB
  unfold sameTagB
  by_cases hv : vs = vs'
  · have e1 : decide (vs = vs') = true := decide_eq_true hv
    rw [e1, Bool.true_and]
    have K2 := Lib.hid (fun W h1 h2 => by have := K.out W h1 h2; rw [e1] at this; exact this)
    clear hv e1 K
    cases h1 : (l.toList == l'.toList)
    · have n1 := beq_ne h1
      rw [Bool.false_and]
      go_enter Tryd.func11, Tryd.ntmps11
      go_wp2_with fail
      refine (K2.out _ ((HA.out.alloc _).alloc _) ((HB.out.alloc _).alloc _)).mono ?_
      rintro e w1 ⟨rfl, n, rfl⟩
      go_wp2_with fail
      go_ret
      exact ⟨rfl, (by (repeat (first | with_reducible exact Below.refl _ _ | with_reducible refine bel_set ?_ ?_ | with_reducible refine bel_alloc ?_ ?_ | with_reducible refine Below.drew ?_ | with_reducible refine bel_drewN _ ?_ | with_reducible refine bel_call ?_ (by assumption) ?_)); all_goals (first | (simp; done) | omega | (simp; omega)))⟩
    · rw [Bool.true_and]
      obtain rfl := bytes_eq h1
      clear h1
      cases h2 : (s.toList == s'.toList)
      · have n1 := beq_ne h2
        rw [Bool.false_and]
        go_enter Tryd.func11, Tryd.ntmps11
        go_wp2_with fail
        refine (K2.out _ ((HA.out.alloc _).alloc _) ((HB.out.alloc _).alloc _)).mono ?_
        rintro e w1 ⟨rfl, n, rfl⟩
        go_wp2_with fail
        go_ret
        exact ⟨rfl, (by (repeat (first | with_reducible exact Below.refl _ _ | with_reducible refine bel_set ?_ ?_ | with_reducible refine bel_alloc ?_ ?_ | with_reducible refine Below.drew ?_ | with_reducible refine bel_drewN _ ?_ | with_reducible refine bel_call ?_ (by assumption) ?_)); all_goals (first | (simp; done) | omega | (simp; omega)))⟩
      · rw [Bool.true_and]
        obtain rfl := bytes_eq h2
        clear h2
        have HR : Hid ((r.toList == r'.toList) = (r.toList == r'.toList)) := Lib.hid rfl
        go_enter Tryd.func11, Tryd.ntmps11
        go_wp2_with fail
        refine (K2.out _ ((HA.out.alloc _).alloc _) ((HB.out.alloc _).alloc _)).mono ?_
        rintro e w1 ⟨rfl, n, rfl⟩
        go_wp2_with fail
        go_ret
        exact ⟨rfl, (by (repeat (first | with_reducible exact Below.refl _ _ | with_reducible refine bel_set ?_ ?_ | with_reducible refine bel_alloc ?_ ?_ | with_reducible refine Below.drew ?_ | with_reducible refine bel_drewN _ ?_ | with_reducible refine bel_call ?_ (by assumption) ?_)); all_goals (first | (simp; done) | omega | (simp; omega)))⟩
  · have e1 : decide (vs = vs') = false := decide_eq_false hv
    rw [e1, Bool.false_and]
    have K2 := Lib.hid (fun W h1 h2 => by have := K.out W h1 h2; rw [e1] at this; exact this)
    clear hv e1 K
    go_enter Tryd.func11, Tryd.ntmps11
    go_wp2_with fail
    refine (K2.out _ ((HA.out.alloc _).alloc _) ((HB.out.alloc _).alloc _)).mono ?_
    rintro e w1 ⟨rfl, n, rfl⟩
    go_wp2_with fail
    go_ret
    exact ⟨rfl, (by (repeat (first | with_reducible exact Below.refl _ _ | with_reducible refine bel_set ?_ ?_ | with_reducible refine bel_alloc ?_ ?_ | with_reducible refine Below.drew ?_ | with_reducible refine bel_drewN _ ?_ | with_reducible refine bel_call ?_ (by assumption) ?_)); all_goals (first | (simp; done) | omega | (simp; omega)))⟩
end Go.Proofs.YtdpdnanjanceeaaDoor
