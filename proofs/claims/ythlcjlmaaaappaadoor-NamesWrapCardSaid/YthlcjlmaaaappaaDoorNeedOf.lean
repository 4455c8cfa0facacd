/- names.of, names.Of. -/
import Derived.Test.YthlcjlmaaaappaaDoorNeedAll
namespace Go.Proofs.YthlcjlmaaaappaaDoor
open Go.RowKit

def bothN (n : Need) : Bool := n.num && n.text
theorem of_is (n : Need) (w : World) :
    Calls Tryd.prog 19 #[.agg #[.string n.name, .bool n.num, .bool n.text]] w fun e w' => e = .returned (.bool (bothN n)) ∧ Below w.heap.size w w' := by
  obtain ⟨t, a, b⟩ := n
  cases a
  · have HD : Hid (bothN ⟨t, false, b⟩ = false) := Lib.hid rfl
    simp only
    go_enter Tryd.func19, Tryd.ntmps19
    go_wp2_with fail
    go_ret
    exact ⟨ret_bool HD.out.symm, (by (repeat (first | with_reducible exact Below.refl _ _ | with_reducible refine bel_set ?_ ?_ | with_reducible refine bel_alloc ?_ ?_ | with_reducible refine Below.drew ?_ | with_reducible refine bel_drewN _ ?_ | with_reducible refine bel_call ?_ (by assumption) ?_)); all_goals (first | (simp; done) | omega | (simp; omega)))⟩
  · have HD : Hid (bothN ⟨t, true, b⟩ = b) := Lib.hid rfl
    simp only
    go_enter Tryd.func19, Tryd.ntmps19
    go_wp2_with fail
    go_ret
    exact ⟨ret_bool HD.out.symm, (by (repeat (first | with_reducible exact Below.refl _ _ | with_reducible refine bel_set ?_ ?_ | with_reducible refine bel_alloc ?_ ?_ | with_reducible refine Below.drew ?_ | with_reducible refine bel_drewN _ ?_ | with_reducible refine bel_call ?_ (by assumption) ?_)); all_goals (first | (simp; done) | omega | (simp; omega)))⟩

set_option maxHeartbeats 1000000 in
theorem index_both (A : Option Addr) (c : Nat) (l : List Need) (w : World) (hL : NeedsIn w A l) (hc : l.length ≤ c) (hc2 : c ≤ 9223372036854775807) :
    Calls Tryd.prog 23 #[.slice A l.length c, .func (Fn.func 19) #[] #[]] w fun e w' => (∃ i : Int, e = .returned (.int .i64 i) ∧ decide (0 ≤ i) = l.any bothN) ∧ Below w.heap.size w w' := by
  have HL := Lib.hid hL
  clear hL
  go_enter Tryd.func23, Tryd.ntmps23
  go_wp2_with fail
  go_loopw [8] (fun i wr => ∃ k : Nat, k ≤ l.length ∧ i = .int .i64 k ∧ Hid (∀ y ∈ l.take k, bothN y = false) ∧ Hid (Below w.heap.size w wr)) (fun i _ => l.length - (intOf i).toNat)
  case atStart => exact ⟨0, Nat.zero_le _, rfl, Lib.hid (by simp), Lib.hid (Below.refl _ _)⟩
  case round =>
    obtain ⟨k, hk, rfl, HF, HB⟩ := hrel
    by_cases hlt : k < l.length
    · obtain ⟨b, o, rfl, hat⟩ := (HL.out.below HB.out).at (by omega)
      obtain ⟨x, hx⟩ : ∃ x, l[k]? = some x := ⟨l[k], List.getElem?_eq_getElem hlt⟩
      obtain ⟨n0, n1, n2⟩ := hat k x hx
      have sB := HB.out.size
      have i0 : (0 : Int) ≤ (k : Int) := by omega
      have i1 : (k : Int) < (l.length : Int) := by omega
      have i2 : (k : Int) ≤ (c : Int) := by omega
      have e1 : IntKind.i64.wrap ((k : Int) + 1) = (k : Int) + 1 := IntWalk.i64_in _ (by omega)
      have K := Lib.hid (of_is x wr)
      have HX := Lib.hid hx
      clear hat hx
      cases hq : bothN x
      · rw [hq] at K
        have HF2 : Hid (∀ y ∈ l.take (k + 1), bothN y = false) := Lib.hid fun y hy => by
          rw [List.take_add_one, HX.out, Option.toList_some, List.mem_append, List.mem_singleton] at hy
          rcases hy with hy | rfl
          · exact HF.out y hy
          · exact hq
        clear hq
        go_wp2_with fail
        refine K.out.mono ?_
        rintro e w1 ⟨rfl, hb1⟩
        have HB1 := Lib.hid (HB.out.trans (hb1.mono sB))
        clear hb1
        go_wp2_with fail
        go_roundw
        case rel => exact ⟨k + 1, by omega, by go_num, HF2, HB1⟩
        case measure => simp [intOf]; omega
      · rw [hq] at K
        have HD : Hid (l.any bothN = true) := Lib.hid (List.any_eq_true.2 ⟨x, List.mem_of_getElem? HX.out, hq⟩)
        clear hq
        go_wp2_with fail
        refine K.out.mono ?_
        rintro e w1 ⟨rfl, hb1⟩
        have HB1 := Lib.hid (HB.out.trans (hb1.mono sB))
        clear hb1
        go_wp2_with fail
        go_ret
        refine ⟨⟨(k : Int), rfl, ?_⟩, HB1.out⟩
        rw [HD.out]
        exact decide_eq_true (by omega)
    · obtain rfl : k = l.length := by omega
      have HD : Hid (l.any bothN = false) := Lib.hid (by
        rw [List.any_eq_false]
        intro x hx
        have := HF.out x (by rw [List.take_length]; exact hx)
        rw [this]; decide)
      go_wp2_with fail
      go_ret
      refine ⟨⟨-1, rfl, ?_⟩, HB.out⟩
      rw [HD.out]
      rfl
theorem any_both (A : Option Addr) (c : Nat) (l : List Need) (w : World) (hL : NeedsIn w A l) (hc : l.length ≤ c) (hc2 : c ≤ 9223372036854775807) :
    Calls Tryd.prog 18 #[.slice A l.length c, .func (Fn.func 19) #[] #[]] w fun e w' => e = .returned (.bool (l.any bothN)) ∧ Below w.heap.size w w' := by
  have K := Lib.hid (index_both A c l w hL hc hc2)
  clear hL
  generalize l.any bothN = T at *
  go_enter Tryd.func18, Tryd.ntmps18
  go_wp2_with fail
  refine K.out.mono ?_
  rintro e w1 ⟨⟨i, rfl, hi⟩, hb1⟩
  have HI := Lib.hid hi
  clear hi
  go_wp2_with fail
  go_ret
  exact ⟨ret_bool HI.out, hb1⟩

/-- names.of where nothing is wrong -/
theorem names_of_ok (f : Nat) (v : Value) (ms : List Nd) (w : World) (hE : RuleEnv w) (hK : MKinds w) (hN : NodesIn f w v ms) (h : namesP f ms = 0) :
    Calls Tryd.prog 13 #[v] w fun e w' => (∃ A c, e = .returned (.tuple #[.slice A (allN f [] ms).length c, .nilIface]) ∧ (allN f [] ms).length ≤ c ∧ c ≤ 9223372036854775807 ∧ NeedsIn w' A (allN f [] ms)) ∧ Below w.heap.size w w' := by
  have hm : msgP f ms = 0 := by
    unfold namesP at h
    split at h
    · rename_i h1; exact h1
    · exact h
  have hany : (allN f [] ms).any bothN = false := by
    unfold namesP at h
    rw [if_pos hm] at h
    cases hq : (allN f [] ms).any bothN
    · rfl
    · rw [show (allN f [] ms).any (fun n => n.num && n.text) = true from hq] at h
      cases h
  have KM := Lib.hid (msg_any f v ms w hE hK hN)
  rw [hm] at KM
  have hcnt := (msg_small hm).1
  have HNK := Lib.hid (fun (W : World) (p : Nat) (sv : Value) (hb : Below w.heap.size w W) (hp : w.heap.size ≤ p) (hA : NeedsAt W p w.heap.size [] sv) => need_all w p w.heap.size hp (Nat.le_refl _) f v ms [] sv W hN hb hA hb.size (by simp; omega))
  obtain ⟨A, c, rfl, _, _, _⟩ := hN.form
  have E0 : Hid (errOf 0 = .nilIface) := Lib.hid rfl
  rw [E0.out] at KM
  have HANY := Lib.hid hany
  clear hE hK hN h hm hcnt hany
  generalize allN f [] ms = L at *
  go_enter Tryd.func13, Tryd.ntmps13
  go_wp2_with fail
  refine KM.out.mono ?_
  rintro e w1 ⟨rfl, hb1⟩
  have s1 := hb1.size
  have HB1 := Lib.hid hb1
  clear hb1
  go_wp2_with fail
  have hb2 : Below w.heap.size w (w1.alloc (.cells #[.slice none 0 0] 51)) := HB1.out.alloc s1 _
  have hA : NeedsAt (w1.alloc (.cells #[.slice none 0 0] 51)) w1.heap.size w.heap.size [] (.slice none 0 0) := ⟨by go_simp, by go_simp, OwnsG.nil _ _, by simp [Value.ownBlock]⟩
  refine (HNK.out _ w1.heap.size _ hb2 s1 hA).mono ?_
  rintro e w2 ⟨rfl, hT⟩
  have HB2 := Lib.hid (hb2.trans (hT.toBelow hA s1 (Nat.le_refl _) hb2.size))
  obtain ⟨sv, ⟨p0, p1, hO, _⟩, _, _⟩ := hT
  obtain ⟨A2, c2, rfl, g1, g2, hin⟩ := needs_of hO
  have KA := Lib.hid (any_both A2 c2 L w2 hin g1 g2)
  rw [HANY.out] at KA
  have HIN := Lib.hid hin
  have P0 := Lib.hid p0
  clear hb2 hA hO hin p1
  go_wp2_with fail
  refine KA.out.mono ?_
  rintro e w3 ⟨rfl, hb3⟩
  have s2 := HB2.out.size
  have HB3 := Lib.hid (HB2.out.trans (hb3.mono s2))
  have q0 := carry hb3 P0.out
  have HIN3 := Lib.hid (HIN.out.below hb3)
  clear hb3 p0
  go_wp2_with fail
  go_ret2
  exact ⟨⟨A2, c2, rfl, g1, g2, HIN3.out⟩, HB3.out⟩
/-- names.of where something is wrong -/
theorem names_of_no (f : Nat) (v : Value) (ms : List Nd) (w : World) (hE : RuleEnv w) (hK : MKinds w) (hN : NodesIn f w v ms) (h : ¬ namesP f ms = 0) :
    Calls Tryd.prog 13 #[v] w fun e w' => e = .returned (.tuple #[.slice none 0 0, errT (namesP f ms)]) ∧ Below w.heap.size w w' := by
  have KM := Lib.hid (msg_any f v ms w hE hK hN)
  by_cases hm : msgP f ms = 0
  · rw [hm] at KM
    have hany : (allN f [] ms).any bothN = true := by
      unfold namesP at h
      rw [if_pos hm] at h
      cases hq : (allN f [] ms).any bothN
      · rw [show (allN f [] ms).any (fun n => n.num && n.text) = false from hq] at h
        exact absurd rfl h
      · rfl
    have h7 : namesP f ms = 7 := by
      unfold namesP
      rw [if_pos hm, show (allN f [] ms).any (fun n => n.num && n.text) = true from hany]
      rfl
    rw [h7]
    have hcnt := (msg_small hm).1
    have HNK := Lib.hid (fun (W : World) (p : Nat) (sv : Value) (hb : Below w.heap.size w W) (hp : w.heap.size ≤ p) (hA : NeedsAt W p w.heap.size [] sv) => need_all w p w.heap.size hp (Nat.le_refl _) f v ms [] sv W hN hb hA hb.size (by simp; omega))
    obtain ⟨A, c, rfl, _, _, _⟩ := hN.form
    have E0 : Hid (errOf 0 = .nilIface) := Lib.hid rfl
    rw [E0.out] at KM
    have HANY := Lib.hid hany
    clear hE hK hN h hm hcnt hany h7
    generalize allN f [] ms = L at *
    go_enter Tryd.func13, Tryd.ntmps13
    go_wp2_with fail
    refine KM.out.mono ?_
    rintro e w1 ⟨rfl, hb1⟩
    have s1 := hb1.size
    have HB1 := Lib.hid hb1
    clear hb1
    go_wp2_with fail
    have hb2 : Below w.heap.size w (w1.alloc (.cells #[.slice none 0 0] 51)) := HB1.out.alloc s1 _
    have hA : NeedsAt (w1.alloc (.cells #[.slice none 0 0] 51)) w1.heap.size w.heap.size [] (.slice none 0 0) := ⟨by go_simp, by go_simp, OwnsG.nil _ _, by simp [Value.ownBlock]⟩
    refine (HNK.out _ w1.heap.size _ hb2 s1 hA).mono ?_
    rintro e w2 ⟨rfl, hT⟩
    have HB2 := Lib.hid (hb2.trans (hT.toBelow hA s1 (Nat.le_refl _) hb2.size))
    obtain ⟨sv, ⟨p0, p1, hO, _⟩, _, _⟩ := hT
    obtain ⟨A2, c2, rfl, g1, g2, hin⟩ := needs_of hO
    have KA := Lib.hid (any_both A2 c2 L w2 hin g1 g2)
    rw [HANY.out] at KA
    clear hb2 hA hO hin p1
    go_wp2_with fail
    refine KA.out.mono ?_
    rintro e w3 ⟨rfl, hb3⟩
    have s2 := HB2.out.size
    have HB3 := Lib.hid (HB2.out.trans (hb3.mono s2))
    clear hb3 p0
    go_wp2_with fail
    go_ret2
    exact ⟨rfl, HB3.out⟩
  · have hnp : namesP f ms = msgP f ms := if_neg hm
    rw [hnp]
    have E0 : errOf (msgP f ms) = errT (msgP f ms) := if_neg hm
    rw [E0] at KM
    obtain ⟨A, c, rfl, _, _, _⟩ := hN.form
    clear hE hK hN h hm hnp E0
    generalize msgP f ms = E at *
    go_enter Tryd.func13, Tryd.ntmps13
    go_wp2_with fail
    refine KM.out.mono ?_
    rintro e w1 ⟨rfl, hb1⟩
    go_wp2_with fail
    go_ret2
    exact ⟨rfl, hb1⟩
end Go.Proofs.YthlcjlmaaaappaaDoor
