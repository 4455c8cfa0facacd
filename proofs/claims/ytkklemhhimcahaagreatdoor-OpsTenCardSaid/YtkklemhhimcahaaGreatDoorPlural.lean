/- plural.Check and plural.Kind. -/
import Derived.Test.YtkklemhhimcahaaGreatDoorRuleParse3
import Derived.Test.YtkklemhhimcahaaGreatDoorRuleAny
import Derived.Test.YtkklemhhimcahaaGreatDoorOps
import Derived.Test.YtkklemhhimcahaaGreatDoorOpenFive
namespace Go.Proofs.YtkklemhhimcahaaGreatDoor
open Go.RowKit

def SetC.good (s : SetC) (i : Nat) : Bool := (s.at i).toList.isEmpty || parseOk (s.at i)
def SetC.ok (s : SetC) : Bool := (List.range 5).all s.good
def SetC.hit (s : SetC) (o : OpsC) (i : Nat) : Bool := !(s.at i).toList.isEmpty && ruleHolds (parseB (s.at i)) o
def SetC.kind (s : SetC) (o : OpsC) : Nat := ((List.range 5).find? (s.hit o)).getD 5
def kindT (i : Nat) : ByteArray := match i with | 0 => ⟨#[122, 101, 114, 111]⟩ | 1 => ⟨#[111, 110, 101]⟩ | 2 => ⟨#[116, 119, 111]⟩ | 3 => ⟨#[102, 101, 119]⟩ | 4 => ⟨#[109, 97, 110, 121]⟩ | _ => ⟨#[111, 116, 104, 101, 114]⟩
def SetC.small (s : SetC) : Prop := ∀ i, (s.at i).size < 4294967281
theorem SetC.ok_good {s : SetC} (h : s.ok = true) (i : Nat) (hi : i < 5) : s.good i = true := List.all_eq_true.1 h i (List.mem_range.2 hi)
theorem SetC.not_ok {s : SetC} {i : Nat} (hi : i < 5) (h : s.good i = false) : s.ok = false := by
  unfold SetC.ok
  rw [List.all_eq_false]
  exact ⟨i, List.mem_range.2 hi, by rw [h]; simp⟩
theorem SetC.ok_of {s : SetC} (h : ∀ i, i < 5 → s.good i = true) : s.ok = true := List.all_eq_true.2 fun i hi => h i (List.mem_range.1 hi)
theorem find_first {p : Nat → Bool} (n k : Nat) (hk : k < n) (h0 : ∀ j, j < k → p j = false) (h1 : p k = true) : (List.range n).find? p = some k := by
  rw [List.find?_range_eq_some]
  exact ⟨h1, List.mem_range.2 hk, fun j hj => by rw [h0 j hj]; rfl⟩
theorem SetC.kind_at {s : SetC} {o : OpsC} {k : Nat} (hk : k < 5) (h0 : ∀ j, j < k → s.hit o j = false) (h1 : s.hit o k = true) : s.kind o = k := by
  unfold SetC.kind
  rw [find_first 5 k hk h0 h1]
  rfl
theorem SetC.kind_none {s : SetC} {o : OpsC} (h0 : ∀ j, j < 5 → s.hit o j = false) : s.kind o = 5 := by
  unfold SetC.kind
  have : (List.range 5).find? (s.hit o) = none := by
    rw [List.find?_range_eq_none]
    intro i hi
    rw [h0 i hi]; rfl
  rw [this]
  rfl

def okV (b : Bool) : Value := if b then .nilIface else errV 3
theorem set_index0 (s0 s1 s2 s3 s4 : ByteArray) (w : World) : (Instr.index 83 (setV s0 s1 s2 s3 s4) (.int .i64 0)).run Tryz.prog w = .ok (.string s0) w := by kernel_rfl
theorem set_index1 (s0 s1 s2 s3 s4 : ByteArray) (w : World) : (Instr.index 83 (setV s0 s1 s2 s3 s4) (.int .i64 1)).run Tryz.prog w = .ok (.string s1) w := by kernel_rfl
theorem set_index2 (s0 s1 s2 s3 s4 : ByteArray) (w : World) : (Instr.index 83 (setV s0 s1 s2 s3 s4) (.int .i64 2)).run Tryz.prog w = .ok (.string s2) w := by kernel_rfl
theorem set_index3 (s0 s1 s2 s3 s4 : ByteArray) (w : World) : (Instr.index 83 (setV s0 s1 s2 s3 s4) (.int .i64 3)).run Tryz.prog w = .ok (.string s3) w := by kernel_rfl
theorem set_index4 (s0 s1 s2 s3 s4 : ByteArray) (w : World) : (Instr.index 83 (setV s0 s1 s2 s3 s4) (.int .i64 4)).run Tryz.prog w = .ok (.string s4) w := by kernel_rfl
set_option maxRecDepth 100000 in
theorem set_index (s : SetC) (k : Nat) (hk : k < 5) (w : World) : (Instr.index 83 (setV s.s0 s.s1 s.s2 s.s3 s.s4) (.int .i64 k)).run Tryz.prog w = .ok (.string (s.at k)) w := by
  obtain ⟨s0, s1, s2, s3, s4⟩ := s
  have h : k = 0 ∨ k = 1 ∨ k = 2 ∨ k = 3 ∨ k = 4 := by omega
  rcases h with rfl | rfl | rfl | rfl | rfl
  · exact set_index0 s0 s1 s2 s3 s4 w
  · exact set_index1 s0 s1 s2 s3 s4 w
  · exact set_index2 s0 s1 s2 s3 s4 w
  · exact set_index3 s0 s1 s2 s3 s4 w
  · exact set_index4 s0 s1 s2 s3 s4 w

set_option maxHeartbeats 1000000 in
theorem plural_texts (s : SetC) (w : World) :
    Calls Tryz.prog 33 #[setV s.s0 s.s1 s.s2 s.s3 s.s4] w fun e w' => e = .returned (setV s.s0 s.s1 s.s2 s.s3 s.s4) ∧ Below w.heap.size w w' := by
  obtain ⟨s0, s1, s2, s3, s4⟩ := s
  go_enter Tryz.func33, Tryz.ntmps33
  go_wp2
  exact bodyPost_ret (v := setV s0 s1 s2 s3 s4) (by simp [results, Tryz.results33, go_sem]) rfl ⟨rfl, (by (repeat (first | with_reducible exact Below.refl _ _ | with_reducible refine bel_set ?_ ?_ | with_reducible refine bel_alloc ?_ ?_ | with_reducible refine Below.drew ?_ | with_reducible refine bel_drewN _ ?_ | with_reducible refine bel_call ?_ (by assumption) ?_)); all_goals (first | (simp; done) | omega | (simp; omega)))⟩

/-- rule.Parse of a text that is right -/
theorem parse_yes (s : ByteArray) (w : World) (hE : RuleEnv w) (hs : s.size < 4294967281) (h : parseOk s = true) :
    Calls Tryz.prog 6 #[.string s] w fun e w' => (∃ A c ps, e = .returned (.tuple #[.slice A ps.length c, .nilIface]) ∧ ruleC ps = parseB s ∧ RuleIn w' A ps ∧ ps.length ≤ c ∧ c ≤ 9223372036854775807) ∧ Below w.heap.size w w' := by
  refine (rule_parse s w hE hs).mono ?_
  rintro e w' ⟨hp, hb⟩
  refine ⟨?_, hb⟩
  unfold ParsePost at hp
  rw [if_pos h] at hp
  obtain ⟨A, c, ps, h1, h2, h3, h4, _, h5⟩ := hp
  exact ⟨A, c, ps, h5, h1, h2, h3, h4⟩
theorem parse_no (s : ByteArray) (w : World) (hE : RuleEnv w) (hs : s.size < 4294967281) (h : parseOk s = false) :
    Calls Tryz.prog 6 #[.string s] w fun e w' => e = .returned (.tuple #[.slice none 0 0, errV 3]) ∧ Below w.heap.size w w' := by
  refine (rule_parse s w hE hs).mono ?_
  rintro e w' ⟨hp, hb⟩
  refine ⟨?_, hb⟩
  unfold ParsePost at hp
  rw [h] at hp
  exact hp
theorem holds_yes (s : ByteArray) (A : Option Addr) (c : Nat) (ps : List PartD) (o : OpsC) (w : World) (hp : ruleC ps = parseB s) (hok : parseOk s = true) (h : RuleIn w A ps) (hc : ps.length ≤ c) (hc2 : c ≤ 9223372036854775807) (ho : o.fits) :
    Calls Tryz.prog 7 #[.slice A ps.length c, opsA o.i o.v o.w o.f o.t] w fun e w' => e = .returned (.tuple #[.bool (ruleHolds (parseB s) o), .nilIface]) ∧ Below w.heap.size w w' := by
  have h0 : ruleErr (ruleC ps) = 0 := by
    unfold parseOk at hok
    rw [Bool.and_eq_true] at hok
    rw [hp]
    exact of_decide_eq_true hok.1
  have := rule_Holds A c ps o w h hc hc2 (by have := (ruleErr_ok h0).2.2; omega) ho
  rw [if_pos h0, h0, hp] at this
  exact this

theorem emp_yes {b : ByteArray} (h : b.toList.isEmpty = true) : b.toList = [] := by simpa using h
theorem emp_no {b : ByteArray} (h : b.toList.isEmpty = false) : ¬ b.toList = [] := by
  intro hh
  rw [hh] at h
  cases h

set_option maxHeartbeats 2000000 in
theorem plural_check (s : SetC) (w : World) (hE : RuleEnv w) (hs : s.small) :
    Calls Tryz.prog 31 #[setV s.s0 s.s1 s.s2 s.s3 s.s4] w fun e w' => e = .returned (okV s.ok) ∧ Below w.heap.size w w' := by
  have KT := Lib.hid (plural_texts s)
  have KI := Lib.hid (set_index s)
  have KY := Lib.hid (fun i W (hb : Below w.heap.size w W) (h : parseOk (s.at i) = true) => parse_yes (s.at i) W (hE.below hb) (hs i) h)
  have KN := Lib.hid (fun i W (hb : Below w.heap.size w W) (h : parseOk (s.at i) = false) => parse_no (s.at i) W (hE.below hb) (hs i) h)
  have HG : Hid (∀ i, s.good i = ((s.at i).toList.isEmpty || parseOk (s.at i))) := Lib.hid fun i => rfl
  have HNO := Lib.hid (fun i hi h => SetC.not_ok (s := s) (i := i) hi h)
  have HOK := Lib.hid (fun h => SetC.ok_of (s := s) h)
  generalize s.ok = OK at *
  generalize s.good = G at *
  generalize hT : s.at = T at *
  clear hE hs hT
  obtain ⟨s0, s1, s2, s3, s4⟩ := s
  simp only at *
  go_enter Tryz.func31, Tryz.ntmps31
  go_wp2_with fail
  refine (KT.out _).mono ?_
  rintro e w1 ⟨rfl, hb⟩
  have HB1 : Hid (Below w.heap.size w w1) := Lib.hid (by (repeat (first | with_reducible exact Below.refl _ _ | with_reducible refine bel_set ?_ ?_ | with_reducible refine bel_alloc ?_ ?_ | with_reducible refine Below.drew ?_ | with_reducible refine bel_drewN _ ?_ | with_reducible refine bel_call ?_ (by assumption) ?_)); all_goals (first | (simp; done) | omega | (simp; omega)))
  clear hb
  go_wp2_with fail
  go_loopw [9] (fun i wr => ∃ k : Nat, k ≤ 5 ∧ i = .int .i64 k ∧ Hid (∀ j, j < k → G j = true) ∧ Hid (Below w.heap.size w wr)) (fun i _ => 5 - (intOf i).toNat)
  case atStart => exact ⟨0, by omega, rfl, Lib.hid (fun j hj => by omega), HB1⟩
  case round =>
    obtain ⟨k, hk, rfl, HJ, HB⟩ := hrel
    by_cases hlt : k < 5
    · have hix := KI.out k hlt
      have hg := HG.out k
      cases he : (T k).toList.isEmpty
      · cases hp : parseOk (T k)
        · have HY := Lib.hid (KN.out k _ HB.out hp)
          have HF := HNO.out k hlt (by rw [hg, he, hp]; rfl)
          have HF := Lib.hid HF
          have x1 := emp_no he
          clear hg hp
          generalize T k = t at *
          go_wp2_with fail
          refine HY.out.mono ?_
          rintro e w2 ⟨rfl, hb⟩
          have hbb := HB.out.trans (hb.mono HB.out.size)
          clear hb
          go_wp2_with fail
          go_ret
          exact ⟨by rw [HF.out]; rfl, hbb⟩
        · have HY := Lib.hid (KY.out k _ HB.out hp)
          have HG2 : Hid (G k = true) := Lib.hid (by rw [hg, hp, Bool.or_true])
          have x1 := emp_no he
          clear hg hp
          generalize T k = t at *
          go_wp2_with fail
          refine HY.out.mono ?_
          rintro e w2 ⟨⟨A, c, ps, rfl, _⟩, hb⟩
          have HB2 : Hid (Below w.heap.size w w2) := Lib.hid (HB.out.trans (hb.mono HB.out.size))
          clear hb
          go_wp2_with fail
          go_roundw
          case rel => exact ⟨k + 1, by omega, by go_num, Lib.hid (fun j hj => by rcases Nat.lt_succ_iff_lt_or_eq.1 hj with h | rfl; exact HJ.out j h; exact HG2.out), HB2⟩
          case measure => simp [intOf]; omega
      · have HG2 : Hid (G k = true) := Lib.hid (by rw [hg, he]; rfl)
        have x1 := emp_yes he
        clear hg
        generalize T k = t at *
        go_wp2_with fail
        go_roundw
        case rel => exact ⟨k + 1, by omega, by go_num, Lib.hid (fun j hj => by rcases Nat.lt_succ_iff_lt_or_eq.1 hj with h | rfl; exact HJ.out j h; exact HG2.out), HB⟩
        case measure => simp [intOf]; omega
    · obtain rfl : k = 5 := by omega
      have HF := Lib.hid (HOK.out (fun i hi => HJ.out i hi))
      go_wp2_with fail
      go_ret
      exact ⟨by rw [HF.out]; rfl, HB.out⟩
end Go.Proofs.YtkklemhhimcahaaGreatDoor
