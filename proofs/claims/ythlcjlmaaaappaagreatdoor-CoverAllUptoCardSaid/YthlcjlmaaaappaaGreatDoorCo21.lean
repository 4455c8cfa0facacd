/- Plural, Cover, Cover2, Cover3, Cover4, Cover5, Cover6, Cover7, CoverPlain: texts put together. -/
import Derived.Test.YthlcjlmaaaappaaGreatDoorCo18
import Derived.Test.YthlcjlmaaaappaaGreatDoorCo11
import Derived.Test.YthlcjlmaaaappaaGreatDoorCo20
import Derived.Test.YthlcjlmaaaappaaGreatDoorCo13
import Derived.Test.YthlcjlmaaaappaaGreatDoorCo9
import Derived.Test.YthlcjlmaaaappaaGreatDoorCo8
import Derived.BigQuiet
import Derived.Laws.StructEq
set_option linter.unusedVariables false
set_option linter.unusedSimpArgs false
/- plural.Check and plural.Kind. -/
namespace Go.Proofs.YthlcjlmaaaappaaGreatDoor
open Go.RowKit

def SetC.good (s : SetC) (i : Nat) : Bool := (s.at i).toList.isEmpty || parseOk (s.at i)
def SetC.ok (s : SetC) : Bool := (List.range 5).all s.good
def SetC.hit (s : SetC) (o : OpsC) (i : Nat) : Bool := !(s.at i).toList.isEmpty && ruleHolds (parseB (s.at i)) o
def SetC.kind (s : SetC) (o : OpsC) : Nat := ((List.range 5).find? (s.hit o)).getD 5
def kindT (i : Nat) : ByteArray := match i with | 0 => ⟨#[122, 101, 114, 111]⟩ | 1 => ⟨#[111, 110, 101]⟩ | 2 => ⟨#[116, 119, 111]⟩ | 3 => ⟨#[102, 101, 119]⟩ | 4 => ⟨#[109, 97, 110, 121]⟩ | _ => ⟨#[111, 116, 104, 101, 114]⟩
def SetC.small (s : SetC) : Prop := ∀ i, (s.at i).size < 4294967281
theorem SetC.ok_good {s : SetC} (h : s.ok = true) (i : Nat) (hi : i < 5) : s.good i = true := List.all_eq_true.1 h i (List.mem_range.2 hi)
theorem SetC.not_ok {s : SetC} {i : Nat} (hi : i < 5) (h : s.good i = false) : s.ok = false := by
  unfold SetC.ok
  rw [List.all_eq_false]
  exact ⟨i, List.mem_range.2 hi, by rw [h]; simp⟩
theorem SetC.ok_of {s : SetC} (h : ∀ i, i < 5 → s.good i = true) : s.ok = true := List.all_eq_true.2 fun i hi => h i (List.mem_range.1 hi)
theorem find_first {p : Nat → Bool} (n k : Nat) (hk : k < n) (h0 : ∀ j, j < k → p j = false) (h1 : p k = true) : (List.range n).find? p = some k := by
  rw [List.find?_range_eq_some]
  exact ⟨h1, List.mem_range.2 hk, fun j hj => by rw [h0 j hj]; rfl⟩
theorem SetC.kind_at {s : SetC} {o : OpsC} {k : Nat} (hk : k < 5) (h0 : ∀ j, j < k → s.hit o j = false) (h1 : s.hit o k = true) : s.kind o = k := by
  unfold SetC.kind
  rw [find_first 5 k hk h0 h1]
  rfl
theorem SetC.kind_none {s : SetC} {o : OpsC} (h0 : ∀ j, j < 5 → s.hit o j = false) : s.kind o = 5 := by
  unfold SetC.kind
  have : (List.range 5).find? (s.hit o) = none := by
    rw [List.find?_range_eq_none]
    intro i hi
    rw [h0 i hi]; rfl
  rw [this]
  rfl

def okV (b : Bool) : Value := if b then .nilIface else errV 3
theorem set_index0 (s0 s1 s2 s3 s4 : ByteArray) (w : World) : (Instr.index 80 (setV s0 s1 s2 s3 s4) (.int .i64 0)).run Tryz.prog w = .ok (.string s0) w := by kernel_rfl
theorem set_index1 (s0 s1 s2 s3 s4 : ByteArray) (w : World) : (Instr.index 80 (setV s0 s1 s2 s3 s4) (.int .i64 1)).run Tryz.prog w = .ok (.string s1) w := by kernel_rfl
theorem set_index2 (s0 s1 s2 s3 s4 : ByteArray) (w : World) : (Instr.index 80 (setV s0 s1 s2 s3 s4) (.int .i64 2)).run Tryz.prog w = .ok (.string s2) w := by kernel_rfl
theorem set_index3 (s0 s1 s2 s3 s4 : ByteArray) (w : World) : (Instr.index 80 (setV s0 s1 s2 s3 s4) (.int .i64 3)).run Tryz.prog w = .ok (.string s3) w := by kernel_rfl
theorem set_index4 (s0 s1 s2 s3 s4 : ByteArray) (w : World) : (Instr.index 80 (setV s0 s1 s2 s3 s4) (.int .i64 4)).run Tryz.prog w = .ok (.string s4) w := by kernel_rfl
set_option maxRecDepth 100000 in
theorem set_index (s : SetC) (k : Nat) (hk : k < 5) (w : World) : (Instr.index 80 (setV s.s0 s.s1 s.s2 s.s3 s.s4) (.int .i64 k)).run Tryz.prog w = .ok (.string (s.at k)) w := by
  obtain ⟨s0, s1, s2, s3, s4⟩ := s
  have h : k = 0 ∨ k = 1 ∨ k = 2 ∨ k = 3 ∨ k = 4 := by omega
  rcases h with rfl | rfl | rfl | rfl | rfl
  · exact set_index0 s0 s1 s2 s3 s4 w
  · exact set_index1 s0 s1 s2 s3 s4 w
  · exact set_index2 s0 s1 s2 s3 s4 w
  · exact set_index3 s0 s1 s2 s3 s4 w
  · exact set_index4 s0 s1 s2 s3 s4 w

set_option maxHeartbeats 1000000 in
theorem plural_texts (s : SetC) (w : World) :
    Calls Tryz.prog 37 #[setV s.s0 s.s1 s.s2 s.s3 s.s4] w fun e w' => e = .returned (setV s.s0 s.s1 s.s2 s.s3 s.s4) ∧ Below w.heap.size w w' := by
  obtain ⟨s0, s1, s2, s3, s4⟩ := s
  go_enter Tryz.func37, Tryz.ntmps37
  go_wp2
  exact bodyPost_ret (v := setV s0 s1 s2 s3 s4) (by simp [results, Tryz.results37, go_sem]) rfl ⟨rfl, (by (repeat (first | with_reducible exact Below.refl _ _ | with_reducible refine bel_set ?_ ?_ | with_reducible refine bel_alloc ?_ ?_ | with_reducible refine Below.drew ?_ | with_reducible refine bel_drewN _ ?_ | with_reducible refine bel_call ?_ (by assumption) ?_)); all_goals (first | (simp; done) | omega | (simp; omega)))⟩

/-- rule.Parse of a text that is right -/
theorem parse_yes (s : ByteArray) (w : World) (hE : RuleEnv w) (hs : s.size < 4294967281) (h : parseOk s = true) :
    Calls Tryz.prog 38 #[.string s] w fun e w' => (∃ A c ps, e = .returned (.tuple #[.slice A ps.length c, .nilIface]) ∧ ruleC ps = parseB s ∧ RuleIn w' A ps ∧ ps.length ≤ c ∧ c ≤ 9223372036854775807) ∧ Below w.heap.size w w' := by
  refine (rule_parse s w hE hs).mono ?_
  rintro e w' ⟨hp, hb⟩
  refine ⟨?_, hb⟩
  unfold ParsePost at hp
  rw [if_pos h] at hp
  obtain ⟨A, c, ps, h1, h2, h3, h4, _, h5⟩ := hp
  exact ⟨A, c, ps, h5, h1, h2, h3, h4⟩
theorem parse_no (s : ByteArray) (w : World) (hE : RuleEnv w) (hs : s.size < 4294967281) (h : parseOk s = false) :
    Calls Tryz.prog 38 #[.string s] w fun e w' => e = .returned (.tuple #[.slice none 0 0, errV 3]) ∧ Below w.heap.size w w' := by
  refine (rule_parse s w hE hs).mono ?_
  rintro e w' ⟨hp, hb⟩
  refine ⟨?_, hb⟩
  unfold ParsePost at hp
  rw [h] at hp
  exact hp
theorem holds_yes (s : ByteArray) (A : Option Addr) (c : Nat) (ps : List PartD) (o : OpsC) (w : World) (hp : ruleC ps = parseB s) (hok : parseOk s = true) (h : RuleIn w A ps) (hc : ps.length ≤ c) (hc2 : c ≤ 9223372036854775807) (ho : o.fits) :
    Calls Tryz.prog 153 #[.slice A ps.length c, opsA o.i o.v o.w o.f o.t] w fun e w' => e = .returned (.tuple #[.bool (ruleHolds (parseB s) o), .nilIface]) ∧ Below w.heap.size w w' := by
  have h0 : ruleErr (ruleC ps) = 0 := by
    unfold parseOk at hok
    rw [Bool.and_eq_true] at hok
    rw [hp]
    exact of_decide_eq_true hok.1
  have := rule_Holds A c ps o w h hc hc2 (by have := (ruleErr_ok h0).2.2; omega) ho
  rw [if_pos h0, h0, hp] at this
  exact this

theorem emp_yes {b : ByteArray} (h : b.toList.isEmpty = true) : b.toList = [] := by simpa using h
theorem emp_no {b : ByteArray} (h : b.toList.isEmpty = false) : ¬ b.toList = [] := by
  intro hh
  rw [hh] at h
  cases h

set_option maxHeartbeats 2000000 in
theorem plural_check (s : SetC) (w : World) (hE : RuleEnv w) (hs : s.small) :
    Calls Tryz.prog 15 #[setV s.s0 s.s1 s.s2 s.s3 s.s4] w fun e w' => e = .returned (okV s.ok) ∧ Below w.heap.size w w' := by
  have KT := Lib.hid (plural_texts s)
  have KI := Lib.hid (set_index s)
  have KY := Lib.hid (fun i W (hb : Below w.heap.size w W) (h : parseOk (s.at i) = true) => parse_yes (s.at i) W (hE.below hb) (hs i) h)
  have KN := Lib.hid (fun i W (hb : Below w.heap.size w W) (h : parseOk (s.at i) = false) => parse_no (s.at i) W (hE.below hb) (hs i) h)
  have HG : Hid (∀ i, s.good i = ((s.at i).toList.isEmpty || parseOk (s.at i))) := Lib.hid fun i => rfl
  have HNO := Lib.hid (fun i hi h => SetC.not_ok (s := s) (i := i) hi h)
  have HOK := Lib.hid (fun h => SetC.ok_of (s := s) h)
  generalize s.ok = OK at *
  generalize s.good = G at *
  generalize hT : s.at = T at *
  clear hE hs hT
  obtain ⟨s0, s1, s2, s3, s4⟩ := s
  simp only at *
  go_enter Tryz.func15, Tryz.ntmps15
  go_wp2_with fail
  refine (KT.out _).mono ?_
  rintro e w1 ⟨rfl, hb⟩
  have HB1 : Hid (Below w.heap.size w w1) := Lib.hid (by (repeat (first | with_reducible exact Below.refl _ _ | with_reducible refine bel_set ?_ ?_ | with_reducible refine bel_alloc ?_ ?_ | with_reducible refine Below.drew ?_ | with_reducible refine bel_drewN _ ?_ | with_reducible refine bel_call ?_ (by assumption) ?_)); all_goals (first | (simp; done) | omega | (simp; omega)))
  clear hb
  go_wp2_with fail
  go_loopw [9] (fun i wr => ∃ k : Nat, k ≤ 5 ∧ i = .int .i64 k ∧ Hid (∀ j, j < k → G j = true) ∧ Hid (Below w.heap.size w wr)) (fun i _ => 5 - (intOf i).toNat)
  case atStart => exact ⟨0, by omega, rfl, Lib.hid (fun j hj => by omega), HB1⟩
  case round =>
    obtain ⟨k, hk, rfl, HJ, HB⟩ := hrel
    by_cases hlt : k < 5
    · have hix := KI.out k hlt
      have hg := HG.out k
      cases he : (T k).toList.isEmpty
      · cases hp : parseOk (T k)
        · have HY := Lib.hid (KN.out k _ HB.out hp)
          have HF := HNO.out k hlt (by rw [hg, he, hp]; rfl)
          have HF := Lib.hid HF
          have x1 := emp_no he
          clear hg hp
          generalize T k = t at *
          go_wp2_with fail
          refine HY.out.mono ?_
          rintro e w2 ⟨rfl, hb⟩
          have hbb := HB.out.trans (hb.mono HB.out.size)
          clear hb
          go_wp2_with fail
          go_ret
          exact ⟨by rw [HF.out]; rfl, hbb⟩
        · have HY := Lib.hid (KY.out k _ HB.out hp)
          have HG2 : Hid (G k = true) := Lib.hid (by rw [hg, hp, Bool.or_true])
          have x1 := emp_no he
          clear hg hp
          generalize T k = t at *
          go_wp2_with fail
          refine HY.out.mono ?_
          rintro e w2 ⟨⟨A, c, ps, rfl, _⟩, hb⟩
          have HB2 : Hid (Below w.heap.size w w2) := Lib.hid (HB.out.trans (hb.mono HB.out.size))
          clear hb
          go_wp2_with fail
          go_roundw
          case rel => exact ⟨k + 1, by omega, by go_num, Lib.hid (fun j hj => by rcases Nat.lt_succ_iff_lt_or_eq.1 hj with h | rfl; exact HJ.out j h; exact HG2.out), HB2⟩
          case measure => simp [intOf]; omega
      · have HG2 : Hid (G k = true) := Lib.hid (by rw [hg, he]; rfl)
        have x1 := emp_yes he
        clear hg
        generalize T k = t at *
        go_wp2_with fail
        go_roundw
        case rel => exact ⟨k + 1, by omega, by go_num, Lib.hid (fun j hj => by rcases Nat.lt_succ_iff_lt_or_eq.1 hj with h | rfl; exact HJ.out j h; exact HG2.out), HB⟩
        case measure => simp [intOf]; omega
    · obtain rfl : k = 5 := by omega
      have HF := Lib.hid (HOK.out (fun i hi => HJ.out i hi))
      go_wp2_with fail
      go_ret
      exact ⟨by rw [HF.out]; rfl, HB.out⟩
end Go.Proofs.YthlcjlmaaaappaaGreatDoor

/- Package cover: kinds, ContainsFunc over its own closure, Index at kind. -/
namespace Go.Proofs.YthlcjlmaaaappaaGreatDoor
open Go.RowKit

/-- a text, for append -/
def kStr : Kind ByteArray where
  e := 9
  sl := 22
  size := 1
  bytes := 16
  cells := fun x => [.string x]
  zero := .string ⟨#[]⟩
  hsl := Tryz.underlying22
  hi := infoStr
  hzs := rfl
  hpos := by decide
  hlen := fun _ => rfl
  hone := fun x u hu => by
    simp only [List.mem_cons, List.not_mem_nil, or_false] at hu
    rcases hu with rfl; rfl

/-- is there a rule of kind i? -/
def nonB (s : SetC) (i : Nat) : Bool := !(s.at i).toList.isEmpty
/-- the kinds of numbers lie there, each with the answer whether its rule is there -/
def KindRow (w : World) (A : Option Addr) (T : Nat → ByteArray) (P : Nat → Bool) : Prop := ∃ b o, A = some ⟨b, o, none⟩ ∧ TyAt w b 74 ∧ ∀ i, i < 5 → w.cell? ⟨b, o + i * 2, none⟩ = some (.string (T i)) ∧ w.cell? ⟨b, o + i * 2 + 1, none⟩ = some (.bool (P i))
theorem KindRow.below {w w' : World} {A : Option Addr} {T : Nat → ByteArray} {P : Nat → Bool} (h : KindRow w A T P) (hb : Below w.heap.size w w') : KindRow w' A T P := by
  obtain ⟨b, o, h1, h3, h2⟩ := h
  exact ⟨b, o, h1, h3.below hb, fun i hi => ⟨carry hb (h2 i hi).1, carry hb (h2 i hi).2⟩⟩

set_option maxHeartbeats 2000000 in
theorem cover_kinds (s : SetC) (w : World) :
    Calls Tryz.prog 30 #[setV s.s0 s.s1 s.s2 s.s3 s.s4] w fun e w' => (∃ A, e = .returned (.slice A 5 5) ∧ KindRow w' A kindT (nonB s)) ∧ Below w.heap.size w w' := by
  obtain ⟨s0, s1, s2, s3, s4⟩ := s
  have H0 : Hid (nonB ⟨s0, s1, s2, s3, s4⟩ 0 = !s0.toList.isEmpty) := Lib.hid rfl
  have H1 : Hid (nonB ⟨s0, s1, s2, s3, s4⟩ 1 = !s1.toList.isEmpty) := Lib.hid rfl
  have H2 : Hid (nonB ⟨s0, s1, s2, s3, s4⟩ 2 = !s2.toList.isEmpty) := Lib.hid rfl
  have H3 : Hid (nonB ⟨s0, s1, s2, s3, s4⟩ 3 = !s3.toList.isEmpty) := Lib.hid rfl
  have H4 : Hid (nonB ⟨s0, s1, s2, s3, s4⟩ 4 = !s4.toList.isEmpty) := Lib.hid rfl
  generalize nonB ⟨s0, s1, s2, s3, s4⟩ = P at *
  go_enter Tryz.func30, Tryz.ntmps30
  go_wp2_with fail
  go_ret
  refine ⟨⟨_, rfl, _, 0, rfl, by have := TyAt.new (w.alloc (.cells #[.string s0, .string s1, .string s2, .string s3, .string s4] 40)) #[.string ⟨#[122, 101, 114, 111]⟩, .bool !s0.toList.isEmpty, .string ⟨#[111, 110, 101]⟩, .bool !s1.toList.isEmpty, .string ⟨#[116, 119, 111]⟩, .bool !s2.toList.isEmpty, .string ⟨#[102, 101, 119]⟩, .bool !s3.toList.isEmpty, .string ⟨#[109, 97, 110, 121]⟩, .bool !s4.toList.isEmpty] 74; simpa using this, fun i hi => ?_⟩, (by (repeat (first | with_reducible exact Below.refl _ _ | with_reducible refine bel_set ?_ ?_ | with_reducible refine bel_alloc ?_ ?_ | with_reducible refine Below.drew ?_ | with_reducible refine bel_drewN _ ?_ | with_reducible refine bel_call ?_ (by assumption) ?_)); all_goals (first | (simp; done) | omega | (simp; omega)))⟩
  match i, hi with
  | 0, _ => rw [H0.out]; exact ⟨by go_simp; rfl, by go_simp⟩
  | 1, _ => rw [H1.out]; exact ⟨by go_simp; rfl, by go_simp⟩
  | 2, _ => rw [H2.out]; exact ⟨by go_simp; rfl, by go_simp⟩
  | 3, _ => rw [H3.out]; exact ⟨by go_simp; rfl, by go_simp⟩
  | 4, _ => rw [H4.out]; exact ⟨by go_simp; rfl, by go_simp⟩

/-- the closure of a kind: is a case's key its name? -/
theorem is_key (x T : ByteArray) (bx : Nat) (w : World) (hb : w.cell? ⟨bx, 0, none⟩ = some (.string T)) :
    Calls Tryz.prog 32 #[.agg #[.string x, .slice none 0 0], .pointer (some ⟨bx, 0, none⟩)] w fun e w' => e = .returned (.bool (x.toList == T.toList)) ∧ Below w.heap.size w w' := by
  have hb1 := carry ((Below.refl w.heap.size w).alloc (Nat.le_refl _) (.cells #[.string x, .slice none 0 0] 33)) hb
  clear hb
  go_enter Tryz.func32, Tryz.ntmps32
  go_wp2_with fail
  go_ret
  exact ⟨rfl, (by (repeat (first | with_reducible exact Below.refl _ _ | with_reducible refine bel_set ?_ ?_ | with_reducible refine bel_alloc ?_ ?_ | with_reducible refine Below.drew ?_ | with_reducible refine bel_drewN _ ?_ | with_reducible refine bel_call ?_ (by assumption) ?_)); all_goals (first | (simp; done) | omega | (simp; omega)))⟩

def hasT (xs : List ByteArray) (T : ByteArray) : Bool := xs.any fun x => x.toList == T.toList
theorem hasT_take {xs : List ByteArray} {T x : ByteArray} {k : Nat} (hx : xs[k]? = some x) (h : hasT (xs.take k) T = false) : hasT (xs.take (k + 1)) T = (x.toList == T.toList) := by
  unfold hasT at *
  rw [List.take_add_one, hx, List.any_append, h]
  simp
theorem hasT_yes {xs : List ByteArray} {T x : ByteArray} {k : Nat} (hx : xs[k]? = some x) (h : (x.toList == T.toList) = true) : hasT xs T = true := List.any_eq_true.2 ⟨x, List.mem_of_getElem? hx, h⟩

set_option maxHeartbeats 1000000 in
theorem index_case (A : Option Addr) (c : Nat) (xs : List ByteArray) (bx : Nat) (T : ByteArray) (w : World) (hL : CasesIn w A xs) (hc : xs.length ≤ c) (hc2 : c ≤ 9223372036854775807) (hb : w.cell? ⟨bx, 0, none⟩ = some (.string T)) :
    Calls Tryz.prog 54 #[.slice A xs.length c, .func (Fn.func 32) #[] #[.pointer (some ⟨bx, 0, none⟩)]] w fun e w' => (∃ i : Int, e = .returned (.int .i64 i) ∧ decide (0 ≤ i) = hasT xs T) ∧ Below w.heap.size w w' := by
  have HL := Lib.hid hL
  have HB0 := Lib.hid hb
  clear hL hb
  go_enter Tryz.func54, Tryz.ntmps54
  go_wp2_with fail
  go_loopw [8] (fun i wr => ∃ k : Nat, k ≤ xs.length ∧ i = .int .i64 k ∧ Hid (hasT (xs.take k) T = false) ∧ Hid (Below w.heap.size w wr)) (fun i _ => xs.length - (intOf i).toNat)
  case atStart => exact ⟨0, Nat.zero_le _, rfl, Lib.hid (by simp [hasT]), Lib.hid (Below.refl _ _)⟩
  case round =>
    obtain ⟨k, hk, rfl, HF, HB⟩ := hrel
    by_cases hlt : k < xs.length
    · obtain ⟨b, o, rfl, hat⟩ := (HL.out.below HB.out).at (by omega)
      obtain ⟨x, hx⟩ : ∃ x, xs[k]? = some x := ⟨xs[k], List.getElem?_eq_getElem hlt⟩
      obtain ⟨n0, n1⟩ := hat k x hx
      have hb := carry HB.out HB0.out
      have sB := HB.out.size
      have i0 : (0 : Int) ≤ (k : Int) := by omega
      have i1 : (k : Int) < (xs.length : Int) := by omega
      have i2 : (k : Int) ≤ (c : Int) := by omega
      have e1 : IntKind.i64.wrap ((k : Int) + 1) = (k : Int) + 1 := IntWalk.i64_in _ (by omega)
      have K := Lib.hid (is_key x T bx wr hb)
      have HX := Lib.hid hx
      clear hat hx hb
      cases hq : (x.toList == T.toList)
      · rw [hq] at K
        have HF2 : Hid (hasT (xs.take (k + 1)) T = false) := Lib.hid ((hasT_take HX.out HF.out).trans hq)
        clear hq
        go_wp2_with fail
        refine K.out.mono ?_
        rintro e w1 ⟨rfl, hb1⟩
        have HB1 := Lib.hid (HB.out.trans (hb1.mono sB))
        clear hb1
        go_wp2_with fail
        go_roundw
        case rel => exact ⟨k + 1, by omega, by go_num, HF2, HB1⟩
        case measure => simp [intOf]; omega
      · rw [hq] at K
        have HD : Hid (hasT xs T = true) := Lib.hid (hasT_yes HX.out hq)
        clear hq
        go_wp2_with fail
        refine K.out.mono ?_
        rintro e w1 ⟨rfl, hb1⟩
        have HB1 := Lib.hid (HB.out.trans (hb1.mono sB))
        clear hb1
        go_wp2_with fail
        go_ret
        exact ⟨⟨_, rfl, by rw [HD.out]; exact decide_eq_true i0⟩, HB1.out⟩
    · obtain rfl : k = xs.length := by omega
      have HD : Hid (hasT xs T = false) := Lib.hid (by have := HF.out; rwa [List.take_length] at this)
      go_wp2_with fail
      go_ret
      exact ⟨⟨_, rfl, by rw [HD.out]; decide⟩, HB.out⟩
theorem contains_case (A : Option Addr) (c : Nat) (xs : List ByteArray) (bx : Nat) (T : ByteArray) (w : World) (hL : CasesIn w A xs) (hc : xs.length ≤ c) (hc2 : c ≤ 9223372036854775807) (hb : w.cell? ⟨bx, 0, none⟩ = some (.string T)) :
    Calls Tryz.prog 31 #[.slice A xs.length c, .func (Fn.func 32) #[] #[.pointer (some ⟨bx, 0, none⟩)]] w fun e w' => e = .returned (.bool (hasT xs T)) ∧ Below w.heap.size w w' := by
  have K := Lib.hid (index_case A c xs bx T w hL hc hc2 hb)
  clear hL hb
  generalize hasT xs T = Z at *
  go_enter Tryz.func31, Tryz.ntmps31
  go_wp2_with fail
  refine K.out.mono ?_
  rintro e w1 ⟨⟨i, rfl, hi⟩, hb1⟩
  have HI := Lib.hid hi
  clear hi
  go_wp2_with fail
  go_ret
  exact ⟨ret_bool HI.out, hb1⟩
end Go.Proofs.YthlcjlmaaaappaaGreatDoor

/- Package cover: Contains at kind, check. -/
namespace Go.Proofs.YthlcjlmaaaappaaGreatDoor
open Go.RowKit

def hitK (T : Nat → ByteArray) (P : Nat → Bool) (x : ByteArray) (i : Nat) : Bool := x.toList == (T i).toList && !(P i)
def idleB (T : Nat → ByteArray) (P : Nat → Bool) (x : ByteArray) : Bool := (List.range 5).any (hitK T P x)
theorem idle_yes {T : Nat → ByteArray} {P : Nat → Bool} {x : ByteArray} {k : Nat} (hk : k < 5) (h : hitK T P x k = true) : idleB T P x = true := List.any_eq_true.2 ⟨k, List.mem_range.2 hk, h⟩
theorem idle_no {T : Nat → ByteArray} {P : Nat → Bool} {x : ByteArray} (h : ∀ j, j < 5 → hitK T P x j = false) : idleB T P x = false := by
  unfold idleB
  rw [List.any_eq_false]
  exact fun j hj => by rw [h j (List.mem_range.1 hj)]; simp

theorem und_name : Tryz.prog.underlying 9 = some .string := by kernel_rfl
theorem und_bool : Tryz.prog.underlying 4 = some .bool := by kernel_rfl
theorem eql_kind (x t : ByteArray) (p : Bool) (w : World) : (binOp .eql 74 (.agg #[.string x, .bool false]) (.agg #[.string t, .bool p])).run Tryz.prog w = .ok (.bool (x.toList == t.toList && !p)) w := by
  have ht : Tryz.prog.underlying 74 = some (.struct (Tryz.prog.fieldsOf 74)) := by kernel_rfl
  have hp : Tryz.prog.stoodInHeld 74 = false := by kernel_rfl
  have hf : (Tryz.prog.fieldsOf 74).toList = [(Tryz.prog.fieldsOf 74)[0]!, (Tryz.prog.fieldsOf 74)[1]!] := by kernel_rfl
  have t0 : (Tryz.prog.fieldsOf 74)[0]!.type = 9 := by kernel_rfl
  have t1 : (Tryz.prog.fieldsOf 74)[1]!.type = 4 := by kernel_rfl
  have o0 : (Tryz.prog.fieldsOf 74)[0]!.offset = 0 := by kernel_rfl
  have o1 : (Tryz.prog.fieldsOf 74)[1]!.offset = 1 := by kernel_rfl
  have n0 : (Tryz.prog.fieldsOf 74)[0]!.name = "name" := by kernel_rfl
  have n1 : (Tryz.prog.fieldsOf 74)[1]!.name = "is" := by kernel_rfl
  rw [run_eql_struct, run_equalIn_agg w _ _ _ _ ht hp, hf]
  generalize (Tryz.prog.fieldsOf 74)[0]! = f0 at *
  generalize (Tryz.prog.fieldsOf 74)[1]! = f1 at *
  have e0 : f0.name ≠ "_" := by rw [n0]; decide
  have e1 : f1.name ≠ "_" := by rw [n1]; decide
  simp only [Op.eqFields]
  rw [if_pos e0, if_pos e1, t0, t1, o0, o1]
  have hs := run_equalIn_string w 9998 9 x t und_name
  have hb := run_equalIn_bool' w 9998 4 false p und_bool
  have hs' : (Op.equalIn 9999 9 (.string x) (.string t)).run Tryz.prog w = .ok (x.toList == t.toList) w := hs
  have hb' : (Op.equalIn 9999 4 (.bool false) (.bool p)).run Tryz.prog w = .ok (false == p) w := hb
  clear hs hb hf ht hp n0 n1 e0 e1
  cases hx : (x.toList == t.toList) <;> cases p <;> rw [hx] at hs' <;> simp [go_sem, hs', hb', und_name, und_bool]
  all_goals simpa using hx
theorem equal_kind (x t : ByteArray) (p : Bool) (w : World) : (Op.equalIn 10000 74 (.agg #[.string x, .bool false]) (.agg #[.string t, .bool p])).run Tryz.prog w = .ok (x.toList == t.toList && !p) w := by
  have h := eql_kind x t p w
  rw [run_eql_struct] at h
  revert h
  generalize (Op.equalIn 10000 74 (.agg #[.string x, .bool false]) (.agg #[.string t, .bool p])).run Tryz.prog w = r
  cases r with
  | ok b w1 => simp [Result.andThen]
  | halt y w1 => simp [Result.andThen]

set_option maxHeartbeats 2000000 in
theorem index_kind (A : Option Addr) (T : Nat → ByteArray) (P : Nat → Bool) (x : ByteArray) (w : World) (hL : KindRow w A T P) :
    Calls Tryz.prog 55 #[.slice A 5 5, .agg #[.string x, .bool false]] w fun e w' => (∃ i : Int, e = .returned (.int .i64 i) ∧ decide (0 ≤ i) = idleB T P x) ∧ Below w.heap.size w w' := by
  have HL := Lib.hid hL
  have HY := Lib.hid (fun k hk h => idle_yes (T := T) (P := P) (x := x) (k := k) hk h)
  have HN := Lib.hid (fun h => idle_no (T := T) (P := P) (x := x) h)
  have HE := Lib.hid (equal_kind x)
  have HH : Hid (∀ i, hitK T P x i = (x.toList == (T i).toList && !(P i))) := Lib.hid fun i => rfl
  generalize hitK T P x = H at *
  generalize idleB T P x = R at *
  clear hL
  go_enter Tryz.func55, Tryz.ntmps55
  go_wp2_with fail
  go_loopw [8] (fun i wr => ∃ k : Nat, k ≤ 5 ∧ i = .int .i64 k ∧ Hid (∀ j, j < k → H j = false) ∧ Hid (Below w.heap.size w wr) ∧ wr.cell? ⟨w.heap.size, 0, none⟩ = some (.string x) ∧ wr.cell? ⟨w.heap.size, 1, none⟩ = some (.bool false)) (fun i _ => 5 - (intOf i).toNat)
  case atStart => exact ⟨0, by omega, rfl, Lib.hid (fun j hj => by omega), Lib.hid (by (repeat (first | with_reducible exact Below.refl _ _ | with_reducible refine bel_set ?_ ?_ | with_reducible refine bel_alloc ?_ ?_ | with_reducible refine Below.drew ?_ | with_reducible refine bel_drewN _ ?_ | with_reducible refine bel_call ?_ (by assumption) ?_)); all_goals (first | (simp; done) | omega | (simp; omega))), by go_simp, by go_simp⟩
  case round =>
    obtain ⟨k, hk, rfl, HF, HB, x0, x1⟩ := hrel
    by_cases hlt : k < 5
    · obtain ⟨b, o, rfl, _, hat⟩ := HL.out.below HB.out
      obtain ⟨n0, n1⟩ := hat k hlt
      have i0 : (0 : Int) ≤ (k : Int) := by omega
      have i1 : (k : Int) < 5 := by omega
      have i2 : (k : Int) ≤ 5 := by omega
      have e1 : IntKind.i64.wrap ((k : Int) + 1) = (k : Int) + 1 := IntWalk.i64_in _ (by omega)
      have hh := HH.out k
      have he := HE.out (T k) (P k)
      clear hat
      generalize T k = t at *
      generalize P k = p at *
      cases hq : (x.toList == t.toList && !p)
      · rw [hq] at hh he
        have HF2 : Hid (∀ j, j < k + 1 → H j = false) := Lib.hid fun j hj => by
          by_cases hjk : j = k
          · rw [hjk]; exact hh
          · exact HF.out j (by omega)
        clear hq hh
        go_wp2_with fail
        go_quiet (fail)
        go_wp2_with fail
        go_roundw
        case rel => exact ⟨k + 1, by omega, by go_num, HF2, Lib.hid (bel_drewN _ HB.out), by assumption, by assumption⟩
        case measure => simp [intOf]; omega
      · rw [hq] at hh he
        have HD := Lib.hid (HY.out k hlt hh)
        clear hq hh
        go_wp2_with fail
        go_quiet (fail)
        go_wp2_with fail
        go_ret
        exact ⟨⟨_, rfl, by rw [HD.out]; exact decide_eq_true i0⟩, bel_drewN _ HB.out⟩
    · obtain rfl : k = 5 := by omega
      have HD := Lib.hid (HN.out HF.out)
      go_wp2_with fail
      go_ret
      exact ⟨⟨_, rfl, by rw [HD.out]; decide⟩, HB.out⟩
end Go.Proofs.YthlcjlmaaaappaaGreatDoor

/- Package cover: Contains at kind, check, each at nothing, the two closures that add. -/
namespace Go.Proofs.YthlcjlmaaaappaaGreatDoor
open Go.RowKit

theorem contains_kind (A : Option Addr) (T : Nat → ByteArray) (P : Nat → Bool) (x : ByteArray) (w : World) (hL : KindRow w A T P) :
    Calls Tryz.prog 36 #[.slice A 5 5, .agg #[.string x, .bool false]] w fun e w' => e = .returned (.bool (idleB T P x)) ∧ Below w.heap.size w w' := by
  have K := Lib.hid (fun W (hb : Below w.heap.size w W) => index_kind A T P x W (hL.below hb))
  clear hL
  generalize idleB T P x = Z at *
  go_enter Tryz.func36, Tryz.ntmps36
  go_wp2_with fail
  have hb0 : Below w.heap.size w (w.alloc (.cells #[.string x, .bool false] 74)) := (by (repeat (first | with_reducible exact Below.refl _ _ | with_reducible refine bel_set ?_ ?_ | with_reducible refine bel_alloc ?_ ?_ | with_reducible refine Below.drew ?_ | with_reducible refine bel_drewN _ ?_ | with_reducible refine bel_call ?_ (by assumption) ?_)); all_goals (first | (simp; done) | omega | (simp; omega)))
  refine (K.out _ hb0).mono ?_
  rintro e w1 ⟨⟨i, rfl, hi⟩, hb1⟩
  have HI := Lib.hid hi
  have HB := Lib.hid (hb0.trans (hb1.mono hb0.size))
  clear hi hb0 hb1
  go_wp2_with fail
  go_ret
  exact ⟨ret_bool HI.out, HB.out⟩

theorem cover_check (g : Nat) (t : ByteArray) (A : Option Addr) (ks : List ByteArray) (c : Nat) (s : SetC) (w : World) (hE : RuleEnv w) (hK : MKinds w) (hs : s.small) (hN : NodeAt w g 4 t 0 A ks.length c) (hC : CasesIn w A ks) (hc : ks.length ≤ c) (hc2 : c ≤ 9223372036854775807) (hn : ks.length ≤ 7000000000000) (hz : ∀ k ∈ ks, k.size ≤ 281474976710656) (ht : nameB t.data.toList = true) (ht2 : t.size ≤ 9223372036854775807) (h0 : caseErr 4 [] ks = 0) :
    Calls Tryz.prog 27 #[.slice (some ⟨g, 0, none⟩) 1 1, setV s.s0 s.s1 s.s2 s.s3 s.s4] w fun e w' => e = .returned (okV s.ok) ∧ Below w.heap.size w w' := by
  have KM := Lib.hid (fun W (hb : Below w.heap.size w W) => msg_check g 4 0 t A ks c W (.inl rfl) (hE.below hb) (hK.below hb) (hN.below hb) (hC.below hb) hc hc2 hn hz ht ht2 ⟨by omega, by omega⟩)
  rw [h0] at KM
  have KP := Lib.hid (fun W (hb : Below w.heap.size w W) => plural_check s W (hE.below hb) hs)
  clear hE hK hs hN hC h0 hz ht
  generalize s.ok = OK at *
  obtain ⟨s0, s1, s2, s3, s4⟩ := s
  simp only at *
  have hb0 : Below w.heap.size w (w.alloc (.cells #[.string s0, .string s1, .string s2, .string s3, .string s4] 40)) := (by (repeat (first | with_reducible exact Below.refl _ _ | with_reducible refine bel_set ?_ ?_ | with_reducible refine bel_alloc ?_ ?_ | with_reducible refine Below.drew ?_ | with_reducible refine bel_drewN _ ?_ | with_reducible refine bel_call ?_ (by assumption) ?_)); all_goals (first | (simp; done) | omega | (simp; omega)))
  have HB0 := Lib.hid hb0
  clear hb0
  go_enter Tryz.func27, Tryz.ntmps27
  go_wp2_with fail
  refine (KM.out _ HB0.out).mono ?_
  rintro e w1 ⟨rfl, hb1⟩
  have u0 : w1.cell? ⟨w.heap.size, 0, none⟩ = some (.string s0) := carry hb1 (by go_simp)
  have u1 : w1.cell? ⟨w.heap.size, 1, none⟩ = some (.string s1) := carry hb1 (by go_simp)
  have u2 : w1.cell? ⟨w.heap.size, 2, none⟩ = some (.string s2) := carry hb1 (by go_simp)
  have u3 : w1.cell? ⟨w.heap.size, 3, none⟩ = some (.string s3) := carry hb1 (by go_simp)
  have u4 : w1.cell? ⟨w.heap.size, 4, none⟩ = some (.string s4) := carry hb1 (by go_simp)
  have HB1 := Lib.hid (HB0.out.trans (hb1.mono HB0.out.size))
  clear hb1
  rw [show errOf 0 = .nilIface from rfl]
  go_wp2_with fail
  refine (KP.out _ HB1.out).mono ?_
  rintro e w2 ⟨rfl, hb2⟩
  have HB2 := Lib.hid (HB1.out.trans (hb2.mono HB1.out.size))
  clear hb2
  go_wp2_with fail
  go_ret
  exact ⟨rfl, HB2.out⟩

theorem each_nil (u v : Value) (w : World) :
    Calls Tryz.prog 28 #[.slice none 0 0, u, v] w fun e w' => e = .returned (.tuple #[]) ∧ w = w' := by
  go_enter Tryz.func28, Tryz.ntmps28
  go_wp2_with fail
  go_loopw [12] (fun i wr => i = .int .i64 0 ∧ w = wr) (fun _ _ => 0)
  case atStart => exact ⟨rfl, rfl⟩
  case round =>
    obtain ⟨rfl, rfl⟩ := hrel
    go_wp2_with fail
    go_end0
    exact ⟨rfl, rfl⟩
theorem skip_node (kd off : Int) (t : ByteArray) (A : Option Addr) (n c : Nat) (w : World) :
    Calls Tryz.prog 34 #[.agg #[.int .i64 kd, .string t, .int .i64 off, .slice A n c]] w fun e w' => e = .returned (.tuple #[]) ∧ Below w.heap.size w w' := by
  go_enter Tryz.func34, Tryz.ntmps34
  go_wp2_with fail
  go_end0
  exact ⟨rfl, (by (repeat (first | with_reducible exact Below.refl _ _ | with_reducible refine bel_set ?_ ?_ | with_reducible refine bel_alloc ?_ ?_ | with_reducible refine Below.drew ?_ | with_reducible refine bel_drewN _ ?_ | with_reducible refine bel_call ?_ (by assumption) ?_)); all_goals (first | (simp; done) | omega | (simp; omega)))⟩
theorem skip_case (kd off : Int) (t : ByteArray) (A : Option Addr) (n c : Nat) (y : Value) (w : World) :
    Calls Tryz.prog 33 #[.agg #[.int .i64 kd, .string t, .int .i64 off, .slice A n c], y] w fun e w' => e = .returned (.tuple #[]) ∧ Below w.heap.size w w' := by
  go_enter Tryz.func33, Tryz.ntmps33
  go_wp2_with fail
  go_end0
  exact ⟨rfl, (by (repeat (first | with_reducible exact Below.refl _ _ | with_reducible refine bel_set ?_ ?_ | with_reducible refine bel_alloc ?_ ?_ | with_reducible refine Below.drew ?_ | with_reducible refine bel_drewN _ ?_ | with_reducible refine bel_call ?_ (by assumption) ?_)); all_goals (first | (simp; done) | omega | (simp; omega)))⟩

/-- 'out' so far: its box, and so many texts of its own -/
def OutAt (w0 : World) (w : World) (bo : Nat) (n : Nat) : Prop :=
  w0.heap.size ≤ bo ∧ TyAt w bo 22 ∧ ∃ (A : Option Addr) (c : Nat) (l : List ByteArray), l.length = n ∧ w.cell? ⟨bo, 0, none⟩ = some (.slice A l.length c) ∧ OwnsG kStr w w0.heap.size (.slice A l.length c) l
theorem OutAt.below {w0 w w' : World} {bo n : Nat} (h : OutAt w0 w bo n) (hb : Below w.heap.size w w') : OutAt w0 w' bo n := by
  obtain ⟨h0, h1, A, c, l, h2, h3, h4⟩ := h
  exact ⟨h0, h1.below hb, A, c, l, h2, carry hb h3, h4.below hb⟩
/-- what the closures leave as it was: all but blocks of texts and of rows of texts -/
def Aside (w w' : World) : Prop := w'.heap.size ≥ w.heap.size ∧ w'.os = w.os ∧ w'.tape = w.tape ∧ w'.output = w.output ∧ ∀ b t, TyAt w b t → t ≠ 9 → t ≠ 22 → w'.heap[b]? = w.heap[b]?
theorem Aside.refl (w : World) : Aside w w := ⟨Nat.le_refl _, rfl, rfl, rfl, fun _ _ _ _ _ => rfl⟩
theorem Aside.ty {w w' : World} (h : Aside w w') {b : Nat} {t : TypeId} (hb : TyAt w b t) (h1 : t ≠ 9) (h2 : t ≠ 22) : TyAt w' b t := by
  obtain ⟨cur, hc⟩ := hb
  exact ⟨cur, (h.2.2.2.2 b t ⟨cur, hc⟩ h1 h2).trans hc⟩
theorem Aside.cell {w w' : World} (h : Aside w w') {b o : Nat} {t : TypeId} {v : Value} (hb : TyAt w b t) (h1 : t ≠ 9) (h2 : t ≠ 22) (hc : w.cell? ⟨b, o, none⟩ = some v) : w'.cell? ⟨b, o, none⟩ = some v := by
  rw [← hc]
  simp only [World.cell?, h.2.2.2.2 b t hb h1 h2]
theorem Aside.trans {a b c : World} (h : Aside a b) (k : Aside b c) : Aside a c :=
  ⟨Nat.le_trans h.1 k.1, k.2.1.trans h.2.1, k.2.2.1.trans h.2.2.1, k.2.2.2.1.trans h.2.2.2.1, fun x t hx h1 h2 => (k.2.2.2.2 x t (h.ty hx h1 h2) h1 h2).trans (h.2.2.2.2 x t hx h1 h2)⟩
theorem Aside.of {w w' : World} (h : Below w.heap.size w w') : Aside w w' := ⟨h.size, h.os, h.tape, h.output, fun b t hb _ _ => h.block b hb.lt⟩
end Go.Proofs.YthlcjlmaaaappaaGreatDoor

/- Package cover: the closures that add a name. -/
namespace Go.Proofs.YthlcjlmaaaappaaGreatDoor
open Go.RowKit

theorem OutAt.add {w0 W w3 : World} {bo : Nat} {A A' : Option Addr} {c c' : Nat} {l : List ByteArray} {x : ByteArray} (hb0 : w0.heap.size ≤ bo) (hT : TyAt W bo 22) (hcell : W.cell? ⟨bo, 0, none⟩ = some (.slice A l.length c)) (ho : OwnsG kStr W w0.heap.size (.slice A l.length c) l) (hs : w0.heap.size ≤ W.heap.size)
    (hoff : Off (Value.slice A l.length c).ownBlock.toList W w3) (ho' : OwnsG kStr w3 w0.heap.size (.slice A' (l ++ [x]).length c') (l ++ [x])) :
    OutAt w0 (w3.setCell ⟨bo, 0, none⟩ (.slice A' (l ++ [x]).length c')) bo (l.length + 1) ∧ Aside W (w3.setCell ⟨bo, 0, none⟩ (.slice A' (l ++ [x]).length c')) ∧ Below w0.heap.size W (w3.setCell ⟨bo, 0, none⟩ (.slice A' (l ++ [x]).length c')) := by
  have n1 := hT.not ho (by decide)
  have hT' := hT.off hoff n1
  have hoff2 : Off ((Value.slice A l.length c).ownBlock.toList ++ [bo]) W (w3.setCell ⟨bo, 0, none⟩ (.slice A' (l ++ [x]).length c')) := (hoff.more (fun k hk => List.mem_append_left _ hk)).setCell _ _ (by simp)
  refine ⟨⟨hb0, hT'.set _ _ _, A', c', l ++ [x], by simp, cell_same (hoff.cell hcell n1), ?_⟩, ?_, bel_set (ho.grown hoff hs) hb0⟩
  · have hs : Off [bo] w3 (w3.setCell ⟨bo, 0, none⟩ (.slice A' (l ++ [x]).length c')) := (Off.refl _ _).setCell _ _ (by simp)
    refine ho'.off hs (fun g hg hm => ?_)
    simp only [List.mem_singleton] at hm
    subst hm
    exact (ho'.ty _ (by rw [hg]; simp)).ne hT' (by decide) rfl
  · refine ⟨hoff2.size, hoff2.os, hoff2.tape, hoff2.output, fun b t hb h1 h2 => hoff2.block b hb.lt (fun hm => ?_)⟩
    rcases List.mem_append.1 hm with hm | hm
    · exact (hb.not ho (by exact h1)) hm
    · simp only [List.mem_singleton] at hm
      exact (hb.ne hT h2) hm

def SetCAt (w : World) (bs : Nat) (s : SetC) : Prop := w.cell? ⟨bs, 0, none⟩ = some (.string s.s0) ∧ w.cell? ⟨bs, 1, none⟩ = some (.string s.s1) ∧ w.cell? ⟨bs, 2, none⟩ = some (.string s.s2) ∧ w.cell? ⟨bs, 3, none⟩ = some (.string s.s3) ∧ w.cell? ⟨bs, 4, none⟩ = some (.string s.s4)

set_option maxHeartbeats 4000000 in
/-- Idle's closure at a case -/
theorem idle_case (w0 : World) (s : SetC) (t x : ByteArray) (A : Option Addr) (n c bs bo m : Nat) (w : World) (hS : SetCAt w bs s) (hO : OutAt w0 w bo m) (hm : m ≤ 1000) (hx : x.size ≤ 1000) (ht : t.size ≤ 1000) (hw : w0.heap.size ≤ w.heap.size) :
    Calls Tryz.prog 35 #[.agg #[.int .i64 4, .string t, .int .i64 0, .slice A n c], .string x, .pointer (some ⟨bs, 0, none⟩), .pointer (some ⟨bo, 0, none⟩)] w fun e w' => e = .returned (.tuple #[]) ∧ OutAt w0 w' bo (if idleB kindT (nonB s) x then m + 1 else m) ∧ Aside w w' ∧ Below w0.heap.size w w' := by
  have hb0 : Below w.heap.size w (w.alloc (.cells #[.int .i64 4, .string t, .int .i64 0, .slice A n c] 30)) := (by (repeat (first | with_reducible exact Below.refl _ _ | with_reducible refine bel_set ?_ ?_ | with_reducible refine bel_alloc ?_ ?_ | with_reducible refine Below.drew ?_ | with_reducible refine bel_drewN _ ?_ | with_reducible refine bel_call ?_ (by assumption) ?_)); all_goals (first | (simp; done) | omega | (simp; omega)))
  have HB0 := Lib.hid hb0
  have HO := Lib.hid hO
  obtain ⟨a0, a1, a2, a3, a4⟩ := hS
  replace a0 := carry hb0 a0
  replace a1 := carry hb0 a1
  replace a2 := carry hb0 a2
  replace a3 := carry hb0 a3
  replace a4 := carry hb0 a4
  have KK := Lib.hid (cover_kinds s)
  have KC := Lib.hid (fun B W (h : KindRow W B kindT (nonB s)) => contains_kind B kindT (nonB s) x W h)
  obtain ⟨s0, s1, s2, s3, s4⟩ := s
  simp only at *
  generalize idleB kindT (nonB ⟨s0, s1, s2, s3, s4⟩) x = Z at *
  clear hO hb0
  go_enter Tryz.func35, Tryz.ntmps35
  go_wp2_with fail
  refine (KK.out _).mono ?_
  rintro e w1 ⟨⟨B, rfl, hr⟩, hb1⟩
  have HR := Lib.hid hr
  have HB1 := Lib.hid (HB0.out.trans (hb1.mono HB0.out.size))
  have x1 : w1.cell? ⟨w.heap.size, 1, none⟩ = some (.string t) := carry hb1 (by go_simp)
  have q1 : w.heap.size < w1.heap.size := lt_of_cell x1
  clear hr hb1 a0 a1 a2 a3 a4
  go_wp2_with fail
  refine (KC.out _ _ HR.out).mono ?_
  rintro e w2 ⟨rfl, hb2⟩
  have x2 := carry hb2 x1
  have HB2 := Lib.hid (HB1.out.trans (hb2.mono HB1.out.size))
  have HO2 := Lib.hid (HO.out.below HB2.out)
  clear hb2 x1 KC KK HR
  cases Z
  · go_wp2_with fail
    go_end0
    exact ⟨rfl, HO2.out, Aside.of HB2.out, HB2.out.mono hw⟩
  · obtain ⟨h0, h1, A1, c1, l, rfl, h3, h4⟩ := HO2.out
    have hbW : Below w2.heap.size w2 (w2.alloc (.cells #[.string (t ++ ⟨#[46]⟩ ++ x)] 9)) := (by (repeat (first | with_reducible exact Below.refl _ _ | with_reducible refine bel_set ?_ ?_ | with_reducible refine bel_alloc ?_ ?_ | with_reducible refine Below.drew ?_ | with_reducible refine bel_drewN _ ?_ | with_reducible refine bel_call ?_ (by assumption) ?_)); all_goals (first | (simp; done) | omega | (simp; omega)))
    obtain ⟨W2, hW2⟩ : ∃ W2, W2 = w2.alloc (.cells #[.string (t ++ ⟨#[46]⟩ ++ x)] 9) := ⟨_, rfl⟩
    have HX : Hid (∀ i u, (kStr.cells (t ++ ⟨#[46]⟩ ++ x))[i]? = some u → W2.cell? ⟨w2.heap.size, i, none⟩ = some u) := Lib.hid (fun i u hu => by
      rw [hW2]
      match i, hu with
      | 0, hu => cases hu; go_simp)
    rw [← hW2] at hbW
    have HT2 := Lib.hid (h1.below hbW)
    have H3 := Lib.hid (carry hbW h3)
    have H4 := Lib.hid (h4.below hbW)
    have s2 := HB2.out.size
    have HS : Hid (w0.heap.size ≤ W2.heap.size) := Lib.hid (by have := hbW.size; omega)
    have HBW := Lib.hid (HB2.out.trans (hbW.mono HB2.out.size))
    have HL1 : Hid ((l.length + 1) * kStr.bytes ≤ 140737488355328) := Lib.hid (by show (l.length + 1) * 16 ≤ _; omega)
    have HL2 : Hid (l.length + 1 ≤ 9223372036854775807) := Lib.hid (by omega)
    have H4c := Lib.hid H4.out
    have HXc := Lib.hid HX.out
    have HSc := Lib.hid HS.out
    rw [hW2] at H4c HXc HSc
    have HW2 := Lib.hid hW2
    clear h1 h4 hbW hW2 HO2 HB2 HB1 HO
    go_wp2_with (at_builtin; refine wpList_append_gB (k := kStr) rfl _ _ rfl (t ++ ⟨#[46]⟩ ++ x) rfl rfl H4c.out HXc.out HSc.out HL1.out HL2.out ?_; intro v' w3 ho hoff hfr; obtain ⟨A3, c3, rfl, _⟩ := ho.form; rw [← HW2.out] at hoff; have n1 := HT2.out.not H4.out (by decide); have r5 := hoff.cell H3.out n1; have r6 := (HT2.out.off hoff n1).frozen 0; have HR := Lib.hid (OutAt.add h0 HT2.out H3.out H4.out HS.out hoff ho); clear ho hfr hoff n1)
    go_end0
    have hl1 : (l ++ [t ++ ⟨#[46]⟩ ++ x]).length = l.length + 1 := by simp
    have HRR := HR.out
    rw [hl1] at HRR
    exact ⟨rfl, HRR.1, (Aside.of HBW.out).trans HRR.2.1, (HBW.out.mono hw).trans HRR.2.2⟩

def missN (T : Nat → ByteArray) (P : Nat → Bool) (ks : List ByteArray) (k : Nat) : Nat := ((List.range k).filter (fun i => P i && !hasT ks (T i))).length
theorem missN_le (T : Nat → ByteArray) (P : Nat → Bool) (ks : List ByteArray) (k : Nat) : missN T P ks k ≤ k := by
  have := List.length_filter_le (fun i => P i && !hasT ks (T i)) (List.range k)
  rwa [List.length_range] at this
theorem missN_yes {T : Nat → ByteArray} {P : Nat → Bool} {ks : List ByteArray} {k : Nat} (h : (P k && !hasT ks (T k)) = true) : missN T P ks (k + 1) = missN T P ks k + 1 := by
  unfold missN
  rw [List.range_succ, List.filter_append, List.length_append, List.filter_cons, h]
  rfl
theorem missN_no {T : Nat → ByteArray} {P : Nat → Bool} {ks : List ByteArray} {k : Nat} (h : (P k && !hasT ks (T k)) = false) : missN T P ks (k + 1) = missN T P ks k := by
  unfold missN
  rw [List.range_succ, List.filter_append, List.length_append, List.filter_cons, h]
  rfl

set_option maxHeartbeats 8000000 in
/-- Missing's closure at the node -/
theorem miss_node (w0 : World) (s : SetC) (t : ByteArray) (A : Option Addr) (ks : List ByteArray) (c bs bo m : Nat) (w : World) (hS : SetCAt w bs s) (hO : OutAt w0 w bo m) (hm : m ≤ 1000) (ht : t.size ≤ 1000) (hC : CasesIn w0 A ks) (hc : ks.length ≤ c) (hc2 : c ≤ 9223372036854775807) (hw : Below w0.heap.size w0 w) :
    Calls Tryz.prog 29 #[.agg #[.int .i64 4, .string t, .int .i64 0, .slice A ks.length c], .pointer (some ⟨bs, 0, none⟩), .pointer (some ⟨bo, 0, none⟩)] w fun e w' => e = .returned (.tuple #[]) ∧ OutAt w0 w' bo (m + missN kindT (nonB s) ks 5) ∧ Aside w w' ∧ Below w0.heap.size w w' := by
  have hb0 : Below w.heap.size w (w.alloc (.cells #[.int .i64 4, .string t, .int .i64 0, .slice A ks.length c] 30)) := (by (repeat (first | with_reducible exact Below.refl _ _ | with_reducible refine bel_set ?_ ?_ | with_reducible refine bel_alloc ?_ ?_ | with_reducible refine Below.drew ?_ | with_reducible refine bel_drewN _ ?_ | with_reducible refine bel_call ?_ (by assumption) ?_)); all_goals (first | (simp; done) | omega | (simp; omega)))
  have HB0 := Lib.hid hb0
  have hT0 := TyAt.new w #[.int .i64 4, .string t, .int .i64 0, .slice A ks.length c] 30
  have HT0 := Lib.hid hT0
  have HO := Lib.hid hO
  have HW := Lib.hid hw
  obtain ⟨a0, a1, a2, a3, a4⟩ := hS
  replace a0 := carry hb0 a0
  replace a1 := carry hb0 a1
  replace a2 := carry hb0 a2
  replace a3 := carry hb0 a3
  replace a4 := carry hb0 a4
  have KK := Lib.hid (cover_kinds s)
  have KC := Lib.hid (fun W (hb : Below w0.heap.size w0 W) bx T h => contains_case A c ks bx T W (hC.below hb) hc hc2 h)
  have MY := Lib.hid (fun k h => missN_yes (T := kindT) (P := nonB s) (ks := ks) (k := k) h)
  have MN := Lib.hid (fun k h => missN_no (T := kindT) (P := nonB s) (ks := ks) (k := k) h)
  have M0 : Hid (missN kindT (nonB s) ks 0 = 0) := Lib.hid rfl
  have ML := Lib.hid (missN_le kindT (nonB s) ks)
  have HZ : Hid (∀ i, (kindT i).size ≤ 10) := Lib.hid (fun i => by
    match i with
    | 0 => decide
    | 1 => decide
    | 2 => decide
    | 3 => decide
    | 4 => decide
    | n + 5 => exact (by decide : (⟨#[111, 116, 104, 101, 114]⟩ : ByteArray).size ≤ 10))
  obtain ⟨s0, s1, s2, s3, s4⟩ := s
  simp only at *
  generalize missN kindT (nonB ⟨s0, s1, s2, s3, s4⟩) ks = M at *
  generalize nonB ⟨s0, s1, s2, s3, s4⟩ = P at *
  generalize kindT = T at *
  clear hO hb0 hw hC hT0
  go_enter Tryz.func29, Tryz.ntmps29
  go_wp2_with fail
  refine (KK.out _).mono ?_
  rintro e w1 ⟨⟨B, rfl, hr⟩, hb1⟩
  have HR := Lib.hid hr
  have HB1 := Lib.hid (HB0.out.trans (hb1.mono HB0.out.size))
  have HA1 := Lib.hid (Aside.of HB1.out)
  have X0 : Hid (w1.cell? ⟨w.heap.size, 0, none⟩ = some (.int .i64 4)) := Lib.hid (carry hb1 (by go_simp))
  have X1 : Hid (w1.cell? ⟨w.heap.size, 1, none⟩ = some (.string t)) := Lib.hid (carry hb1 (by go_simp))
  have X2 : Hid (w1.cell? ⟨w.heap.size, 2, none⟩ = some (.int .i64 0)) := Lib.hid (carry hb1 (by go_simp))
  have X3 : Hid (w1.cell? ⟨w.heap.size, 3, none⟩ = some (.slice A ks.length c)) := Lib.hid (carry hb1 (by go_simp))
  have HTX := Lib.hid (HT0.out.below hb1)
  have HO1 := Lib.hid (HO.out.below HB1.out)
  clear hr hb1 a0 a1 a2 a3 a4 KK
  go_wp2_with fail
  go_loopw [9] (fun i wr => ∃ k : Nat, k ≤ 5 ∧ i = .int .i64 k ∧ Hid (OutAt w0 wr bo (m + M k)) ∧ Hid (Aside w1 wr) ∧ Hid (Below w0.heap.size w0 wr) ∧ Hid (Below w0.heap.size w wr)) (fun i _ => 5 - (intOf i).toNat)
  case atStart => exact ⟨0, by omega, rfl, Lib.hid (by rw [M0.out]; exact HO1.out), Lib.hid (Aside.refl _), Lib.hid (HW.out.trans (HB1.out.mono HW.out.size)), Lib.hid (HB1.out.mono HW.out.size)⟩
  case round =>
    obtain ⟨k, hk, rfl, HOK, HAK, HBK, HBW⟩ := hrel
    have x1 := HAK.out.cell HTX.out (by decide) (by decide) X1.out
    have x3 := HAK.out.cell HTX.out (by decide) (by decide) X3.out
    by_cases hlt : k < 5
    · obtain ⟨b, o, rfl, hbt, hat⟩ := HR.out
      obtain ⟨n0, n1⟩ := hat k hlt
      replace n0 := HAK.out.cell hbt (by decide) (by decide) n0
      replace n1 := HAK.out.cell hbt (by decide) (by decide) n1
      have i0 : (0 : Int) ≤ (k : Int) := by omega
      have i1 : (k : Int) < 5 := by omega
      have i2 : (k : Int) ≤ 5 := by omega
      have e1 : IntKind.i64.wrap ((k : Int) + 1) = (k : Int) + 1 := IntWalk.i64_in _ (by omega)
      have my := MY.out k
      have mn := MN.out k
      have hz := HZ.out k
      have KT := Lib.hid (fun W hb bx => KC.out W hb bx (T k))
      clear hat hbt
      have hbk : Below wr.heap.size wr (wr.alloc (.cells #[.string (T k), .bool (P k)] 74)) := (by (repeat (first | with_reducible exact Below.refl _ _ | with_reducible refine bel_set ?_ ?_ | with_reducible refine bel_alloc ?_ ?_ | with_reducible refine Below.drew ?_ | with_reducible refine bel_drewN _ ?_ | with_reducible refine bel_call ?_ (by assumption) ?_)); all_goals (first | (simp; done) | omega | (simp; omega)))
      have HBk := Lib.hid hbk
      clear hbk
      generalize T k = tk at *
      cases hp : P k
      · rw [hp] at mn HBk n1
        have HM := Lib.hid (mn rfl)
        clear my mn hp
        go_wp2_with fail
        go_roundw
        case rel => exact ⟨k + 1, by omega, by go_num, Lib.hid (by rw [HM.out]; exact HOK.out.below HBk.out), Lib.hid (HAK.out.trans (Aside.of HBk.out)), Lib.hid (HBK.out.trans (HBk.out.mono HBK.out.size)), Lib.hid (HBW.out.trans (HBk.out.mono (Nat.le_trans HW.out.size HBW.out.size)))⟩
        case measure => simp [intOf]; omega
      · rw [hp] at mn my HBk n1
        have MYN := Lib.hid my
        have MNN := Lib.hid mn
        have HK2 := Lib.hid (HBK.out.trans (HBk.out.mono HBK.out.size))
        have HO2 := Lib.hid (HOK.out.below HBk.out)
        have HA2 := Lib.hid (HAK.out.trans (Aside.of HBk.out))
        have HW2 := Lib.hid (HBW.out.trans (HBk.out.mono (Nat.le_trans HW.out.size HBW.out.size)))
        have qx := lt_of_cell x1
        have HX1 := Lib.hid x1
        have HKT := Lib.hid (KT.out _ HK2.out wr.heap.size (by go_simp))
        clear my mn hp KT
        cases hq : hasT ks tk
        · rw [hq] at HKT
          have HM := Lib.hid (MYN.out (by rw [hq]; rfl))
          clear hq
          go_wp2_with fail
          refine HKT.out.mono ?_
          rintro e w2 ⟨rfl, hb2⟩
          have y0 : w2.cell? ⟨wr.heap.size, 0, none⟩ = some (.string tk) := carry hb2 (by go_simp)
          have y1 : w2.cell? ⟨w.heap.size, 1, none⟩ = some (.string t) := carry hb2 (by go_simp)
          have HO3 := Lib.hid (HO2.out.below hb2)
          have HA3 := Lib.hid (HA2.out.trans (Aside.of hb2))
          have HK3 := Lib.hid (HK2.out.trans (hb2.mono HK2.out.size))
          have HW3 := Lib.hid (HW2.out.trans (hb2.mono (Nat.le_trans HW.out.size HW2.out.size)))
          clear hb2 HO2 HA2 HK2 HW2 HOK HAK HBK HBW HBk
          obtain ⟨h0, h1, A1, c1, l, hl, h3, h4⟩ := HO3.out
          have hml := ML.out k
          have hbW : Below w2.heap.size w2 (w2.alloc (.cells #[.string (t ++ ⟨#[46]⟩ ++ tk)] 9)) := (by (repeat (first | with_reducible exact Below.refl _ _ | with_reducible refine bel_set ?_ ?_ | with_reducible refine bel_alloc ?_ ?_ | with_reducible refine Below.drew ?_ | with_reducible refine bel_drewN _ ?_ | with_reducible refine bel_call ?_ (by assumption) ?_)); all_goals (first | (simp; done) | omega | (simp; omega)))
          obtain ⟨W2, hW2⟩ : ∃ W2, W2 = w2.alloc (.cells #[.string (t ++ ⟨#[46]⟩ ++ tk)] 9) := ⟨_, rfl⟩
          have HX : Hid (∀ i u, (kStr.cells (t ++ ⟨#[46]⟩ ++ tk))[i]? = some u → W2.cell? ⟨w2.heap.size, i, none⟩ = some u) := Lib.hid (fun i u hu => by
            rw [hW2]
            match i, hu with
            | 0, hu => cases hu; go_simp)
          rw [← hW2] at hbW
          have HT2 := Lib.hid (h1.below hbW)
          have H3 := Lib.hid (carry hbW h3)
          have H4 := Lib.hid (h4.below hbW)
          have HS : Hid (w0.heap.size ≤ W2.heap.size) := Lib.hid (by have := hbW.size; have := HK3.out.size; omega)
          have HAW := Lib.hid (HA3.out.trans (Aside.of hbW))
          have HKW := Lib.hid (HK3.out.trans (hbW.mono HK3.out.size))
          have HWW := Lib.hid (HW3.out.trans (hbW.mono HK3.out.size))
          have HL1 : Hid ((l.length + 1) * kStr.bytes ≤ 140737488355328) := Lib.hid (by show (l.length + 1) * 16 ≤ _; omega)
          have HL2 : Hid (l.length + 1 ≤ 9223372036854775807) := Lib.hid (by omega)
          have H4c := Lib.hid H4.out
          have HXc := Lib.hid HX.out
          have HSc := Lib.hid HS.out
          rw [hW2] at H4c HXc HSc
          have HW2 := Lib.hid hW2
          have HLL := Lib.hid hl
          have HT1 := Lib.hid h1
          clear h1 h4 hbW hW2 hl
          go_wp2_with (at_builtin; refine wpList_append_gB (k := kStr) rfl _ _ rfl (t ++ ⟨#[46]⟩ ++ tk) rfl rfl H4c.out HXc.out HSc.out HL1.out HL2.out ?_; intro v' w3 ho hoff hfr; obtain ⟨A3, c3, rfl, _⟩ := ho.form; rw [← HW2.out] at hoff; have n1 := HT2.out.not H4.out (by decide); have r5 := hoff.cell H3.out n1; have r6 := (HT2.out.off hoff n1).frozen 0; have HR3 := Lib.hid (OutAt.add h0 HT2.out H3.out H4.out HS.out hoff ho); clear ho hfr hoff n1)
          have hl1 : (l ++ [t ++ ⟨#[46]⟩ ++ tk]).length = l.length + 1 := by simp
          have HRR := HR3.out
          rw [hl1] at HRR
          have HRR := Lib.hid HRR
          go_roundw
          case rel => exact ⟨k + 1, by omega, by go_num, Lib.hid (by rw [HM.out, ← Nat.add_assoc, ← HLL.out]; exact HRR.out.1), Lib.hid (HAW.out.trans HRR.out.2.1), Lib.hid (HKW.out.trans HRR.out.2.2), Lib.hid (HWW.out.trans HRR.out.2.2)⟩
          case measure => simp [intOf]; omega
        · rw [hq] at HKT
          have HM := Lib.hid (MNN.out (by rw [hq]; rfl))
          clear hq
          go_wp2_with fail
          refine HKT.out.mono ?_
          rintro e w2 ⟨rfl, hb2⟩
          have HO3 := Lib.hid (HO2.out.below hb2)
          have HA3 := Lib.hid (HA2.out.trans (Aside.of hb2))
          have HK3 := Lib.hid (HK2.out.trans (hb2.mono HK2.out.size))
          have HW3 := Lib.hid (HW2.out.trans (hb2.mono (Nat.le_trans HW.out.size HW2.out.size)))
          clear hb2
          go_wp2_with fail
          go_roundw
          case rel => exact ⟨k + 1, by omega, by go_num, Lib.hid (by rw [HM.out]; exact HO3.out), HA3, HK3, HW3⟩
          case measure => simp [intOf]; omega
    · obtain rfl : k = 5 := by omega
      go_wp2_with fail
      go_end0
      exact ⟨rfl, HOK.out, HA1.out.trans HAK.out, HBW.out⟩
end Go.Proofs.YthlcjlmaaaappaaGreatDoor

/- Package cover: each at one Plural whose cases have no nodes. -/
namespace Go.Proofs.YthlcjlmaaaappaaGreatDoor
open Go.RowKit

theorem NodeAt.far {w0 w : World} {g : Nat} {kd off : Int} {t : ByteArray} {A : Option Addr} {n c : Nat} (h : NodeAt w0 g kd t off A n c) (hb : Below w0.heap.size w0 w) : NodeAt w g kd t off A n c := h.below hb

set_option maxHeartbeats 8000000 in
theorem each_miss (w0 : World) (s : SetC) (t : ByteArray) (A : Option Addr) (ks : List ByteArray) (c g bs bo m : Nat) (w : World) (hS : SetCAt w bs s) (hO : OutAt w0 w bo m) (hm : m ≤ 1000) (ht : t.size ≤ 1000) (hN : NodeAt w0 g 4 t 0 A ks.length c) (hC : CasesIn w0 A ks) (hc : ks.length ≤ c) (hc2 : c ≤ 9223372036854775807) (hw : Below w0.heap.size w0 w) :
    Calls Tryz.prog 28 #[.slice (some ⟨g, 0, none⟩) 1 1, .func (.func 29) #[] #[.pointer (some ⟨bs, 0, none⟩), .pointer (some ⟨bo, 0, none⟩)], .func (.func 33) #[] #[]] w fun e w' => e = .returned (.tuple #[]) ∧ OutAt w0 w' bo (m + missN kindT (nonB s) ks 5) ∧ Below w0.heap.size w w' := by
  have HN := Lib.hid hN
  have HC := Lib.hid hC
  have HW := Lib.hid hw
  have hb0 : Below w.heap.size w (w.alloc (.cells #[.int .i64 4, .string t, .int .i64 0, .slice A ks.length c] 30)) := (by (repeat (first | with_reducible exact Below.refl _ _ | with_reducible refine bel_set ?_ ?_ | with_reducible refine bel_alloc ?_ ?_ | with_reducible refine Below.drew ?_ | with_reducible refine bel_drewN _ ?_ | with_reducible refine bel_call ?_ (by assumption) ?_)); all_goals (first | (simp; done) | omega | (simp; omega)))
  have HB0 := Lib.hid hb0
  have HT0 := Lib.hid (TyAt.new w #[.int .i64 4, .string t, .int .i64 0, .slice A ks.length c] 30)
  obtain ⟨a0, a1, a2, a3, a4⟩ := hS
  replace a0 := carry hb0 a0
  replace a1 := carry hb0 a1
  replace a2 := carry hb0 a2
  replace a3 := carry hb0 a3
  replace a4 := carry hb0 a4
  have KN := Lib.hid (miss_node w0 s t A ks c bs bo m _ ⟨a0, a1, a2, a3, a4⟩ (hO.below hb0) hm ht hC hc hc2 (hw.trans (hb0.mono hw.size)))
  generalize missN kindT (nonB s) ks 5 = M at *
  obtain ⟨n0, n1, n2, n3⟩ := hN.far hw
  clear hO hN hC hw hb0 a0 a1 a2 a3 a4
  go_enter Tryz.func28, Tryz.ntmps28
  go_wp2_with fail
  go_loopw [12] (fun i wr => ∃ k : Nat, k ≤ 1 ∧ i = .int .i64 k ∧ (k = 0 → w = wr) ∧ Hid (k = 1 → OutAt w0 wr bo (m + M) ∧ Below w0.heap.size w wr)) (fun i _ => 1 - (intOf i).toNat)
  case atStart => exact ⟨0, by omega, rfl, fun _ => rfl, Lib.hid (fun h => by omega)⟩
  case round =>
    obtain ⟨k, hk, rfl, h0, HX⟩ := hrel
    by_cases hlt : k < 1
    · obtain rfl : k = 0 := by omega
      obtain rfl := h0 rfl
      go_wp2_with fail
      refine KN.out.mono ?_
      rintro e w1 ⟨rfl, ho, ha, hb⟩
      have hTx := ha.ty HT0.out (by decide) (by decide)
      have x0 : w1.cell? ⟨w.heap.size, 0, none⟩ = some (.int .i64 4) := ha.cell HT0.out (by decide) (by decide) (by go_simp)
      have x1 : w1.cell? ⟨w.heap.size, 1, none⟩ = some (.string t) := ha.cell HT0.out (by decide) (by decide) (by go_simp)
      have x2 : w1.cell? ⟨w.heap.size, 2, none⟩ = some (.int .i64 0) := ha.cell HT0.out (by decide) (by decide) (by go_simp)
      have x3 : w1.cell? ⟨w.heap.size, 3, none⟩ = some (.slice A ks.length c) := ha.cell HT0.out (by decide) (by decide) (by go_simp)
      have HO1 := Lib.hid ho
      have HB1 : Hid (Below w0.heap.size w w1) := Lib.hid ((HB0.out.mono HW.out.size).trans hb)
      have KM := Lib.hid (msg_cases 4 0 t A ks.length c w1 (.inl rfl))
      clear hTx ha ho hb KN n0 n1 n2 n3
      go_wp2_with fail
      refine KM.out.mono ?_
      rintro e w2 ⟨rfl, hb2⟩
      have X0 := Lib.hid (carry hb2 x0)
      have X1 := Lib.hid (carry hb2 x1)
      have X2 := Lib.hid (carry hb2 x2)
      have X3 := Lib.hid (carry hb2 x3)
      have HO2 := Lib.hid (HO1.out.below hb2)
      have sB1 := HB1.out.size
      have HB2 : Hid (Below w0.heap.size w w2) := Lib.hid (HB1.out.trans (hb2.mono (Nat.le_trans HW.out.size sB1)))
      clear hb2 x0 x1 x2 x3 KM HO1
      go_wp2_with fail
      go_loopw [25] (fun i wr => ∃ j : Nat, j ≤ ks.length ∧ i = .int .i64 j ∧ Hid (Below w2.heap.size w2 wr)) (fun i _ => ks.length - (intOf i).toNat)
      case atStart => exact ⟨0, Nat.zero_le _, rfl, Lib.hid (Below.refl _ _)⟩
      case round =>
        obtain ⟨j, hj, rfl, HJ⟩ := hrel
        have x0 := carry HJ.out X0.out
        have x1 := carry HJ.out X1.out
        have x2 := carry HJ.out X2.out
        have x3 := carry HJ.out X3.out
        have qx := lt_of_cell x0
        by_cases hlt2 : j < ks.length
        · have hw2 := HB2.out.trans (HJ.out.mono (Nat.le_trans HW.out.size HB2.out.size))
          obtain ⟨b, o, rfl, hat⟩ := (HC.out.below (HW.out.trans hw2)).at (by omega)
          obtain ⟨x, hx⟩ : ∃ x, ks[j]? = some x := ⟨ks[j], List.getElem?_eq_getElem hlt2⟩
          obtain ⟨c0, c1⟩ := hat j x hx
          have i0 : (0 : Int) ≤ (j : Int) := by omega
          have i1 : (j : Int) < (ks.length : Int) := by omega
          have i2 : (j : Int) ≤ (c : Int) := by omega
          have e1 : IntKind.i64.wrap ((j : Int) + 1) = (j : Int) + 1 := IntWalk.i64_in _ (by omega)
          have hbk : Below wr.heap.size wr (wr.alloc (.cells #[.string x, .slice none 0 0] 33)) := (by (repeat (first | with_reducible exact Below.refl _ _ | with_reducible refine bel_set ?_ ?_ | with_reducible refine bel_alloc ?_ ?_ | with_reducible refine Below.drew ?_ | with_reducible refine bel_drewN _ ?_ | with_reducible refine bel_call ?_ (by assumption) ?_)); all_goals (first | (simp; done) | omega | (simp; omega)))
          have HBk := Lib.hid hbk
          have KS := Lib.hid (skip_case 4 0 t (some ⟨b, o, none⟩) ks.length c (.string x) (wr.alloc (.cells #[.string x, .slice none 0 0] 33)))
          have KE := Lib.hid (each_nil (.func (.func 29) #[] #[.pointer (some ⟨bs, 0, none⟩), .pointer (some ⟨bo, 0, none⟩)]) (.func (.func 33) #[] #[]))
          clear hw2 hat hx hbk
          go_wp2_with fail
          refine KS.out.mono ?_
          rintro e w3 ⟨rfl, hb3⟩
          have y1 : w3.cell? ⟨wr.heap.size, 1, none⟩ = some (.slice none 0 0) := carry hb3 (by go_simp)
          have HJ3 := Lib.hid (HJ.out.trans ((HBk.out.mono HJ.out.size).trans (hb3.mono (Nat.le_trans HJ.out.size HBk.out.size))))
          clear hb3 x0 x1 x2 x3 c0 c1
          go_wp2_with fail
          refine (KE.out _).mono ?_
          rintro e w4 ⟨rfl, rfl⟩
          go_wp2_with fail
          go_roundw
          case rel => exact ⟨j + 1, by omega, by go_num, HJ3⟩
          case measure => simp [intOf]; omega
        · obtain rfl : j = ks.length := by omega
          have e2 : IntKind.i64.wrap ((0 : Int) + 1) = 1 := by decide
          go_wp2_with fail
          go_roundw
          case rel => exact ⟨1, by omega, by go_num, fun h => by omega, Lib.hid fun _ => ⟨HO2.out.below HJ.out, HB2.out.trans (HJ.out.mono (Nat.le_trans HW.out.size HB2.out.size))⟩⟩
          case measure => simp [intOf]
    · obtain rfl : k = 1 := by omega
      go_wp2_with fail
      go_end0
      exact ⟨rfl, (HX.out trivial).1, (HX.out trivial).2⟩
end Go.Proofs.YthlcjlmaaaappaaGreatDoor

/- Package cover: each at one Plural whose cases have no nodes, for Idle. -/
namespace Go.Proofs.YthlcjlmaaaappaaGreatDoor
open Go.RowKit

def idleN (T : Nat → ByteArray) (P : Nat → Bool) (ks : List ByteArray) : Nat := (ks.filter (idleB T P)).length
theorem idleN_le (T : Nat → ByteArray) (P : Nat → Bool) (ks : List ByteArray) : idleN T P ks ≤ ks.length := List.length_filter_le _ _
theorem idleN_take {T : Nat → ByteArray} {P : Nat → Bool} {ks : List ByteArray} {j : Nat} {x : ByteArray} (hx : ks[j]? = some x) : idleN T P (ks.take (j + 1)) = if idleB T P x then idleN T P (ks.take j) + 1 else idleN T P (ks.take j) := by
  unfold idleN
  rw [List.take_add_one, hx, List.filter_append, List.length_append]
  cases h : idleB T P x <;> simp [List.filter_cons, h]

set_option maxHeartbeats 8000000 in
theorem each_idle (w0 : World) (s : SetC) (t : ByteArray) (A : Option Addr) (ks : List ByteArray) (c g bs bo m : Nat) (w : World) (hS : SetCAt w bs s) (hTs : TyAt w bs 40) (hO : OutAt w0 w bo m) (hm : m + ks.length ≤ 1000) (hz : ∀ k ∈ ks, k.size ≤ 1000) (ht : t.size ≤ 1000) (hN : NodeAt w0 g 4 t 0 A ks.length c) (hC : CasesIn w0 A ks) (hc : ks.length ≤ c) (hc2 : c ≤ 9223372036854775807) (hw : Below w0.heap.size w0 w) :
    Calls Tryz.prog 28 #[.slice (some ⟨g, 0, none⟩) 1 1, .func (.func 34) #[] #[], .func (.func 35) #[] #[.pointer (some ⟨bs, 0, none⟩), .pointer (some ⟨bo, 0, none⟩)]] w fun e w' => e = .returned (.tuple #[]) ∧ OutAt w0 w' bo (m + idleN kindT (nonB s) ks) ∧ Below w0.heap.size w w' := by
  have HN := Lib.hid hN
  have HC := Lib.hid hC
  have HW := Lib.hid hw
  have hb0 : Below w.heap.size w (w.alloc (.cells #[.int .i64 4, .string t, .int .i64 0, .slice A ks.length c] 30)) := (by (repeat (first | with_reducible exact Below.refl _ _ | with_reducible refine bel_set ?_ ?_ | with_reducible refine bel_alloc ?_ ?_ | with_reducible refine Below.drew ?_ | with_reducible refine bel_drewN _ ?_ | with_reducible refine bel_call ?_ (by assumption) ?_)); all_goals (first | (simp; done) | omega | (simp; omega)))
  have HB0 := Lib.hid hb0
  have HT0 := Lib.hid (TyAt.new w #[.int .i64 4, .string t, .int .i64 0, .slice A ks.length c] 30)
  have HS0 := Lib.hid hS
  have HTS := Lib.hid hTs
  have HO0 := Lib.hid hO
  have HZ := Lib.hid hz
  have KI := Lib.hid (fun x A n c m W h1 h2 h3 h4 h5 h6 => idle_case w0 s t x A n c bs bo m W h1 h2 h3 h4 h5 h6)
  have HTK := Lib.hid (fun j x h => idleN_take (T := kindT) (P := nonB s) (ks := ks) (j := j) (x := x) h)
  have HI0 : Hid (idleN kindT (nonB s) (ks.take 0) = 0) := Lib.hid rfl
  have HIL := Lib.hid (idleN_le kindT (nonB s))
  generalize idleB kindT (nonB s) = Z at *
  generalize idleN kindT (nonB s) = M at *
  have KN := Lib.hid (skip_node 4 0 t A ks.length c (w.alloc (.cells #[.int .i64 4, .string t, .int .i64 0, .slice A ks.length c] 30)))
  obtain ⟨n0, n1, n2, n3⟩ := hN.far hw
  clear hO hN hC hw hb0 hS hTs hz
  go_enter Tryz.func28, Tryz.ntmps28
  go_wp2_with fail
  go_loopw [12] (fun i wr => ∃ k : Nat, k ≤ 1 ∧ i = .int .i64 k ∧ (k = 0 → w = wr) ∧ Hid (k = 1 → OutAt w0 wr bo (m + M ks) ∧ Below w0.heap.size w wr)) (fun i _ => 1 - (intOf i).toNat)
  case atStart => exact ⟨0, by omega, rfl, fun _ => rfl, Lib.hid (fun h => by omega)⟩
  case round =>
    obtain ⟨k, hk, rfl, h0, HX⟩ := hrel
    by_cases hlt : k < 1
    · obtain rfl : k = 0 := by omega
      obtain rfl := h0 rfl
      go_wp2_with fail
      refine KN.out.mono ?_
      rintro e w1 ⟨rfl, hb⟩
      have x0 : w1.cell? ⟨w.heap.size, 0, none⟩ = some (.int .i64 4) := carry hb (by go_simp)
      have x1 : w1.cell? ⟨w.heap.size, 1, none⟩ = some (.string t) := carry hb (by go_simp)
      have x2 : w1.cell? ⟨w.heap.size, 2, none⟩ = some (.int .i64 0) := carry hb (by go_simp)
      have x3 : w1.cell? ⟨w.heap.size, 3, none⟩ = some (.slice A ks.length c) := carry hb (by go_simp)
      have hB1 : Below w.heap.size w w1 := HB0.out.trans (hb.mono HB0.out.size)
      have HB1 := Lib.hid hB1
      have HT1 := Lib.hid (HT0.out.below hb)
      have KM := Lib.hid (msg_cases 4 0 t A ks.length c w1 (.inl rfl))
      clear hB1 hb KN n0 n1 n2 n3
      go_wp2_with fail
      refine KM.out.mono ?_
      rintro e w2 ⟨rfl, hb2⟩
      have X0 := Lib.hid (carry hb2 x0)
      have X1 := Lib.hid (carry hb2 x1)
      have X2 := Lib.hid (carry hb2 x2)
      have X3 := Lib.hid (carry hb2 x3)
      have hB2 := HB1.out.trans (hb2.mono HB1.out.size)
      have HA2 := Lib.hid (Aside.of hB2)
      have HB2 : Hid (Below w0.heap.size w w2) := Lib.hid (hB2.mono HW.out.size)
      have HO2 := Lib.hid (HO0.out.below hB2)
      have HT2 := Lib.hid (HT1.out.below hb2)
      clear hB2 hb2 x0 x1 x2 x3 KM HB1 HT1
      go_wp2_with fail
      go_loopw [25] (fun i wr => ∃ j : Nat, j ≤ ks.length ∧ i = .int .i64 j ∧ Hid (OutAt w0 wr bo (m + M (ks.take j))) ∧ Hid (Aside w2 wr) ∧ Hid (Below w0.heap.size w wr)) (fun i _ => ks.length - (intOf i).toNat)
      case atStart => exact ⟨0, Nat.zero_le _, rfl, Lib.hid (by rw [HI0.out]; exact HO2.out), Lib.hid (Aside.refl _), HB2⟩
      case round =>
        obtain ⟨j, hj, rfl, HOJ, HAJ, HBJ⟩ := hrel
        have x0 := HAJ.out.cell HT2.out (by decide) (by decide) X0.out
        have x1 := HAJ.out.cell HT2.out (by decide) (by decide) X1.out
        have x2 := HAJ.out.cell HT2.out (by decide) (by decide) X2.out
        have x3 := HAJ.out.cell HT2.out (by decide) (by decide) X3.out
        have qx := lt_of_cell x0
        by_cases hlt2 : j < ks.length
        · have hw2 := HW.out.trans HBJ.out
          have HW2 := Lib.hid hw2
          obtain ⟨b, o, rfl, hat⟩ := (HC.out.below hw2).at (by omega)
          obtain ⟨x, hx⟩ : ∃ x, ks[j]? = some x := ⟨ks[j], List.getElem?_eq_getElem hlt2⟩
          obtain ⟨c0, c1⟩ := hat j x hx
          have hxz := HZ.out x (List.mem_of_getElem? hx)
          have i0 : (0 : Int) ≤ (j : Int) := by omega
          have i1 : (j : Int) < (ks.length : Int) := by omega
          have i2 : (j : Int) ≤ (c : Int) := by omega
          have e1 : IntKind.i64.wrap ((j : Int) + 1) = (j : Int) + 1 := IntWalk.i64_in _ (by omega)
          have hbk : Below wr.heap.size wr (wr.alloc (.cells #[.string x, .slice none 0 0] 33)) := (by (repeat (first | with_reducible exact Below.refl _ _ | with_reducible refine bel_set ?_ ?_ | with_reducible refine bel_alloc ?_ ?_ | with_reducible refine Below.drew ?_ | with_reducible refine bel_drewN _ ?_ | with_reducible refine bel_call ?_ (by assumption) ?_)); all_goals (first | (simp; done) | omega | (simp; omega)))
          have HBk := Lib.hid hbk
          have HTC := Lib.hid (TyAt.new wr #[.string x, .slice none 0 0] 33)
          have hAk := (HA2.out.trans HAJ.out).trans (Aside.of hbk)
          have HAK := Lib.hid (HAJ.out.trans (Aside.of hbk))
          have hBk := HBJ.out.trans (hbk.mono hw2.size)
          have HBK := Lib.hid hBk
          have hml := HIL.out (ks.take j)
          have hlt3 : (ks.take j).length = j := by rw [List.length_take]; omega
          have KS := Lib.hid (KI.out x (some ⟨b, o, none⟩) ks.length c (m + M (ks.take j)) (wr.alloc (.cells #[.string x, .slice none 0 0] 33))
            ⟨hAk.cell HTS.out (by decide) (by decide) HS0.out.1, hAk.cell HTS.out (by decide) (by decide) HS0.out.2.1, hAk.cell HTS.out (by decide) (by decide) HS0.out.2.2.1, hAk.cell HTS.out (by decide) (by decide) HS0.out.2.2.2.1, hAk.cell HTS.out (by decide) (by decide) HS0.out.2.2.2.2⟩ (HOJ.out.below hbk) (by omega) hxz ht (Nat.le_trans hw2.size hbk.size))
          have HTJ := Lib.hid (HTK.out j x hx)
          have KE := Lib.hid (each_nil (.func (.func 34) #[] #[]) (.func (.func 35) #[] #[.pointer (some ⟨bs, 0, none⟩), .pointer (some ⟨bo, 0, none⟩)]))
          clear hw2 hat hx hbk hAk hBk
          go_wp2_with fail
          refine KS.out.mono ?_
          rintro e w3 ⟨rfl, ho3, ha3, hb3⟩
          have y1 : w3.cell? ⟨wr.heap.size, 1, none⟩ = some (.slice none 0 0) := ha3.cell HTC.out (by decide) (by decide) (by go_simp)
          have HO3 := Lib.hid ho3
          have HA3 := Lib.hid (HAK.out.trans ha3)
          have HB3 := Lib.hid (HBK.out.trans hb3)
          clear ho3 ha3 hb3 x0 x1 x2 x3 c0 c1
          go_wp2_with fail
          refine (KE.out _).mono ?_
          rintro e w4 ⟨rfl, rfl⟩
          go_wp2_with fail
          go_roundw
          case rel => exact ⟨j + 1, by omega, by go_num, Lib.hid (by rw [HTJ.out]; have := HO3.out; cases hz : Z x <;> rw [hz] at this <;> exact this), HA3, HB3⟩
          case measure => simp [intOf]; omega
        · obtain rfl : j = ks.length := by omega
          have e2 : IntKind.i64.wrap ((0 : Int) + 1) = 1 := by decide
          go_wp2_with fail
          go_roundw
          case rel => exact ⟨1, by omega, by go_num, fun h => by omega, Lib.hid fun _ => ⟨by have := HOJ.out; rwa [List.take_length] at this, HBJ.out⟩⟩
          case measure => simp [intOf]
    · obtain rfl : k = 1 := by omega
      go_wp2_with fail
      go_end0
      exact ⟨rfl, (HX.out trivial).1, (HX.out trivial).2⟩
end Go.Proofs.YthlcjlmaaaappaaGreatDoor

/- Package cover: Missing, Idle at one Plural whose cases have no nodes. -/
namespace Go.Proofs.YthlcjlmaaaappaaGreatDoor
open Go.RowKit

set_option maxHeartbeats 4000000 in
theorem cover_missing (g : Nat) (t : ByteArray) (A : Option Addr) (ks : List ByteArray) (c : Nat) (s : SetC) (w : World) (hE : RuleEnv w) (hK : MKinds w) (hs : s.small) (hN : NodeAt w g 4 t 0 A ks.length c) (hC : CasesIn w A ks) (hc : ks.length ≤ c) (hc2 : c ≤ 9223372036854775807) (hn : ks.length ≤ 900) (hz : ∀ k ∈ ks, k.size ≤ 1000) (ht : nameB t.data.toList = true) (ht2 : t.size ≤ 1000) (h0 : caseErr 4 [] ks = 0) :
    Calls Tryz.prog 13 #[.slice (some ⟨g, 0, none⟩) 1 1, setV s.s0 s.s1 s.s2 s.s3 s.s4] w fun e w' => (if s.ok then ∃ A c, e = .returned (.tuple #[.slice A (missN kindT (nonB s) ks 5) c, .nilIface]) else e = .returned (.tuple #[.slice none 0 0, errV 3])) ∧ Below w.heap.size w w' := by
  have KK := Lib.hid (fun W (hb : Below w.heap.size w W) => cover_check g t A ks c s W (hE.below hb) (hK.below hb) hs (hN.below hb) (hC.below hb) hc hc2 (by omega) (fun k hk => by have := hz k hk; omega) ht (by omega) h0)
  have KE := Lib.hid (fun bs bo W (h1 : SetCAt W bs s) (h2 : TyAt W bs 40) (h3 : OutAt w W bo 0) (hw : Below w.heap.size w W) => each_miss w s t A ks c g bs bo 0 W h1 h3 (by omega) ht2 hN hC hc hc2 hw)
  generalize missN kindT (nonB s) ks 5 = M at *
  generalize s.ok = OK at *
  obtain ⟨s0, s1, s2, s3, s4⟩ := s
  simp only at *
  clear hE hK hs hN hC h0 hz ht
  have hb0 : Below w.heap.size w (w.alloc (.cells #[.string s0, .string s1, .string s2, .string s3, .string s4] 40)) := (by (repeat (first | with_reducible exact Below.refl _ _ | with_reducible refine bel_set ?_ ?_ | with_reducible refine bel_alloc ?_ ?_ | with_reducible refine Below.drew ?_ | with_reducible refine bel_drewN _ ?_ | with_reducible refine bel_call ?_ (by assumption) ?_)); all_goals (first | (simp; done) | omega | (simp; omega)))
  have HB0 := Lib.hid hb0
  have HT0 := Lib.hid (TyAt.new w #[.string s0, .string s1, .string s2, .string s3, .string s4] 40)
  clear hb0
  go_enter Tryz.func13, Tryz.ntmps13
  go_wp2_with fail
  refine (KK.out _ HB0.out).mono ?_
  rintro e w1 ⟨rfl, hb1⟩
  have u0 : w1.cell? ⟨w.heap.size, 0, none⟩ = some (.string s0) := carry hb1 (by go_simp)
  have u1 : w1.cell? ⟨w.heap.size, 1, none⟩ = some (.string s1) := carry hb1 (by go_simp)
  have u2 : w1.cell? ⟨w.heap.size, 2, none⟩ = some (.string s2) := carry hb1 (by go_simp)
  have u3 : w1.cell? ⟨w.heap.size, 3, none⟩ = some (.string s3) := carry hb1 (by go_simp)
  have u4 : w1.cell? ⟨w.heap.size, 4, none⟩ = some (.string s4) := carry hb1 (by go_simp)
  have HT1 := Lib.hid (HT0.out.below hb1)
  have HB1 := Lib.hid (HB0.out.trans (hb1.mono HB0.out.size))
  clear hb1
  cases OK
  · rw [show okV false = errV 3 from rfl]
    go_wp2_with fail
    go_ret2
    exact ⟨rfl, HB1.out⟩
  · rw [show okV true = .nilIface from rfl]
    have q1 : w.heap.size < w1.heap.size := lt_of_cell u0
    have hbA : Below w1.heap.size w1 (w1.alloc (.cells #[.slice none 0 0] 22)) := (by (repeat (first | with_reducible exact Below.refl _ _ | with_reducible refine bel_set ?_ ?_ | with_reducible refine bel_alloc ?_ ?_ | with_reducible refine Below.drew ?_ | with_reducible refine bel_drewN _ ?_ | with_reducible refine bel_call ?_ (by assumption) ?_)); all_goals (first | (simp; done) | omega | (simp; omega)))
    have HO : OutAt w (w1.alloc (.cells #[.slice none 0 0] 22)) w1.heap.size 0 := ⟨HB1.out.size, TyAt.new _ _ _, none, 0, [], rfl, by go_simp, OwnsG.nil _ _⟩
    have KE2 := Lib.hid (KE.out w.heap.size w1.heap.size (w1.alloc (.cells #[.slice none 0 0] 22)) ⟨by go_simp, by go_simp, by go_simp, by go_simp, by go_simp⟩ (HT1.out.below hbA) HO (HB1.out.trans (hbA.mono HB1.out.size)))
    have HBA := Lib.hid (HB1.out.trans (hbA.mono HB1.out.size))
    clear hbA HO u0 u1 u2 u3 u4 KE
    go_wp2_with fail
    refine KE2.out.mono ?_
    rintro e w2 ⟨rfl, ho, hb2⟩
    obtain ⟨_, _, A2, c2, l, hl, hcell, _⟩ := ho
    have HB2 := Lib.hid (HBA.out.trans hb2)
    have HL := Lib.hid hl
    clear hb2 hl
    go_wp2_with fail
    go_ret2
    exact ⟨⟨A2, c2, by rw [show M = l.length by rw [HL.out, Nat.zero_add]]; rfl⟩, HB2.out⟩

set_option maxHeartbeats 4000000 in
theorem cover_idle (g : Nat) (t : ByteArray) (A : Option Addr) (ks : List ByteArray) (c : Nat) (s : SetC) (w : World) (hE : RuleEnv w) (hK : MKinds w) (hs : s.small) (hN : NodeAt w g 4 t 0 A ks.length c) (hC : CasesIn w A ks) (hc : ks.length ≤ c) (hc2 : c ≤ 9223372036854775807) (hn : ks.length ≤ 900) (hz : ∀ k ∈ ks, k.size ≤ 1000) (ht : nameB t.data.toList = true) (ht2 : t.size ≤ 1000) (h0 : caseErr 4 [] ks = 0) :
    Calls Tryz.prog 14 #[.slice (some ⟨g, 0, none⟩) 1 1, setV s.s0 s.s1 s.s2 s.s3 s.s4] w fun e w' => (if s.ok then ∃ A c, e = .returned (.tuple #[.slice A (idleN kindT (nonB s) ks) c, .nilIface]) else e = .returned (.tuple #[.slice none 0 0, errV 3])) ∧ Below w.heap.size w w' := by
  have KK := Lib.hid (fun W (hb : Below w.heap.size w W) => cover_check g t A ks c s W (hE.below hb) (hK.below hb) hs (hN.below hb) (hC.below hb) hc hc2 (by omega) (fun k hk => by have := hz k hk; omega) ht (by omega) h0)
  have KE := Lib.hid (fun bs bo W (h1 : SetCAt W bs s) (h2 : TyAt W bs 40) (h3 : OutAt w W bo 0) (hw : Below w.heap.size w W) => each_idle w s t A ks c g bs bo 0 W h1 h2 h3 (by omega) hz ht2 hN hC hc hc2 hw)
  generalize idleN kindT (nonB s) ks = M at *
  generalize s.ok = OK at *
  obtain ⟨s0, s1, s2, s3, s4⟩ := s
  simp only at *
  clear hE hK hs hN hC h0 hz ht
  have hb0 : Below w.heap.size w (w.alloc (.cells #[.string s0, .string s1, .string s2, .string s3, .string s4] 40)) := (by (repeat (first | with_reducible exact Below.refl _ _ | with_reducible refine bel_set ?_ ?_ | with_reducible refine bel_alloc ?_ ?_ | with_reducible refine Below.drew ?_ | with_reducible refine bel_drewN _ ?_ | with_reducible refine bel_call ?_ (by assumption) ?_)); all_goals (first | (simp; done) | omega | (simp; omega)))
  have HB0 := Lib.hid hb0
  have HT0 := Lib.hid (TyAt.new w #[.string s0, .string s1, .string s2, .string s3, .string s4] 40)
  clear hb0
  go_enter Tryz.func14, Tryz.ntmps14
  go_wp2_with fail
  refine (KK.out _ HB0.out).mono ?_
  rintro e w1 ⟨rfl, hb1⟩
  have u0 : w1.cell? ⟨w.heap.size, 0, none⟩ = some (.string s0) := carry hb1 (by go_simp)
  have u1 : w1.cell? ⟨w.heap.size, 1, none⟩ = some (.string s1) := carry hb1 (by go_simp)
  have u2 : w1.cell? ⟨w.heap.size, 2, none⟩ = some (.string s2) := carry hb1 (by go_simp)
  have u3 : w1.cell? ⟨w.heap.size, 3, none⟩ = some (.string s3) := carry hb1 (by go_simp)
  have u4 : w1.cell? ⟨w.heap.size, 4, none⟩ = some (.string s4) := carry hb1 (by go_simp)
  have HT1 := Lib.hid (HT0.out.below hb1)
  have HB1 := Lib.hid (HB0.out.trans (hb1.mono HB0.out.size))
  clear hb1
  cases OK
  · rw [show okV false = errV 3 from rfl]
    go_wp2_with fail
    go_ret2
    exact ⟨rfl, HB1.out⟩
  · rw [show okV true = .nilIface from rfl]
    have q1 : w.heap.size < w1.heap.size := lt_of_cell u0
    have hbA : Below w1.heap.size w1 (w1.alloc (.cells #[.slice none 0 0] 22)) := (by (repeat (first | with_reducible exact Below.refl _ _ | with_reducible refine bel_set ?_ ?_ | with_reducible refine bel_alloc ?_ ?_ | with_reducible refine Below.drew ?_ | with_reducible refine bel_drewN _ ?_ | with_reducible refine bel_call ?_ (by assumption) ?_)); all_goals (first | (simp; done) | omega | (simp; omega)))
    have HO : OutAt w (w1.alloc (.cells #[.slice none 0 0] 22)) w1.heap.size 0 := ⟨HB1.out.size, TyAt.new _ _ _, none, 0, [], rfl, by go_simp, OwnsG.nil _ _⟩
    have KE2 := Lib.hid (KE.out w.heap.size w1.heap.size (w1.alloc (.cells #[.slice none 0 0] 22)) ⟨by go_simp, by go_simp, by go_simp, by go_simp, by go_simp⟩ (HT1.out.below hbA) HO (HB1.out.trans (hbA.mono HB1.out.size)))
    have HBA := Lib.hid (HB1.out.trans (hbA.mono HB1.out.size))
    clear hbA HO u0 u1 u2 u3 u4 KE
    go_wp2_with fail
    refine KE2.out.mono ?_
    rintro e w2 ⟨rfl, ho, hb2⟩
    obtain ⟨_, _, A2, c2, l, hl, hcell, _⟩ := ho
    have HB2 := Lib.hid (HBA.out.trans hb2)
    have HL := Lib.hid hl
    clear hb2 hl
    go_wp2_with fail
    go_ret2
    exact ⟨⟨A2, c2, by rw [show M = l.length by rw [HL.out, Nat.zero_add]]; rfl⟩, HB2.out⟩
end Go.Proofs.YthlcjlmaaaappaaGreatDoor

/- CoverAll: the plain law: what Missing and Idle tell of a case for each kind, and of other alone. -/
namespace Go.Proofs.YthlcjlmaaaappaaGreatDoor
open Go.RowKit

def keys6 : List ByteArray := [⟨#[122, 101, 114, 111]⟩, ⟨#[111, 110, 101]⟩, ⟨#[116, 119, 111]⟩, ⟨#[102, 101, 119]⟩, ⟨#[109, 97, 110, 121]⟩, ⟨#[111, 116, 104, 101, 114]⟩]
def keys1 : List ByteArray := [⟨#[111, 116, 104, 101, 114]⟩]
theorem case6 : caseErr 4 [] keys6 = 0 := by decide +kernel
theorem case1 : caseErr 4 [] keys1 = 0 := by decide +kernel
theorem nameN : nameB (⟨#[110]⟩ : ByteArray).data.toList = true := by decide +kernel
theorem size6 : ∀ k ∈ keys6, k.size ≤ 1000 := by decide
theorem size1 : ∀ k ∈ keys1, k.size ≤ 1000 := by decide
def few3 : SetC := ⟨⟨#[]⟩, ⟨#[]⟩, ⟨#[]⟩, ⟨#[110, 32, 61, 32, 51]⟩, ⟨#[]⟩⟩
theorem few3_ok : few3.ok = true := by
  refine SetC.ok_of fun i hi => ?_
  unfold SetC.good
  rw [Lib.toList_data]
  revert i
  decide +kernel
theorem few3_small : few3.small := fun i => by
  match i with
  | 0 => decide
  | 1 => decide
  | 2 => decide
  | 3 => decide
  | 4 => decide
  | n + 5 => exact (by decide : (⟨#[]⟩ : ByteArray).size < 4294967281)
theorem has_at (ks : List ByteArray) (x : ByteArray) : hasT ks x = ks.any fun y => y.data.toList == x.data.toList := by
  unfold hasT
  congr 1
  funext y
  rw [Lib.toList_data, Lib.toList_data]
theorem hit_at (P : Nat → Bool) (x : ByteArray) (i : Nat) : hitK kindT P x i = (x.data.toList == (kindT i).data.toList && !(P i)) := by
  unfold hitK
  rw [Lib.toList_data, Lib.toList_data]
theorem idle_at (P : Nat → Bool) : idleB kindT P ⟨#[122, 101, 114, 111]⟩ = !(P 0) ∧ idleB kindT P ⟨#[111, 110, 101]⟩ = !(P 1) ∧ idleB kindT P ⟨#[116, 119, 111]⟩ = !(P 2) ∧ idleB kindT P ⟨#[102, 101, 119]⟩ = !(P 3) ∧ idleB kindT P ⟨#[109, 97, 110, 121]⟩ = !(P 4) ∧ idleB kindT P ⟨#[111, 116, 104, 101, 114]⟩ = false := by
  have e : ∀ x, idleB kindT P x = ((x.data.toList == (kindT 0).data.toList && !(P 0)) || ((x.data.toList == (kindT 1).data.toList && !(P 1)) || ((x.data.toList == (kindT 2).data.toList && !(P 2)) || ((x.data.toList == (kindT 3).data.toList && !(P 3)) || ((x.data.toList == (kindT 4).data.toList && !(P 4)) || false))))) := by
    intro x
    unfold idleB
    rw [show List.range 5 = [0, 1, 2, 3, 4] from rfl]
    simp only [List.any_cons, List.any_nil, hit_at]
  simp only [e]
  refine ⟨?_, ?_, ?_, ?_, ?_, ?_⟩ <;> simp [kindT]
theorem miss6 (P : Nat → Bool) : missN kindT P keys6 5 = 0 := by
  have h : ∀ i, i < 5 → hasT keys6 (kindT i) = true := by
    intro i hi
    rw [has_at]
    revert i
    decide +kernel
  unfold missN
  rw [List.length_eq_zero_iff, List.filter_eq_nil_iff]
  intro i hi
  rw [h i (List.mem_range.1 hi)]
  simp
theorem idle1 (P : Nat → Bool) : idleN kindT P keys1 = 0 := by
  unfold idleN keys1
  rw [List.filter_cons, (idle_at P).2.2.2.2.2]
  rfl
theorem sum5 (P : Nat → Bool) : idleN kindT P keys6 + missN kindT P keys1 5 = 5 := by
  obtain ⟨h0, h1, h2, h3, h4, h5⟩ := idle_at P
  have h : ∀ i, i < 5 → hasT keys1 (kindT i) = false := by
    intro i hi
    rw [has_at]
    revert i
    decide +kernel
  unfold idleN missN keys6
  rw [show List.range 5 = [0, 1, 2, 3, 4] from rfl]
  simp only [List.filter_cons, List.filter_nil, h0, h1, h2, h3, h4, h5, h 0 (by omega), h 1 (by omega), h 2 (by omega), h 3 (by omega), h 4 (by omega), Bool.not_false, Bool.and_true]
  cases P 0 <;> cases P 1 <;> cases P 2 <;> cases P 3 <;> cases P 4 <;> rfl
theorem missF : missN kindT (nonB few3) keys1 5 = 1 := by
  have h : ∀ i, i < 5 → hasT keys1 (kindT i) = false := by
    intro i hi
    rw [has_at]
    revert i
    decide +kernel
  have hn : ∀ i, i < 5 → nonB few3 i = decide (i = 3) := by
    intro i hi
    unfold nonB
    rw [Lib.toList_data]
    revert i
    decide +kernel
  unfold missN
  rw [show List.range 5 = [0, 1, 2, 3, 4] from rfl]
  simp only [List.filter_cons, List.filter_nil, h 0 (by omega), h 1 (by omega), h 2 (by omega), h 3 (by omega), h 4 (by omega), hn 0 (by omega), hn 1 (by omega), hn 2 (by omega), hn 3 (by omega), hn 4 (by omega), Bool.not_false, Bool.and_true]
  rfl
end Go.Proofs.YthlcjlmaaaappaaGreatDoor
