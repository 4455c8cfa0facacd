/- Plural, PluralKind, TopText, TextsBase, PluralFacts: texts put together. -/
import Derived.Test.YtplaohmdllindaaGreatDoorQn22
import Derived.Test.YtplaohmdllindaaGreatDoorQn12
import Derived.Test.YtplaohmdllindaaGreatDoorQn23
import Derived.Test.YtplaohmdllindaaGreatDoorQn13
import Derived.Test.YtplaohmdllindaaGreatDoorQn1
import Derived.Test.YtplaohmdllindaaGreatDoorQn10
import Derived.Test.YtplaohmdllindaaGreatDoorQn8
import Derived.Test.YtplaohmdllindaaGreatDoorQn2
import Derived.Test.YtplaohmdllindaaGreatDoorQn3
import Derived.Lib.Bytes
import Derived.WalkLawsBesides
set_option linter.unusedVariables false
set_option linter.unusedSimpArgs false
/- plural.Check and plural.Kind. -/
namespace Go.Proofs.YtplaohmdllindaaGreatDoor
open Go.RowKit

def SetC.good (s : SetC) (i : Nat) : Bool := (s.at i).toList.isEmpty || parseOk (s.at i)
def SetC.ok (s : SetC) : Bool := (List.range 5).all s.good
def SetC.hit (s : SetC) (o : OpsC) (i : Nat) : Bool := !(s.at i).toList.isEmpty && ruleHolds (parseB (s.at i)) o
def SetC.kind (s : SetC) (o : OpsC) : Nat := ((List.range 5).find? (s.hit o)).getD 5
def kindT (i : Nat) : ByteArray := match i with | 0 => ⟨#[122, 101, 114, 111]⟩ | 1 => ⟨#[111, 110, 101]⟩ | 2 => ⟨#[116, 119, 111]⟩ | 3 => ⟨#[102, 101, 119]⟩ | 4 => ⟨#[109, 97, 110, 121]⟩ | _ => ⟨#[111, 116, 104, 101, 114]⟩
def SetC.small (s : SetC) : Prop := ∀ i, (s.at i).size < 4294967281
theorem SetC.ok_good {s : SetC} (h : s.ok = true) (i : Nat) (hi : i < 5) : s.good i = true := List.all_eq_true.1 h i (List.mem_range.2 hi)
theorem SetC.not_ok {s : SetC} {i : Nat} (hi : i < 5) (h : s.good i = false) : s.ok = false := by
  unfold SetC.ok
  rw [List.all_eq_false]
  exact ⟨i, List.mem_range.2 hi, by rw [h]; simp⟩
theorem SetC.ok_of {s : SetC} (h : ∀ i, i < 5 → s.good i = true) : s.ok = true := List.all_eq_true.2 fun i hi => h i (List.mem_range.1 hi)
theorem find_first {p : Nat → Bool} (n k : Nat) (hk : k < n) (h0 : ∀ j, j < k → p j = false) (h1 : p k = true) : (List.range n).find? p = some k := by
  rw [List.find?_range_eq_some]
  exact ⟨h1, List.mem_range.2 hk, fun j hj => by rw [h0 j hj]; rfl⟩
theorem SetC.kind_at {s : SetC} {o : OpsC} {k : Nat} (hk : k < 5) (h0 : ∀ j, j < k → s.hit o j = false) (h1 : s.hit o k = true) : s.kind o = k := by
  unfold SetC.kind
  rw [find_first 5 k hk h0 h1]
  rfl
theorem SetC.kind_none {s : SetC} {o : OpsC} (h0 : ∀ j, j < 5 → s.hit o j = false) : s.kind o = 5 := by
  unfold SetC.kind
  have : (List.range 5).find? (s.hit o) = none := by
    rw [List.find?_range_eq_none]
    intro i hi
    rw [h0 i hi]; rfl
  rw [this]
  rfl

def okV (b : Bool) : Value := if b then .nilIface else errV 3
theorem set_index0 (s0 s1 s2 s3 s4 : ByteArray) (w : World) : (Instr.index 76 (setV s0 s1 s2 s3 s4) (.int .i64 0)).run Tryz.prog w = .ok (.string s0) w := by kernel_rfl
theorem set_index1 (s0 s1 s2 s3 s4 : ByteArray) (w : World) : (Instr.index 76 (setV s0 s1 s2 s3 s4) (.int .i64 1)).run Tryz.prog w = .ok (.string s1) w := by kernel_rfl
theorem set_index2 (s0 s1 s2 s3 s4 : ByteArray) (w : World) : (Instr.index 76 (setV s0 s1 s2 s3 s4) (.int .i64 2)).run Tryz.prog w = .ok (.string s2) w := by kernel_rfl
theorem set_index3 (s0 s1 s2 s3 s4 : ByteArray) (w : World) : (Instr.index 76 (setV s0 s1 s2 s3 s4) (.int .i64 3)).run Tryz.prog w = .ok (.string s3) w := by kernel_rfl
theorem set_index4 (s0 s1 s2 s3 s4 : ByteArray) (w : World) : (Instr.index 76 (setV s0 s1 s2 s3 s4) (.int .i64 4)).run Tryz.prog w = .ok (.string s4) w := by kernel_rfl
set_option maxRecDepth 100000 in
theorem set_index (s : SetC) (k : Nat) (hk : k < 5) (w : World) : (Instr.index 76 (setV s.s0 s.s1 s.s2 s.s3 s.s4) (.int .i64 k)).run Tryz.prog w = .ok (.string (s.at k)) w := by
  obtain ⟨s0, s1, s2, s3, s4⟩ := s
  have h : k = 0 ∨ k = 1 ∨ k = 2 ∨ k = 3 ∨ k = 4 := by omega
  rcases h with rfl | rfl | rfl | rfl | rfl
  · exact set_index0 s0 s1 s2 s3 s4 w
  · exact set_index1 s0 s1 s2 s3 s4 w
  · exact set_index2 s0 s1 s2 s3 s4 w
  · exact set_index3 s0 s1 s2 s3 s4 w
  · exact set_index4 s0 s1 s2 s3 s4 w

set_option maxHeartbeats 1000000 in
theorem plural_texts (s : SetC) (w : World) :
    Calls Tryz.prog 22 #[setV s.s0 s.s1 s.s2 s.s3 s.s4] w fun e w' => e = .returned (setV s.s0 s.s1 s.s2 s.s3 s.s4) ∧ Below w.heap.size w w' := by
  obtain ⟨s0, s1, s2, s3, s4⟩ := s
  go_enter Tryz.func22, Tryz.ntmps22
  go_wp2
  exact bodyPost_ret (v := setV s0 s1 s2 s3 s4) (by simp [results, Tryz.results22, go_sem]) rfl ⟨rfl, belx⟩

/-- rule.Parse of a text that is right -/
theorem parse_yes (s : ByteArray) (w : World) (hE : RuleEnv w) (hs : s.size < 4294967281) (h : parseOk s = true) :
    Calls Tryz.prog 23 #[.string s] w fun e w' => (∃ A c ps, e = .returned (.tuple #[.slice A ps.length c, .nilIface]) ∧ ruleC ps = parseB s ∧ RuleIn w' A ps ∧ ps.length ≤ c ∧ c ≤ 9223372036854775807) ∧ Below w.heap.size w w' := by
  refine (rule_parse s w hE hs).mono ?_
  rintro e w' ⟨hp, hb⟩
  refine ⟨?_, hb⟩
  unfold ParsePost at hp
  rw [if_pos h] at hp
  obtain ⟨A, c, ps, h1, h2, h3, h4, _, h5⟩ := hp
  exact ⟨A, c, ps, h5, h1, h2, h3, h4⟩
theorem parse_no (s : ByteArray) (w : World) (hE : RuleEnv w) (hs : s.size < 4294967281) (h : parseOk s = false) :
    Calls Tryz.prog 23 #[.string s] w fun e w' => e = .returned (.tuple #[.slice none 0 0, errV 3]) ∧ Below w.heap.size w w' := by
  refine (rule_parse s w hE hs).mono ?_
  rintro e w' ⟨hp, hb⟩
  refine ⟨?_, hb⟩
  unfold ParsePost at hp
  rw [h] at hp
  exact hp
theorem holds_yes (s : ByteArray) (A : Option Addr) (c : Nat) (ps : List PartD) (o : OpsC) (w : World) (hp : ruleC ps = parseB s) (hok : parseOk s = true) (h : RuleIn w A ps) (hc : ps.length ≤ c) (hc2 : c ≤ 9223372036854775807) (ho : o.fits) :
    Calls Tryz.prog 24 #[.slice A ps.length c, opsA o.i o.v o.w o.f o.t] w fun e w' => e = .returned (.tuple #[.bool (ruleHolds (parseB s) o), .nilIface]) ∧ Below w.heap.size w w' := by
  have h0 : ruleErr (ruleC ps) = 0 := by
    unfold parseOk at hok
    rw [Bool.and_eq_true] at hok
    rw [hp]
    exact of_decide_eq_true hok.1
  have := rule_Holds A c ps o w h hc hc2 (by have := (ruleErr_ok h0).2.2; omega) ho
  rw [if_pos h0, h0, hp] at this
  exact this

theorem emp_yes {b : ByteArray} (h : b.toList.isEmpty = true) : b.toList = [] := by simpa using h
theorem emp_no {b : ByteArray} (h : b.toList.isEmpty = false) : ¬ b.toList = [] := by
  intro hh
  rw [hh] at h
  cases h

set_option maxHeartbeats 2000000 in
theorem plural_check (s : SetC) (w : World) (hE : RuleEnv w) (hs : s.small) :
    Calls Tryz.prog 20 #[setV s.s0 s.s1 s.s2 s.s3 s.s4] w fun e w' => e = .returned (okV s.ok) ∧ Below w.heap.size w w' := by
  have KT := Lib.hid (plural_texts s)
  have KI := Lib.hid (set_index s)
  have KY := Lib.hid (fun i W (hb : Below w.heap.size w W) (h : parseOk (s.at i) = true) => parse_yes (s.at i) W (hE.below hb) (hs i) h)
  have KN := Lib.hid (fun i W (hb : Below w.heap.size w W) (h : parseOk (s.at i) = false) => parse_no (s.at i) W (hE.below hb) (hs i) h)
  have HG : Hid (∀ i, s.good i = ((s.at i).toList.isEmpty || parseOk (s.at i))) := Lib.hid fun i => rfl
  have HNO := Lib.hid (fun i hi h => SetC.not_ok (s := s) (i := i) hi h)
  have HOK := Lib.hid (fun h => SetC.ok_of (s := s) h)
  generalize s.ok = OK at *
  generalize s.good = G at *
  generalize hT : s.at = T at *
  clear hE hs hT
  obtain ⟨s0, s1, s2, s3, s4⟩ := s
  simp only at *
  go_enter Tryz.func20, Tryz.ntmps20
  go_wp2_with fail
  refine (KT.out _).mono ?_
  rintro e w1 ⟨rfl, hb⟩
  have HB1 : Hid (Below w.heap.size w w1) := Lib.hid belx
  clear hb
  go_wp2_with fail
  go_loopw [9] (fun i wr => ∃ k : Nat, k ≤ 5 ∧ i = .int .i64 k ∧ Hid (∀ j, j < k → G j = true) ∧ Hid (Below w.heap.size w wr)) (fun i _ => 5 - (intOf i).toNat)
  case atStart => exact ⟨0, by omega, rfl, Lib.hid (fun j hj => by omega), HB1⟩
  case round =>
    obtain ⟨k, hk, rfl, HJ, HB⟩ := hrel
    by_cases hlt : k < 5
    · have hix := KI.out k hlt
      have hg := HG.out k
      cases he : (T k).toList.isEmpty
      · cases hp : parseOk (T k)
        · have HY := Lib.hid (KN.out k _ HB.out hp)
          have HF := HNO.out k hlt (by rw [hg, he, hp]; rfl)
          have HF := Lib.hid HF
          have x1 := emp_no he
          clear hg hp
          generalize T k = t at *
          go_wp2_with fail
          refine HY.out.mono ?_
          rintro e w2 ⟨rfl, hb⟩
          have hbb := HB.out.trans (hb.mono HB.out.size)
          clear hb
          go_wp2_with fail
          go_ret
          exact ⟨by rw [HF.out]; rfl, hbb⟩
        · have HY := Lib.hid (KY.out k _ HB.out hp)
          have HG2 : Hid (G k = true) := Lib.hid (by rw [hg, hp, Bool.or_true])
          have x1 := emp_no he
          clear hg hp
          generalize T k = t at *
          go_wp2_with fail
          refine HY.out.mono ?_
          rintro e w2 ⟨⟨A, c, ps, rfl, _⟩, hb⟩
          have HB2 : Hid (Below w.heap.size w w2) := Lib.hid (HB.out.trans (hb.mono HB.out.size))
          clear hb
          go_wp2_with fail
          go_roundw
          case rel => exact ⟨k + 1, by omega, by go_num, Lib.hid (fun j hj => by rcases Nat.lt_succ_iff_lt_or_eq.1 hj with h | rfl; exact HJ.out j h; exact HG2.out), HB2⟩
          case measure => simp [intOf]; omega
      · have HG2 : Hid (G k = true) := Lib.hid (by rw [hg, he]; rfl)
        have x1 := emp_yes he
        clear hg
        generalize T k = t at *
        go_wp2_with fail
        go_roundw
        case rel => exact ⟨k + 1, by omega, by go_num, Lib.hid (fun j hj => by rcases Nat.lt_succ_iff_lt_or_eq.1 hj with h | rfl; exact HJ.out j h; exact HG2.out), HB⟩
        case measure => simp [intOf]; omega
    · obtain rfl : k = 5 := by omega
      have HF := Lib.hid (HOK.out (fun i hi => HJ.out i hi))
      go_wp2_with fail
      go_ret
      exact ⟨by rw [HF.out]; rfl, HB.out⟩
end Go.Proofs.YtplaohmdllindaaGreatDoor

/- plural.Kind. -/
namespace Go.Proofs.YtplaohmdllindaaGreatDoor
open Go.RowKit

def KindsAt (w : World) : Prop := ∀ k, k < 5 → w.cell? ⟨0, k, none⟩ = some (.string (kindT k))
theorem KindsAt.below {w w' : World} (h : KindsAt w) (hb : Below w.heap.size w w') : KindsAt w' := fun k hk => carry hb (h k hk)
theorem opsC_fits (c : Int) (s : Nat) (h : decOk c s) : (opsC c s).fits := by
  obtain ⟨h1, h2, h3, h4⟩ := h
  have ht := ten_bd9 s (by omega)
  have ha : 0 ≤ absI c ∧ absI c ≤ 1000000000000000 := by unfold absI; split <;> omega
  have hd := Int.ediv_le_self (ten s) ha.1
  have hd0 := Int.ediv_nonneg ha.1 (by omega : 0 ≤ ten s)
  have hm := Int.emod_nonneg (absI c) (by omega : ten s ≠ 0)
  have hm2 := emod_le_self (b := ten s) ha.1
  have hs := strip_le s _ hm
  unfold opsC OpsC.fits
  simp only
  generalize strip s (absI c % ten s) = q at *
  refine ⟨⟨?_, ?_⟩, ⟨?_, ?_⟩, ⟨?_, ?_⟩, ⟨?_, ?_⟩, ⟨?_, ?_⟩⟩ <;> omega

set_option maxHeartbeats 1000000 in
theorem kind_bad (s : SetC) (c d : Int) (w : World) (hE : RuleEnv w) (hs : s.small) (h : s.ok = false) :
    Calls Tryz.prog 7 #[setV s.s0 s.s1 s.s2 s.s3 s.s4, decV c d] w fun e w' => e = .returned (.tuple #[.string ⟨#[]⟩, errV 3]) ∧ Below w.heap.size w w' := by
  have KC := Lib.hid (fun W (hb : Below w.heap.size w W) => plural_check s W (hE.below hb) hs)
  rw [h] at KC
  clear h hE hs
  obtain ⟨s0, s1, s2, s3, s4⟩ := s
  simp only at *
  go_enter Tryz.func7, Tryz.ntmps7
  go_wp2_with fail
  refine (KC.out _ belx).mono ?_
  rintro e w1 ⟨rfl, hb⟩
  rw [show okV false = errV 3 from rfl]
  have HB1 : Hid (Below w.heap.size w w1) := Lib.hid belx
  clear hb
  go_wp2_with fail
  go_ret2
  exact ⟨rfl, HB1.out⟩

set_option maxHeartbeats 4000000 in
theorem kind_ok (s : SetC) (c : Int) (d : Nat) (w : World) (hE : RuleEnv w) (hK : KindsAt w) (hs : s.small) (h : s.ok = true) (hd : decOk c d) :
    Calls Tryz.prog 7 #[setV s.s0 s.s1 s.s2 s.s3 s.s4, decV c d] w fun e w' => e = .returned (.tuple #[.string (kindT (s.kind (opsC c d))), .nilIface]) ∧ Below w.heap.size w w' := by
  have KC := Lib.hid (fun W (hb : Below w.heap.size w W) => plural_check s W (hE.below hb) hs)
  have KO := Lib.hid (fun W => ops_of c d W hd)
  have KT := Lib.hid (plural_texts s)
  have KI := Lib.hid (set_index s)
  have KP := Lib.hid (fun i (hi : i < 5) (he : (s.at i).toList.isEmpty = false) W (hb : Below w.heap.size w W) => parse_yes (s.at i) W (hE.below hb) (hs i) (by have := s.ok_good h i hi; unfold SetC.good at this; rw [he] at this; exact this))
  have KH := Lib.hid (fun i (hi : i < 5) (he : (s.at i).toList.isEmpty = false) A c' ps W (hp : ruleC ps = parseB (s.at i)) (hr : RuleIn W A ps) hc hc2 => holds_yes (s.at i) A c' ps (opsC c d) W hp (by have := s.ok_good h i hi; unfold SetC.good at this; rw [he] at this; exact this) hr hc hc2 (opsC_fits c d hd))
  have HG : Hid (∀ i, s.hit (opsC c d) i = (!(s.at i).toList.isEmpty && ruleHolds (parseB (s.at i)) (opsC c d))) := Lib.hid fun i => rfl
  have HAT := Lib.hid (fun k hk h0 h1 => SetC.kind_at (s := s) (o := opsC c d) (k := k) hk h0 h1)
  have HNO := Lib.hid (fun h0 => SetC.kind_none (s := s) (o := opsC c d) h0)
  have HK := Lib.hid hK
  rw [h] at KC
  clear h hE hs hd hK
  generalize s.kind (opsC c d) = N at *
  generalize s.hit (opsC c d) = G at *
  generalize s.at = T at *
  generalize opsC c d = o at *
  obtain ⟨s0, s1, s2, s3, s4⟩ := s
  obtain ⟨oi, ov, ow, of', ot⟩ := o
  simp only at *
  go_enter Tryz.func7, Tryz.ntmps7
  go_wp2_with fail
  refine (KC.out _ belx).mono ?_
  rintro e w1 ⟨rfl, hb⟩
  rw [show okV true = .nilIface from rfl]
  have c0 : w1.cell? ⟨w.heap.size + 1, 0, none⟩ = some (.int .i64 c) := carry hb (by go_simp)
  have c1 : w1.cell? ⟨w.heap.size + 1, 1, none⟩ = some (.int .i64 d) := carry hb (by go_simp)
  have x0 : w1.cell? ⟨w.heap.size, 0, none⟩ = some (.string s0) := carry hb (by go_simp)
  have x1 : w1.cell? ⟨w.heap.size, 1, none⟩ = some (.string s1) := carry hb (by go_simp)
  have x2 : w1.cell? ⟨w.heap.size, 2, none⟩ = some (.string s2) := carry hb (by go_simp)
  have x3 : w1.cell? ⟨w.heap.size, 3, none⟩ = some (.string s3) := carry hb (by go_simp)
  have x4 : w1.cell? ⟨w.heap.size, 4, none⟩ = some (.string s4) := carry hb (by go_simp)
  have HB1 : Hid (Below w.heap.size w w1) := Lib.hid belx
  clear hb
  go_wp2_with fail
  refine (KO.out _).mono ?_
  rintro e w2 ⟨rfl, hb⟩
  have HB2 : Hid (Below w.heap.size w w2) := Lib.hid (HB1.out.trans (hb.mono HB1.out.size))
  have y0 := carry hb x0
  have y1 := carry hb x1
  have y2 := carry hb x2
  have y3 := carry hb x3
  have y4 := carry hb x4
  have s2' := lt_of_cell y0
  clear hb c0 c1 x0 x1 x2 x3 x4
  go_wp2_with fail
  refine (KT.out _).mono ?_
  rintro e w3 ⟨rfl, hb⟩
  have z0 : w3.cell? ⟨w2.heap.size, 0, none⟩ = some (.int .i64 oi) := carry hb (by go_simp)
  have z1 : w3.cell? ⟨w2.heap.size, 1, none⟩ = some (.int .i64 ov) := carry hb (by go_simp)
  have z2 : w3.cell? ⟨w2.heap.size, 2, none⟩ = some (.int .i64 ow) := carry hb (by go_simp)
  have z3 : w3.cell? ⟨w2.heap.size, 3, none⟩ = some (.int .i64 of') := carry hb (by go_simp)
  have z4 : w3.cell? ⟨w2.heap.size, 4, none⟩ = some (.int .i64 ot) := carry hb (by go_simp)
  have HX3 : Hid (OpsAt w3 w2.heap.size ⟨oi, ov, ow, of', ot⟩) := Lib.hid ⟨z0, z1, z2, z3, z4⟩
  have HB3 : Hid (Below w.heap.size w w3) := Lib.hid ((HB2.out.alloc HB2.out.size _).trans (hb.mono (by have := HB2.out.size; simp; omega)))
  clear hb y0 y1 y2 y3 y4 z0 z1 z2 z3 z4
  generalize w2.heap.size = b at *
  go_wp2_with fail
  go_loopw [30] (fun i wr => ∃ k : Nat, k ≤ 5 ∧ i = .int .i64 k ∧ Hid (∀ j, j < k → G j = false) ∧ Hid (OpsAt wr b ⟨oi, ov, ow, of', ot⟩) ∧ Hid (Below w.heap.size w wr)) (fun i _ => 5 - (intOf i).toNat)
  case atStart => exact ⟨0, by omega, rfl, Lib.hid (fun j hj => by omega), HX3, HB3⟩
  case round =>
    obtain ⟨k, hk, rfl, HJ, HX, HB⟩ := hrel
    by_cases hlt : k < 5
    · have hix := KI.out k hlt
      have hg := HG.out k
      have i1 : (0 : Int) ≤ (k : Int) := by omega
      have i2 : (k : Int) < 5 := by omega
      cases he : (T k).toList.isEmpty
      · have HP := Lib.hid (KP.out k hlt he _ HB.out)
        have HH := Lib.hid (KH.out k hlt he)
        have x1 := emp_no he
        have HGK : Hid (G k = ruleHolds (parseB (T k)) ⟨oi, ov, ow, of', ot⟩) := Lib.hid (by rw [hg, he]; rfl)
        clear hg
        generalize T k = t at *
        generalize ruleHolds (parseB t) ⟨oi, ov, ow, of', ot⟩ = R at *
        go_wp2_with fail
        refine HP.out.mono ?_
        rintro e w4 ⟨⟨A, c4, ps, rfl, hp, hr, hc4, hc5⟩, hb⟩
        have HB4 : Hid (Below w.heap.size w w4) := Lib.hid (HB.out.trans (hb.mono HB.out.size))
        have HX4 := Lib.hid (HX.out.below hb)
        have HR := Lib.hid (HH.out A c4 ps w4 hp hr hc4 hc5)
        obtain ⟨y0, y1, y2, y3, y4⟩ := HX4.out
        clear hb hp hr
        go_wp2_with fail
        refine HR.out.mono ?_
        rintro e w5 ⟨rfl, hb⟩
        have HB5 : Hid (Below w.heap.size w w5) := Lib.hid (HB4.out.trans (hb.mono HB4.out.size))
        have HX5 := Lib.hid (HX4.out.below hb)
        clear hb y0 y1 y2 y3 y4
        cases R
        · go_wp2_with fail
          go_roundw
          case rel => exact ⟨k + 1, by omega, by go_num, Lib.hid (fun j hj => by rcases Nat.lt_succ_iff_lt_or_eq.1 hj with h | rfl; exact HJ.out j h; exact HGK.out), HX5, HB5⟩
          case measure => simp [intOf]; omega
        · have hkc := (HK.out.below HB5.out) k hlt
          have HN := Lib.hid (HAT.out k hlt HJ.out HGK.out)
          go_wp2_with fail
          go_ret2
          exact ⟨by rw [HN.out]; rfl, HB5.out⟩
      · have HG2 : Hid (G k = false) := Lib.hid (by rw [hg, he]; rfl)
        have x1 := emp_yes he
        clear hg
        generalize T k = t at *
        go_wp2_with fail
        go_roundw
        case rel => exact ⟨k + 1, by omega, by go_num, Lib.hid (fun j hj => by rcases Nat.lt_succ_iff_lt_or_eq.1 hj with h | rfl; exact HJ.out j h; exact HG2.out), HX, HB⟩
        case measure => simp [intOf]; omega
    · obtain rfl : k = 5 := by omega
      have HN := Lib.hid (HNO.out (fun i hi => HJ.out i hi))
      go_wp2_with fail
      go_ret2
      exact ⟨by rw [HN.out]; rfl, HB.out⟩
end Go.Proofs.YtplaohmdllindaaGreatDoor

/- TopCounts' message: its text, its nodes. -/
namespace Go.Proofs.YtplaohmdllindaaGreatDoor

def bareB (s : ByteArray) (mark : Bool) (k : Nat) : Bool := decide (k ≤ s.size) && ((s.data.toList.take k).all (fun c => !bsB mark c && decide (c ≠ 39)) && (decide (k = s.size) || signAt s mark k))
theorem bareB_to {s : ByteArray} {mark : Bool} {k : Nat} (h : bareB s mark k = true) : BareTo s mark k := by
  unfold bareB at h
  simp only [Bool.and_eq_true, Bool.or_eq_true, decide_eq_true_eq] at h
  obtain ⟨h1, h2, h3⟩ := h
  refine ⟨h1, fun j hj => ?_, h3⟩
  have hl : j < s.data.toList.length := by simp; omega
  refine ⟨s.data.toList[j], List.getElem?_eq_getElem hl, ?_⟩
  have := List.all_eq_true.1 h2 s.data.toList[j] (by
    rw [List.mem_take_iff_getElem]
    exact ⟨j, by omega, rfl⟩)
  simp only [Bool.and_eq_true, Bool.not_eq_true', decide_eq_true_eq] at this
  exact this
end Go.Proofs.YtplaohmdllindaaGreatDoor

/- linguisterref1.In; texts in memory. -/
namespace Go.Proofs.YtplaohmdllindaaGreatDoor
open Go.RowKit

end Go.Proofs.YtplaohmdllindaaGreatDoor

/- Sets of rules without a text or two; plural.Kind of a small set. -/
namespace Go.Proofs.YtplaohmdllindaaGreatDoor
open Go.RowKit

end Go.Proofs.YtplaohmdllindaaGreatDoor
