/- Numeral, EvalCase, SayBase, SayPlain, CodeSay1, DecParse, NoutRead, ReadText: texts put together. -/
import Derived.Test.YtplaohmdllindaaGreatDoorQn7
import Derived.Test.YtplaohmdllindaaGreatDoorQn3
import Derived.Test.YtplaohmdllindaaGreatDoorQn33
import Derived.Test.YtplaohmdllindaaGreatDoorQn32
import Derived.Test.YtplaohmdllindaaGreatDoorQn1
import Derived.Test.YtplaohmdllindaaGreatDoorQn6
import Derived.Test.YtplaohmdllindaaGreatDoorQn9
import Derived.Deep.RegionHeld3
import Derived.Test.YtplaohmdllindaaGreatDoorQn13
import Derived.Deep.RegionWith
import Derived.Deep.DeepCutAuto
import Derived.Test.YtplaohmdllindaaGreatDoorQn27
import Derived.Test.YtplaohmdllindaaGreatDoorQn4
import Derived.Test.YtplaohmdllindaaGreatDoorQn2
import Derived.Deep.RegionHeld
import Derived.Deep.QuietTactic
import Derived.BigQuiet
set_option linter.unusedVariables false
set_option linter.unusedSimpArgs false
/- nout.Format of what is right; eval.Numeral. -/
namespace Go.Proofs.YtplaohmdllindaaGreatDoor
open Go.RowKit

theorem format_right (p q : ByteArray) (mi mf xf g g2 : Nat) (pt cm : UInt8) (c : Int) (s : Nat) (w : World) (hM : MaxL w) (hP : Pow w) (hp : p.size ≤ 5) (hq : q.size ≤ 5)
    (hE : ∀ W : World, Calls Tryz.prog 31 #[patV p q mi mf xf g g2, symC pt cm] W fun e w' => e = .returned .nilIface ∧ Below W.heap.size W w') (hmi : mi ≤ 9) (hmf : mf ≤ 6) (hx : xf ≤ 6) (hn : decOk c s) (hcm : ¬ (48 ≤ cm.toNat ∧ cm.toNat ≤ 57)) (hg : g ≤ 4) (hg2 : g2 ≤ 4) (hz : ¬ (g2 ≠ 0 ∧ g = 0)) :
    Calls Tryz.prog 10 #[patV p q mi mf xf g g2, symC pt cm, decV c s] w fun e w' => e = .returned (.tuple #[.string (fmtT p q mi mf xf g g2 pt cm c s), .nilIface]) ∧ Below w.heap.size w w' := by
  obtain ⟨c2, s2, h2⟩ : ∃ c2 s2, fixP xf c s = (c2, s2) := ⟨_, _, rfl⟩
  have hok : decOk c2 s2 := by have := (fixP_le (xf := xf) hn).1; rw [h2] at this; exact this
  obtain ⟨z1, z2, z3⟩ := parts_size hok
  obtain ⟨t1, t2⟩ := sw_prefix hok
  have hT := decT_size c2 s2 hok
  have hG := putC_size cm g g2 (zeroB (mi - (wholeB c2 s2).size) ++ wholeB c2 s2)
  have hzs := zeroB_size (mi - (wholeB c2 s2).size)
  rw [ByteArray.size_append, hzs] at hG
  have e : fmtT p q mi mf xf g g2 pt cm c s = noutB (decide (c2 < 0)) p (putC cm g g2 (zeroB (mi - (wholeB c2 s2).size) ++ wholeB c2 s2)) (behindB c2 s2 ++ zeroB (mf - (behindB c2 s2).size)) q pt := by unfold fmtT; rw [h2]
  rw [e]
  exact nout_any p q mi mf xf g g2 pt cm c s c2 s2 (decT c2 s2) (swB c2 s2) (wholeB c2 s2) (behindB c2 s2) _ _ _ _ _ rfl rfl w hM hp hq hE hmi hmf hx hn h2
    (fun W hb => dec_text c2 s2 W (hP.below hb) hok) hT (decT_cut c2 s2) t1 t2 (by omega) (by omega)
    (fun W => group_putC cm hcm g g2 _ W (by rw [ByteArray.size_append]; omega) (by rw [ByteArray.size_append, hzs]; omega) (put_digits hok _) hg hg2 hz) (by omega)

/-- the pattern of numerals lies there -/
def NumLaid (w : World) : Prop :=
  (w.cell? ⟨1, 0, none⟩ = some (.string ⟨#[]⟩) ∧ w.cell? ⟨1, 1, none⟩ = some (.string ⟨#[]⟩) ∧ w.cell? ⟨1, 2, none⟩ = some (.int .i64 1) ∧ w.cell? ⟨1, 3, none⟩ = some (.int .i64 0) ∧ w.cell? ⟨1, 4, none⟩ = some (.int .i64 3) ∧ w.cell? ⟨1, 5, none⟩ = some (.int .i64 3) ∧ w.cell? ⟨1, 6, none⟩ = some (.int .i64 0)) ∧
  w.cell? ⟨2, 0, none⟩ = some (.int .u8 46) ∧ w.cell? ⟨2, 1, none⟩ = some (.int .u8 44)
theorem NumLaid.below {w w' : World} (h : NumLaid w) (hb : Below w.heap.size w w') : NumLaid w' :=
  ⟨⟨carry hb h.1.1, carry hb h.1.2.1, carry hb h.1.2.2.1, carry hb h.1.2.2.2.1, carry hb h.1.2.2.2.2.1, carry hb h.1.2.2.2.2.2.1, carry hb h.1.2.2.2.2.2.2⟩, carry hb h.2.1, carry hb h.2.2⟩

theorem format_bad (c s : Int) (w : World) (hn : ¬ decOk c s) :
    Calls Tryz.prog 10 #[patV ⟨#[]⟩ ⟨#[]⟩ 1 0 3 3 0, symV, decV c s] w fun e w' => e = .returned (.tuple #[.string ⟨#[]⟩, errV 1]) ∧ Below w.heap.size w w' := by
  have KP : Hid (∀ W : World, Calls Tryz.prog 31 #[patV ⟨#[]⟩ ⟨#[]⟩ 1 0 3 3 0, symV] W fun e w' => e = .returned .nilIface ∧ Below W.heap.size W w') := Lib.hid (fun W => nout_check ⟨#[]⟩ ⟨#[]⟩ 1 0 3 3 0 W (by decide) (by decide))
  have KD := Lib.hid (fun W => dec_check_no c s W hn)
  clear hn
  go_enter Tryz.func10, Tryz.ntmps10
  go_wp2_with fail
  refine (KP.out _).mono ?_
  rintro e w1 ⟨rfl, hb1⟩
  have s1 := hb1.size
  simp at s1
  have c0 : w1.cell? ⟨w.heap.size + 1 + 1, 0, none⟩ = some (.int .i64 c) := carry hb1 (by go_simp)
  have c1 : w1.cell? ⟨w.heap.size + 1 + 1, 1, none⟩ = some (.int .i64 s) := carry hb1 (by go_simp)
  go_wp2_with fail
  refine (KD.out _).mono ?_
  rintro e w2 ⟨rfl, hb2⟩
  have s2 := hb2.size
  go_wp2_with fail
  go_ret2
  exact ⟨rfl, belx⟩
theorem format_num (c s : Int) (w : World) (hM : MaxL w) (hP : Pow w) :
    Calls Tryz.prog 10 #[patV ⟨#[]⟩ ⟨#[]⟩ 1 0 3 3 0, symV, decV c s] w fun e w' => e = .returned (.tuple #[.string (numP c s).2, errOf (numP c s).1]) ∧ Below w.heap.size w w' := by
  unfold numP
  by_cases h : decOk c s
  · rw [if_pos h]
    have hs : ((s.toNat : Nat) : Int) = s := by have := h.1; omega
    have := format_right ⟨#[]⟩ ⟨#[]⟩ 1 0 3 3 0 46 44 c s.toNat w hM hP (by decide) (by decide) (fun W => nout_check ⟨#[]⟩ ⟨#[]⟩ 1 0 3 3 0 W (by decide) (by decide)) (by omega) (by omega) (by omega) (by rw [hs]; exact h) (by decide) (by omega) (by omega) (by omega)
    rw [hs] at this
    exact this
  · rw [if_neg h]
    exact format_bad c s w h
/-- eval.Numeral -/
theorem numeral (c s : Int) (w : World) (hM : MaxL w) (hP : Pow w) (hL : NumLaid w) :
    Calls Tryz.prog 112 #[decV c s] w fun e w' => e = .returned (.tuple #[.string (numP c s).2, errOf (numP c s).1]) ∧ Below w.heap.size w w' := by
  have KF := Lib.hid (fun W (hb : Below w.heap.size w W) => format_num c s W (hM.below hb) (hP.below hb))
  obtain ⟨⟨l0, l1, l2, l3, l4, l5, l6⟩, m0, m1⟩ := hL.below ((Below.refl w.heap.size w).alloc (Nat.le_refl _) (.cells #[.int .i64 c, .int .i64 s] 23))
  clear hM hP hL
  generalize (numP c s).2 = T at *
  generalize errOf (numP c s).1 = E at *
  go_enter Tryz.func112, Tryz.ntmps112
  go_wp2_with fail
  refine (KF.out _ ((Below.refl _ _).alloc (Nat.le_refl _) _)).mono ?_
  rintro e w1 ⟨rfl, hb1⟩
  have s1 := hb1.size
  go_wp2_with fail
  go_ret2
  exact ⟨rfl, belx⟩
end Go.Proofs.YtplaohmdllindaaGreatDoor

/- eval.Case, eval.Choice. -/
namespace Go.Proofs.YtplaohmdllindaaGreatDoor
open Go.RowKit

theorem exC_le (l : List UInt8) : exC l ≤ 999 := by
  unfold exC
  split
  · split
    · split
      · omega
      · omega
    · omega
  · omega
theorem exC_ok {l : List UInt8} (h : 0 ≤ exC l) : decOk (exC l) 0 := by have := exC_le l; exact ⟨by omega, by omega, by omega, by omega⟩
/-- msg.Exact -/
theorem msg_Exact (s : ByteArray) (w : World) (hE : RuleEnv w) (hs : s.size ≤ 281474976710656) :
    Calls Tryz.prog 179 #[.string s] w fun e w' => e = .returned (.tuple #[.int .i64 (exC s.data.toList), .bool (decide (0 ≤ exC s.data.toList))]) ∧ Below w.heap.size w w' := by
  have K := Lib.hid (fun W (hb : Below w.heap.size w W) => msg_exact s W (hE.below hb) hs)
  clear hE hs
  generalize exC s.data.toList = X at *
  go_enter Tryz.func179, Tryz.ntmps179
  go_wp2_with fail
  refine (K.out _ (Below.refl _ _)).mono ?_
  rintro e w1 ⟨rfl, hb1⟩
  go_wp2_with fail
  refine (K.out _ hb1).mono ?_
  rintro e w2 ⟨rfl, hb2⟩
  by_cases h : 0 ≤ X
  · have hd : decide (0 ≤ X) = true := decide_eq_true h
    go_wp2_with fail
    go_ret2
    rw [hd]
    exact ⟨rfl, hb1.trans (hb2.mono hb1.size)⟩
  · have hd : decide (0 ≤ X) = false := decide_eq_false h
    go_wp2_with fail
    go_ret2
    rw [hd]
    exact ⟨rfl, hb1.trans (hb2.mono hb1.size)⟩
/-- dec.Add of a number and a Plural's offset -/
theorem add_less (c s off : Int) (w : World) (ho : 0 ≤ off ∧ off ≤ 9) :
    Calls Tryz.prog 178 #[decV c s, decV (-off) 0] w fun e w' => e = .returned (.tuple #[decV (lessP c s off).2.1 (lessP c s off).2.2, errOf (lessP c s off).1]) ∧ Below w.heap.size w w' := by
  have h2 : decOk (-off) 0 := ⟨by omega, by omega, by omega, by omega⟩
  by_cases h1 : decOk c s
  · have key : ∀ e : Ending, AddPost (c - off * ten s.toNat) s e → e = .returned (.tuple #[decV (lessP c s off).2.1 (lessP c s off).2.2, errOf (lessP c s off).1]) := fun e he => by
      unfold lessP
      by_cases hv : -1000000000000000 ≤ c - off * ten s.toNat ∧ c - off * ten s.toNat ≤ 1000000000000000
      · rw [if_pos ⟨h1, h2, hv⟩]
        exact he.1 hv
      · rw [if_neg (fun h => hv h.2.2)]
        exact he.2 hv
    by_cases hs : s ≤ 0
    · have h0 := h1.1
      obtain rfl : s = 0 := by omega
      refine (dec_add_le c 0 (-off) 0 w h1 h2 (by omega)).mono ?_
      rintro e w' ⟨he, hb⟩
      refine ⟨key e ?_, hb⟩
      have e1 : c * ten ((0 : Int) - 0).toNat + -off = c - off * ten (0 : Int).toNat := by
        show c * ten 0 + -off = c - off * ten 0
        have : ten 0 = 1 := rfl
        rw [this]; omega
      rw [← e1]
      exact he
    · refine (dec_add_gt c s (-off) 0 w h1 h2 (by omega)).mono ?_
      rintro e w' ⟨he, hb⟩
      refine ⟨key e ?_, hb⟩
      have e1 : (-off) * ten (s - 0).toNat + c = c - off * ten s.toNat := by
        rw [Int.sub_zero, Int.neg_mul]; omega
      rw [← e1]
      exact he
  · have e : lessP c s off = (1, 0, 0) := if_neg (fun h => h1 h.1)
    rw [e]
    exact dec_add_check1 c s (-off) 0 w h1
theorem other_list : otherS.toList = [111, 116, 104, 101, 114] := by rw [Lib.toList_data]; rfl
theorem best_step {r : ByteArray → Int} {cs : List (ByteArray × List Nd)} {k : Nat} {x : ByteArray × List Nd} (h : cs[k]? = some x) (b : Nat) (q : Int) :
    bestGo r k b q (cs.drop k) = if q < r x.1 then bestGo r (k + 1) k (r x.1) (cs.drop (k + 1)) else bestGo r (k + 1) b q (cs.drop (k + 1)) := by
  rw [drop_at h, bestGo]
theorem choice_step {s : ByteArray} {cs : List (ByteArray × List Nd)} {k : Nat} {x : ByteArray × List Nd} (h : cs[k]? = some x) (b : Nat) :
    choiceGo s k b (cs.drop k) = if x.1.toList == s.toList then k else choiceGo s (k + 1) (if x.1.toList == otherS.toList then k else b) (cs.drop (k + 1)) := by
  rw [drop_at h, choiceGo]

set_option maxHeartbeats 4000000 in
theorem eval_choice {f : Nat} (kd off : Int) (t : ByteArray) (A : Option Addr) (cs : List (ByteArray × List Nd)) (cc : Nat) (s : ByteArray) (w : World) (hC : CasesN (NodesIn f w) w (.slice A cs.length cc) cs) :
    Calls Tryz.prog 114 #[.agg #[.int .i64 kd, .string t, .int .i64 off, .slice A cs.length cc], .string s] w fun e w' => e = .returned (.int .i64 (choiceGo s 0 0 cs)) ∧ Below w.heap.size w w' := by
  obtain ⟨_, _, he, h1, h2, h3⟩ := hC.form
  cases he
  have HC := Lib.hid hC
  have HX : Hid (choiceGo s 0 0 (cs.drop 0) = choiceGo s 0 0 cs) := Lib.hid rfl
  generalize choiceGo s 0 0 cs = R at *
  clear hC
  go_enter Tryz.func114, Tryz.ntmps114
  go_wp2_with fail
  have HB0 : Hid (Below w.heap.size w (w.alloc (.cells #[.int .i64 kd, .string t, .int .i64 off, .slice A cs.length cc] 51))) := Lib.hid belx
  go_loopw [11, 5] (fun i b wr => ∃ k b0 : Nat, k ≤ cs.length ∧ i = .int .i64 k ∧ b = .int .i64 b0 ∧ Hid (choiceGo s k b0 (cs.drop k) = R) ∧ Hid (Below w.heap.size w wr)) (fun i _ _ => cs.length - (intOf i).toNat)
  case atStart => exact ⟨0, 0, Nat.zero_le _, rfl, rfl, HX, HB0⟩
  case round =>
    obtain ⟨k, b0, hk, rfl, rfl, HR, HB⟩ := hrel
    by_cases hlt : k < cs.length
    · obtain ⟨b, o, rfl, hat⟩ := HC.out.at (by omega)
      obtain ⟨x, hx⟩ : ∃ x, cs[k]? = some x := ⟨cs[k], List.getElem?_eq_getElem hlt⟩
      have hst := choice_step (s := s) hx b0
      rw [HR.out] at hst
      obtain ⟨z0, k0, vb, k1, hnb⟩ := hat k x hx
      obtain ⟨A2, c2, rfl, _, _, _⟩ := hnb.form
      generalize x.2.length = n2 at k1
      have sB := HB.out.size
      have i0 : (0 : Int) ≤ (k : Int) := by omega
      have i1 : (k : Int) < (cs.length : Int) := by omega
      have i2 : (k : Int) ≤ (cc : Int) := by omega
      have e1 : IntKind.i64.wrap ((k : Int) + 1) = (k : Int) + 1 := IntWalk.i64_in _ (by omega)
      replace k0 := carry HB.out k0
      replace k1 := carry HB.out k1
      have HST := Lib.hid hst
      have HB2 : Hid (Below w.heap.size w (wr.alloc (.cells #[.string x.1, .slice A2 n2 c2] 246))) := Lib.hid (HB.out.alloc sB _)
      clear hst hat hx hnb
      obtain ⟨x1, x2⟩ := x
      simp only at *
      rcases Bool.eq_false_or_eq_true (x1.toList == s.toList) with hq | hq
      · have hR : R = k := HST.out.trans (if_pos hq)
        have HR2 := Lib.hid hR
        clear hR HST
        go_wp2_with fail
        go_ret
        rw [HR2.out]
        exact ⟨rfl, HB2.out⟩
      · have hst := HST.out
        rw [hq, if_neg (by decide), other_list] at hst
        rcases Bool.eq_false_or_eq_true (x1.toList == [111, 116, 104, 101, 114]) with ho | ho
        · rw [ho, if_pos rfl] at hst
          have HR2 : Hid (choiceGo s (k + 1) k (cs.drop (k + 1)) = R) := Lib.hid hst.symm
          clear hst HST
          go_wp2_with fail
          go_roundw
          case rel => exact ⟨k + 1, k, by omega, by go_num, rfl, HR2, HB2⟩
          case measure => simp [intOf]; omega
        · rw [ho, if_neg (by decide)] at hst
          have HR2 : Hid (choiceGo s (k + 1) b0 (cs.drop (k + 1)) = R) := Lib.hid hst.symm
          clear hst HST
          go_wp2_with fail
          go_roundw
          case rel => exact ⟨k + 1, b0, by omega, by go_num, rfl, HR2, HB2⟩
          case measure => simp [intOf]; omega
    · obtain rfl : k = cs.length := by omega
      have hR : R = b0 := by
        have := HR.out
        rw [List.drop_of_length_le (Nat.le_refl _), choiceGo] at this
        exact this.symm
      have HR2 := Lib.hid hR
      clear hR
      go_wp2_with fail
      go_ret
      rw [HR2.out]
      exact ⟨rfl, HB.out⟩

set_option maxHeartbeats 8000000 in
theorem eval_case {f : Nat} (S : SetC) (hS : S.ok = true) (hs : S.small) (kd off : Int) (t : ByteArray) (A : Option Addr) (cs : List (ByteArray × List Nd)) (cc : Nat) (c s : Int) (w : World) (hE : RuleEnv w) (hK : KindsAt w) (hC : CasesN (NodesIn f w) w (.slice A cs.length cc) cs) (ho : 0 ≤ off ∧ off ≤ 9) (hl : (lessP c s off).1 = 0) :
    Calls Tryz.prog 113 #[.agg #[.int .i64 kd, .string t, .int .i64 off, .slice A cs.length cc], setV S.s0 S.s1 S.s2 S.s3 S.s4, decV c s] w fun e w' => e = .returned (.tuple #[.int .i64 (bestP S c s (lessP c s off) cs), decV (lessP c s off).2.1 (lessP c s off).2.2, .nilIface]) ∧ Below w.heap.size w w' := by
  obtain ⟨_, _, he, h1, h2, h3⟩ := hC.form
  cases he
  have hl2 : lessP c s off = (0, c - off * ten s.toNat, s) ∧ decOk c s ∧ decOk (c - off * ten s.toNat) s := by
    unfold lessP at hl ⊢
    split
    · rename_i h
      exact ⟨rfl, h.1, h.1.1, h.1.2.1, h.2.2.1, h.2.2.2⟩
    · rename_i h
      rw [if_neg h] at hl
      cases hl
  obtain ⟨he, hok, hlok⟩ := hl2
  have KA := Lib.hid (fun W => add_less c s off W ho)
  have hso : ((s.toNat : Nat) : Int) = s := by have := hok.1; omega
  have KK := Lib.hid (fun W (hb : Below w.heap.size w W) => kind_ok S (c - off * ten s.toNat) s.toNat W (hE.below hb) (hK.below hb) hs hS (by rw [hso]; exact hlok))
  rw [hso] at KK
  have HC := Lib.hid hC
  have HE := Lib.hid hE
  rw [he] at KA ⊢
  unfold bestP
  simp only at KA ⊢
  obtain ⟨l, hl⟩ : ∃ l, c - off * ten s.toNat = l := ⟨_, rfl⟩
  obtain ⟨kind, hkind⟩ : ∃ q, kindT (S.kind (opsC l s.toNat)) = q := ⟨_, rfl⟩
  rw [hl] at KA KK ⊢
  rw [hkind] at KK ⊢
  have HX : Hid (bestGo (rankP kind c s) 0 0 0 (cs.drop 0) = bestGo (rankP kind c s) 0 0 0 cs) := Lib.hid rfl
  have HOK := Lib.hid hok
  have e0 : IntKind.i64.wrap (-off) = -off := IntWalk.i64_in _ (by omega)
  have E0 : Hid (errOf 0 = .nilIface) := Lib.hid rfl
  rw [E0.out] at KA
  generalize bestGo (rankP kind c s) 0 0 0 cs = R at *
  clear hC hE hK hS hs hl hkind hlok hok he E0 hso
  obtain ⟨S0, S1, S2, S3, S4⟩ := S
  simp only at KK ⊢
  go_enter Tryz.func113, Tryz.ntmps113
  go_wp2_with fail
  refine (KA.out _).mono ?_
  rintro e w1 ⟨rfl, hb1⟩
  have x0 : w1.cell? ⟨w.heap.size, 3, none⟩ = some (.slice A cs.length cc) := carry hb1 (by go_simp)
  have y0 : w1.cell? ⟨w.heap.size + 1, 0, none⟩ = some (.string S0) := carry hb1 (by go_simp)
  have y1 : w1.cell? ⟨w.heap.size + 1, 1, none⟩ = some (.string S1) := carry hb1 (by go_simp)
  have y2 : w1.cell? ⟨w.heap.size + 1, 2, none⟩ = some (.string S2) := carry hb1 (by go_simp)
  have y3 : w1.cell? ⟨w.heap.size + 1, 3, none⟩ = some (.string S3) := carry hb1 (by go_simp)
  have y4 : w1.cell? ⟨w.heap.size + 1, 4, none⟩ = some (.string S4) := carry hb1 (by go_simp)
  have z0 : w1.cell? ⟨w.heap.size + 2, 0, none⟩ = some (.int .i64 c) := carry hb1 (by go_simp)
  have z1 : w1.cell? ⟨w.heap.size + 2, 1, none⟩ = some (.int .i64 s) := carry hb1 (by go_simp)
  have r0 : w1.cell? ⟨w.heap.size + 3, 0, none⟩ = some (.int .i64 0) := carry hb1 (by go_simp)
  have r1 : w1.cell? ⟨w.heap.size + 3, 1, none⟩ = some (.int .i64 0) := carry hb1 (by go_simp)
  have f0 : w1.frozen? ⟨w.heap.size + 3, 0, none⟩ = false := carryF hb1 (by simp) (by go_simp)
  have f1 : w1.frozen? ⟨w.heap.size + 3, 1, none⟩ = false := carryF hb1 (by simp) (by go_simp)
  have HB1 : Hid (Below w.heap.size w w1) := Lib.hid belx
  have q1 := lt_of_cell r0
  clear hb1
  have hbA : Below w1.heap.size w1 (w1.alloc (.cells #[.int .i64 l, .int .i64 s] 23)) := belx
  have y0' := carry hbA y0
  have y1' := carry hbA y1
  have y2' := carry hbA y2
  have y3' := carry hbA y3
  have y4' := carry hbA y4
  have HBA := Lib.hid hbA
  have HBK : Hid (Below w.heap.size w (w1.alloc (.cells #[.int .i64 l, .int .i64 s] 23))) := Lib.hid (HB1.out.alloc HB1.out.size _)
  clear y0 y1 y2 y3 y4 hbA
  go_wp2_with fail
  refine (KK.out _ HBK.out).mono ?_
  rintro e w2 ⟨rfl, hb2⟩
  have hb12 : Below w1.heap.size w1 w2 := HBA.out.trans (hb2.mono (by simp))
  have l0 : w2.cell? ⟨w1.heap.size, 0, none⟩ = some (.int .i64 l) := carry hb2 (by go_simp)
  have l1 : w2.cell? ⟨w1.heap.size, 1, none⟩ = some (.int .i64 s) := carry hb2 (by go_simp)
  replace x0 := carry hb12 x0
  replace z0 := carry hb12 z0
  replace z1 := carry hb12 z1
  replace r0 := carry hb12 r0
  replace r1 := carry hb12 r1
  replace f0 := carryF hb12 (by omega) f0
  replace f1 := carryF hb12 (by omega) f1
  have HB2 : Hid (Below w.heap.size w w2) := Lib.hid (HB1.out.trans (hb12.mono HB1.out.size))
  have L0 := Lib.hid l0
  have L1 := Lib.hid l1
  have Z0 := Lib.hid z0
  have Z1 := Lib.hid z1
  have R0 := Lib.hid r0
  have R1 := Lib.hid r1
  have F0 := Lib.hid f0
  have F1 := Lib.hid f1
  have s2 := HB2.out.size
  have s12 := hb12.size
  have HB20 : Hid (Below w2.heap.size w2 w2) := Lib.hid (Below.refl _ _)
  clear hb2 hb12 y0' y1' y2' y3' y4' l0 l1 z0 z1 r0 r1 f0 f1 HBA HBK
  go_wp2_with fail
  go_loopw [45, 12, 13] (fun i b q wr => ∃ (k b0 : Nat) (r : Int), k ≤ cs.length ∧ i = .int .i64 k ∧ b = .int .i64 b0 ∧ q = .int .i64 r ∧ 0 ≤ r ∧ r ≤ 3 ∧ Hid (bestGo (rankP kind c s) k b0 r (cs.drop k) = R) ∧ Hid (Below w2.heap.size w2 wr)) (fun i _ _ _ => cs.length - (intOf i).toNat)
  case atStart => exact ⟨0, 0, 0, Nat.zero_le _, rfl, rfl, rfl, by omega, by omega, HX, HB20⟩
  case round =>
    obtain ⟨k, b0, r, hk, rfl, rfl, rfl, hr0, hr3, HR, HB⟩ := hrel
    have sB := HB.out.size
    by_cases hlt : k < cs.length
    · obtain ⟨b, o, rfl, hat⟩ := HC.out.at (by omega)
      obtain ⟨x, hx⟩ : ∃ x, cs[k]? = some x := ⟨cs[k], List.getElem?_eq_getElem hlt⟩
      have hst := best_step (r := rankP kind c s) hx b0 r
      rw [HR.out] at hst
      obtain ⟨g0, k0, vb, k1, hnb⟩ := hat k x hx
      obtain ⟨A2, c2, rfl, _, _, _⟩ := hnb.form
      generalize x.2.length = n2 at k1
      have i0 : (0 : Int) ≤ (k : Int) := by omega
      have i1 : (k : Int) < (cs.length : Int) := by omega
      have i2 : (k : Int) ≤ (cc : Int) := by omega
      have e1 : IntKind.i64.wrap ((k : Int) + 1) = (k : Int) + 1 := IntWalk.i64_in _ (by omega)
      have hBw := HB2.out.trans (HB.out.mono s2)
      replace k0 := carry hBw k0
      replace k1 := carry hBw k1
      have HST := Lib.hid hst
      have HEX := Lib.hid (msg_Exact x.1 (wr.alloc (.cells #[.string x.1, .slice A2 n2 c2] 246)) (HE.out.below (hBw.alloc (by omega) _)) (by omega))
      have HBS : Hid (Below w2.heap.size w2 (wr.alloc (.cells #[.string x.1, .slice A2 n2 c2] 246))) := Lib.hid (HB.out.alloc sB _)
      clear hst hat hx hnb hBw
      obtain ⟨x1, x2⟩ := x
      simp only at *
      have hrk : rankP kind c s x1 = if 0 ≤ exC x1.data.toList ∧ c * ten 0 = exC x1.data.toList * ten s.toNat then 3 else if x1.toList == kind.toList then 2 else if x1.toList == otherS.toList then 1 else 0 := rfl
      have HXO := Lib.hid (fun h => exC_ok (l := x1.data.toList) h)
      have HXM := exC_le x1.data.toList
      have HRK0 := Lib.hid hrk
      clear hrk
      generalize exC x1.data.toList = X at *
      go_wp2_with fail
      refine HEX.out.mono ?_
      rintro e w3 ⟨rfl, hb3⟩
      have HBC : Hid (Below w2.heap.size w2 w3) := Lib.hid (bel_call HBS.out hb3 (by simp; omega))
      have u0 : w3.cell? ⟨wr.heap.size, 0, none⟩ = some (.string x1) := carry hb3 (by go_simp)
      have v0 := lt_of_cell u0
      have z0 := carry HBC.out Z0.out
      have z1 := carry HBC.out Z1.out
      clear hb3 HEX HBS k0 k1
      by_cases hex : 0 ≤ X
      · have hd : decide (0 ≤ X) = true := decide_eq_true hex
        have HSM := Lib.hid (fun W => dec_same c s X 0 W HOK.out (HXO.out hex))
        rw [show ((0 : Int)).toNat = 0 from rfl] at HSM
        rcases Bool.eq_false_or_eq_true (decide (c * ten 0 = X * ten s.toNat)) with hsm | hsm
        · have HRK : Hid (rankP kind c s x1 = 3) := Lib.hid (HRK0.out.trans (if_pos ⟨hex, of_decide_eq_true hsm⟩))
          rw [hsm] at HSM
          clear HRK0 HXO hsm
          go_wp2_with fail
          refine (HSM.out _).mono ?_
          rintro e w4 ⟨rfl, hb4⟩
          have HBC4 : Hid (Below w2.heap.size w2 w4) := Lib.hid (bel_call HBC.out hb4 HBC.out.size)
          clear HBC hb4 HSM u0 z0 z1 v0
          have HBC := HBC4
          clear HBC4
          by_cases hgt : r < 3
          · have HN2 : Hid (bestGo (rankP kind c s) (k + 1) k 3 (cs.drop (k + 1)) = R) := Lib.hid (by have := HST.out; rw [HRK.out, if_pos hgt] at this; exact this.symm)
            clear HST HRK
            go_wp2_with fail
            go_roundw
            case rel => exact ⟨k + 1, k, 3, by omega, by go_num, rfl, rfl, by omega, by omega, HN2, HBC⟩
            case measure => simp [intOf]; omega
          · have HN2 : Hid (bestGo (rankP kind c s) (k + 1) b0 r (cs.drop (k + 1)) = R) := Lib.hid (by have := HST.out; rw [HRK.out, if_neg hgt] at this; exact this.symm)
            clear HST HRK
            go_wp2_with fail
            go_roundw
            case rel => exact ⟨k + 1, b0, r, by omega, by go_num, rfl, rfl, by omega, by omega, HN2, HBC⟩
            case measure => simp [intOf]; omega
        · have HRK1 : Hid (rankP kind c s x1 = if x1.toList == kind.toList then 2 else if x1.toList == otherS.toList then 1 else 0) := Lib.hid (HRK0.out.trans (if_neg (fun h => of_decide_eq_false hsm h.2)))
          rw [hsm] at HSM
          clear HRK0 HXO hsm
          go_wp2_with fail
          refine (HSM.out _).mono ?_
          rintro e w4 ⟨rfl, hb4⟩
          have HBC4 : Hid (Below w2.heap.size w2 w4) := Lib.hid (bel_call HBC.out hb4 HBC.out.size)
          have u4 := carry hb4 u0
          have v4 := lt_of_cell u4
          clear HBC hb4 HSM u0 z0 z1 v0
          have HBC := HBC4
          clear HBC4
          rcases Bool.eq_false_or_eq_true (x1.toList == kind.toList) with hkk | hkk
          · have HRK : Hid (rankP kind c s x1 = 2) := Lib.hid (HRK1.out.trans (if_pos hkk))
            clear HRK1
            by_cases hgt : r < 2
            · have HN2 : Hid (bestGo (rankP kind c s) (k + 1) k 2 (cs.drop (k + 1)) = R) := Lib.hid (by have := HST.out; rw [HRK.out, if_pos hgt] at this; exact this.symm)
              clear HST HRK
              go_wp2_with fail
              go_roundw
              case rel => exact ⟨k + 1, k, 2, by omega, by go_num, rfl, rfl, by omega, by omega, HN2, HBC⟩
              case measure => simp [intOf]; omega
            · have HN2 : Hid (bestGo (rankP kind c s) (k + 1) b0 r (cs.drop (k + 1)) = R) := Lib.hid (by have := HST.out; rw [HRK.out, if_neg hgt] at this; exact this.symm)
              clear HST HRK
              go_wp2_with fail
              go_roundw
              case rel => exact ⟨k + 1, b0, r, by omega, by go_num, rfl, rfl, by omega, by omega, HN2, HBC⟩
              case measure => simp [intOf]; omega
          · have HRK2 : Hid (rankP kind c s x1 = if x1.toList == otherS.toList then 1 else 0) := Lib.hid (HRK1.out.trans (by rw [hkk]; exact if_neg (by decide)))
            clear HRK1
            rcases Bool.eq_false_or_eq_true (x1.toList == [111, 116, 104, 101, 114]) with hoo | hoo
            · have HRK : Hid (rankP kind c s x1 = 1) := Lib.hid (HRK2.out.trans (by rw [other_list, hoo]; exact if_pos rfl))
              clear HRK2
              by_cases hgt : r < 1
              · have HN2 : Hid (bestGo (rankP kind c s) (k + 1) k 1 (cs.drop (k + 1)) = R) := Lib.hid (by have := HST.out; rw [HRK.out, if_pos hgt] at this; exact this.symm)
                clear HST HRK
                go_wp2_with fail
                go_roundw
                case rel => exact ⟨k + 1, k, 1, by omega, by go_num, rfl, rfl, by omega, by omega, HN2, HBC⟩
                case measure => simp [intOf]; omega
              · have HN2 : Hid (bestGo (rankP kind c s) (k + 1) b0 r (cs.drop (k + 1)) = R) := Lib.hid (by have := HST.out; rw [HRK.out, if_neg hgt] at this; exact this.symm)
                clear HST HRK
                go_wp2_with fail
                go_roundw
                case rel => exact ⟨k + 1, b0, r, by omega, by go_num, rfl, rfl, by omega, by omega, HN2, HBC⟩
                case measure => simp [intOf]; omega
            · have HRK : Hid (rankP kind c s x1 = 0) := Lib.hid (HRK2.out.trans (by rw [other_list, hoo]; exact if_neg (by decide)))
              clear HRK2
              have hgt : ¬ r < 0 := by omega
              have HN2 : Hid (bestGo (rankP kind c s) (k + 1) b0 r (cs.drop (k + 1)) = R) := Lib.hid (by have := HST.out; rw [HRK.out, if_neg hgt] at this; exact this.symm)
              clear HST HRK
              go_wp2_with fail
              go_roundw
              case rel => exact ⟨k + 1, b0, r, by omega, by go_num, rfl, rfl, by omega, by omega, HN2, HBC⟩
              case measure => simp [intOf]; omega
      · have hd : decide (0 ≤ X) = false := decide_eq_false hex
        have HRK1 : Hid (rankP kind c s x1 = if x1.toList == kind.toList then 2 else if x1.toList == otherS.toList then 1 else 0) := Lib.hid (HRK0.out.trans (if_neg (fun h => hex h.1)))
        clear HRK0 HXO z0 z1
        rcases Bool.eq_false_or_eq_true (x1.toList == kind.toList) with hkk | hkk
        · have HRK : Hid (rankP kind c s x1 = 2) := Lib.hid (HRK1.out.trans (if_pos hkk))
          clear HRK1
          by_cases hgt : r < 2
          · have HN2 : Hid (bestGo (rankP kind c s) (k + 1) k 2 (cs.drop (k + 1)) = R) := Lib.hid (by have := HST.out; rw [HRK.out, if_pos hgt] at this; exact this.symm)
            clear HST HRK
            go_wp2_with fail
            go_roundw
            case rel => exact ⟨k + 1, k, 2, by omega, by go_num, rfl, rfl, by omega, by omega, HN2, HBC⟩
            case measure => simp [intOf]; omega
          · have HN2 : Hid (bestGo (rankP kind c s) (k + 1) b0 r (cs.drop (k + 1)) = R) := Lib.hid (by have := HST.out; rw [HRK.out, if_neg hgt] at this; exact this.symm)
            clear HST HRK
            go_wp2_with fail
            go_roundw
            case rel => exact ⟨k + 1, b0, r, by omega, by go_num, rfl, rfl, by omega, by omega, HN2, HBC⟩
            case measure => simp [intOf]; omega
        · have HRK2 : Hid (rankP kind c s x1 = if x1.toList == otherS.toList then 1 else 0) := Lib.hid (HRK1.out.trans (by rw [hkk]; exact if_neg (by decide)))
          clear HRK1
          rcases Bool.eq_false_or_eq_true (x1.toList == [111, 116, 104, 101, 114]) with hoo | hoo
          · have HRK : Hid (rankP kind c s x1 = 1) := Lib.hid (HRK2.out.trans (by rw [other_list, hoo]; exact if_pos rfl))
            clear HRK2
            by_cases hgt : r < 1
            · have HN2 : Hid (bestGo (rankP kind c s) (k + 1) k 1 (cs.drop (k + 1)) = R) := Lib.hid (by have := HST.out; rw [HRK.out, if_pos hgt] at this; exact this.symm)
              clear HST HRK
              go_wp2_with fail
              go_roundw
              case rel => exact ⟨k + 1, k, 1, by omega, by go_num, rfl, rfl, by omega, by omega, HN2, HBC⟩
              case measure => simp [intOf]; omega
            · have HN2 : Hid (bestGo (rankP kind c s) (k + 1) b0 r (cs.drop (k + 1)) = R) := Lib.hid (by have := HST.out; rw [HRK.out, if_neg hgt] at this; exact this.symm)
              clear HST HRK
              go_wp2_with fail
              go_roundw
              case rel => exact ⟨k + 1, b0, r, by omega, by go_num, rfl, rfl, by omega, by omega, HN2, HBC⟩
              case measure => simp [intOf]; omega
          · have HRK : Hid (rankP kind c s x1 = 0) := Lib.hid (HRK2.out.trans (by rw [other_list, hoo]; exact if_neg (by decide)))
            clear HRK2
            have hgt : ¬ r < 0 := by omega
            have HN2 : Hid (bestGo (rankP kind c s) (k + 1) b0 r (cs.drop (k + 1)) = R) := Lib.hid (by have := HST.out; rw [HRK.out, if_neg hgt] at this; exact this.symm)
            clear HST HRK
            go_wp2_with fail
            go_roundw
            case rel => exact ⟨k + 1, b0, r, by omega, by go_num, rfl, rfl, by omega, by omega, HN2, HBC⟩
            case measure => simp [intOf]; omega
    · obtain rfl : k = cs.length := by omega
      have hR : R = b0 := by
        have := HR.out
        rw [List.drop_of_length_le (Nat.le_refl _), bestGo] at this
        exact this.symm
      have HR2 := Lib.hid hR
      have l0 := carry HB.out L0.out
      have l1 := carry HB.out L1.out
      have r0 := carry HB.out R0.out
      have r1 := carry HB.out R1.out
      have f0 := carryF HB.out (by omega) F0.out
      have f1 := carryF HB.out (by omega) F1.out
      clear hR
      go_wp2_with fail
      go_region
      all_goals (go_wp2_with fail)
      all_goals (rw [HR2.out]; exact bodyPost_ret (v := .tuple #[.int .i64 b0, decV l s, .nilIface]) (by simp [results, Tryz.results113, go_sem, r0, r1, f0, f1, l0, l1]) rfl ⟨rfl, by first | exact ((HB2.out.trans (HB.out.mono s2)).setCell (by simp; omega) _).setCell (by simp; omega) _ | exact bel_drewN _ (((HB2.out.trans (HB.out.mono s2)).setCell (by simp; omega) _).setCell (by simp; omega) _) | exact ((bel_drewN _ (HB2.out.trans (HB.out.mono s2))).setCell (by simp; omega) _).setCell (by simp; omega) _⟩)

theorem eval_case_no (S : SetC) (kd off : Int) (t : ByteArray) (A : Option Addr) (len cc : Nat) (c s : Int) (w : World) (ho : 0 ≤ off ∧ off ≤ 9) (hl : ¬ (lessP c s off).1 = 0) :
    Calls Tryz.prog 113 #[.agg #[.int .i64 kd, .string t, .int .i64 off, .slice A len cc], setV S.s0 S.s1 S.s2 S.s3 S.s4, decV c s] w fun e w' => e = .returned (.tuple #[.int .i64 0, decV 0 0, errV (lessP c s off).1]) ∧ Below w.heap.size w w' := by
  have he : lessP c s off = (1, 0, 0) := by
    unfold lessP at hl ⊢
    split
    · rename_i h
      rw [if_pos h] at hl
      exact absurd rfl hl
    · rfl
  have KA := Lib.hid (fun W => add_less c s off W ho)
  rw [he] at KA ⊢
  simp only at KA ⊢
  have E0 : Hid (errOf 1 = errV 1) := Lib.hid rfl
  rw [E0.out] at KA
  have e0 : IntKind.i64.wrap (-off) = -off := IntWalk.i64_in _ (by omega)
  clear he hl E0
  obtain ⟨S0, S1, S2, S3, S4⟩ := S
  simp only
  go_enter Tryz.func113, Tryz.ntmps113
  go_wp2_with fail
  refine (KA.out _).mono ?_
  rintro e w1 ⟨rfl, hb1⟩
  have r0 : w1.cell? ⟨w.heap.size + 3, 0, none⟩ = some (.int .i64 0) := carry hb1 (by go_simp)
  have r1 : w1.cell? ⟨w.heap.size + 3, 1, none⟩ = some (.int .i64 0) := carry hb1 (by go_simp)
  have f0 : w1.frozen? ⟨w.heap.size + 3, 0, none⟩ = false := carryF hb1 (by simp) (by go_simp)
  have f1 : w1.frozen? ⟨w.heap.size + 3, 1, none⟩ = false := carryF hb1 (by simp) (by go_simp)
  have HB1 : Hid (Below w.heap.size w w1) := Lib.hid belx
  have q1 := lt_of_cell r0
  clear hb1
  go_wp2_with fail
  exact bodyPost_ret (v := .tuple #[.int .i64 0, decV 0 0, errV 1]) (by simp [results, Tryz.results113, go_sem, r0, r1, f0, f1, q1]) rfl ⟨rfl, by first | exact ((HB1.out.alloc HB1.out.size _).setCell (by simp; omega) _).setCell (by simp; omega) _ | exact ((HB1.out.setCell (by simp; omega) _).setCell (by simp; omega) _).alloc (by have := HB1.out.size; simp; omega) _⟩
end Go.Proofs.YtplaohmdllindaaGreatDoor

/- eval's speaker: number; what 'one' leans on. -/
namespace Go.Proofs.YtplaohmdllindaaGreatDoor
open Go.RowKit Go.Maps

/-- what has been said: a speaker at b, the args' map at mb -/
def SayW (V W0 w : World) (b mb n : Nat) (S : SetC) (l : HL) (T : ByteArray) : Prop :=
  Spk w W0.heap.size b mb S (Lib.strCells T) ∧ HMap w mb n l ∧ Below W0.heap.size W0 w ∧ W0.heap.size ≤ mb ∧ Lib.OthersKept 5 (some b) V w
section
variable {V W0 w w' : World} {b mb n : Nat} {S : SetC} {l : HL} {T : ByteArray}
theorem others_below {e : TypeId} {b : Option Nat} (hb : Below w.heap.size w w') : Lib.OthersKept e b w w' := fun k o hk _ _ => (hb.block k (Array.getElem?_eq_some_iff.1 hk).1).trans hk
theorem SayW.below (h : SayW V W0 w b mb n S l T) (hb : Below w.heap.size w w') : SayW V W0 w' b mb n S l T :=
  ⟨h.1.below hb, h.2.1.below hb, h.2.2.1.trans (hb.mono h.2.2.1.size), h.2.2.2.1, h.2.2.2.2.trans (others_below hb)⟩
/-- from another world on -/
theorem SayW.from (h : SayW V W0 w b mb n S l T) (V' : World) (k : Lib.OthersKept 5 (some b) V' w) : SayW V' W0 w b mb n S l T := ⟨h.1, h.2.1, h.2.2.1, h.2.2.2.1, k⟩
theorem strCells_app (a b : ByteArray) : Lib.strCells a ++ Lib.strCells b = Lib.strCells (a ++ b) := by
  rw [Lib.strCells_eq, Lib.strCells_eq, Lib.strCells_eq, ← Lib.byteCells_append]
  congr 1
/-- WriteString of a speaker -/
theorem say_write (s : ByteArray) (h : SayW V W0 w b mb n S l T) (hlen : T.size + s.size ≤ 140737488355328) :
    Calls Tryz.prog 83 #[.pointer (some ⟨b, 6, none⟩), .string s] w fun e w' => e = .returned (.tuple #[.int .i64 s.size, .nilIface]) ∧ SayW V W0 w' b mb n S l (T ++ s) := by
  refine (spk_write s h.1 (by rw [Lib.strCells_length]; exact hlen) h.2.2.1.size).mono ?_
  rintro e w' ⟨rfl, h1, h2, h3, h4⟩
  rw [strCells_app] at h1
  exact ⟨rfl, h1, h.2.1.kept h3, h.2.2.1.trans h2, h.2.2.2.1, h.2.2.2.2.trans h4⟩

theorem say_number (c s : Int) (h : SayW V W0 w b mb n S l T) (hlen : T.size + 200 ≤ 140737488355328) (hE : RuleEnv w) (hL : NumLaid w) :
    Calls Tryz.prog 141 #[.pointer (some ⟨b, 0, none⟩), decV c s] w fun e w' => e = .returned (errOf (numP c s).1) ∧ SayW V W0 w' b mb n S l (T ++ (numP c s).2) := by
  have hsz : (numP c s).2.size ≤ 200 := by
    unfold numP
    split
    · rename_i hd
      have := numT_size c s.toNat (by have h0 := hd.1; rw [show ((s.toNat : Nat) : Int) = s by omega]; exact hd)
      exact this
    · exact Nat.zero_le _
  have KN := Lib.hid (fun W (hb : Below w.heap.size w W) => numeral c s W (hE.below hb).maxl (hE.below hb).pow (hL.below hb))
  have HS := Lib.hid h
  have hlt := h.1.lt
  clear h hE hL
  generalize (numP c s).2 = N at *
  generalize errOf (numP c s).1 = E at *
  go_enter Tryz.func141, Tryz.ntmps141
  go_wp2_with fail
  refine (KN.out _ ((Below.refl _ _).alloc (Nat.le_refl _) _)).mono ?_
  rintro e w1 ⟨rfl, hb1⟩
  have hbA : Below w.heap.size w w1 := belx
  have HS1 := Lib.hid (HS.out.below hbA)
  have KW := Lib.hid (say_write N HS1.out (by omega))
  have s1 := hbA.size
  have hlt1 : b < w1.heap.size := by omega
  clear hb1 hbA
  go_wp2_with fail
  refine KW.out.mono ?_
  rintro e w2 ⟨rfl, h2⟩
  go_wp2_with fail
  go_ret
  exact ⟨rfl, h2⟩
end

def argV (a : ArgC) : Value := .agg #[.string a.name, .bool a.isNum, .int .i64 a.coef, .int .i64 a.scale, .string a.text]
def argsH (ags : List ArgC) : HL := ags.map fun a => (nmA a, argV a)
theorem cell_two {w : World} {b o k i j : Nat} {v u x : Value} (h : w.cell? ⟨b, o, none⟩ = some x) (hne : b ≠ k) : ((w.setCell ⟨k, i, none⟩ v).setCell ⟨k, j, none⟩ u).cell? ⟨b, o, none⟩ = some x :=
  cell_other (cell_other h (fun e => hne (by injection e with e; exact e.symm))) (fun e => hne (by injection e with e; exact e.symm))
theorem cell_alc {w : World} {b o : Nat} {x : Value} {O : Obj} (h : w.cell? ⟨b, o, none⟩ = some x) : (w.alloc O).cell? ⟨b, o, none⟩ = some x := carry ((Below.refl w.heap.size w).alloc (Nat.le_refl _) O) h
theorem app_nil (T : ByteArray) : T ++ (⟨#[]⟩ : ByteArray) = T := by
  apply ByteArray.ext
  apply Array.ext'
  simp
theorem zero_arg (w : World) : (zeroValue 38).run Tryz.prog w = .ok (argV noArg) w := by kernel_rfl
theorem args_keys (ags : List ArgC) : (argsH ags).map (·.1) = ags.map nmA := by unfold argsH; rw [List.map_map]; rfl
theorem look_arg {W : World} {mb n : Nat} {ags : List ArgC} (hn : (ags.map nmA).Nodup) (h : HMap W mb n (argsH ags)) (t : ByteArray) (ht : t.size ≤ maxLen) :
    (Instr.lookup 91 (.map (some mb)) (.string t) false).run Tryz.prog W = .ok (argV (lookA ags t)) W := by
  unfold lookA
  cases hf : ags.find? (hasA t) with
  | none => exact hm_none1 h Tryz.underlying91 (zero_arg _) ht (by unfold argsH; rw [hlook_map, hf]; rfl)
  | some a => exact hm_some1 h Tryz.underlying91 (zero_arg _) ht (by rw [args_keys]; exact hn) (by unfold argsH; rw [hlook_map, hf]; rfl)

end Go.Proofs.YtplaohmdllindaaGreatDoor

/- eval's one of a node without cases. -/
namespace Go.Proofs.YtplaohmdllindaaGreatDoor
open Go.RowKit Go.Maps

set_option maxHeartbeats 8000000 in
set_option maxRecDepth 100000 in
theorem say_plain (V W0 : World) (b mb n : Nat) (S : SetC) (hS : S.ok = true) (hs : S.small) (ags : List ArgC) (hn : (ags.map nmA).Nodup) (hv : ∀ t, (lookA ags t).isNum = true → decOk (lookA ags t).coef (lookA ags t).scale) (f : Nat)
    (hE : RuleEnv W0) (hK : KindsAt W0) (hL : NumLaid W0) (kd off : Int) (t : ByteArray) (A : Option Addr) (cs : List (ByteArray × List Nd)) (cc : Nat) (mc sc : Int) (m : Bool) (hC : CasesN (NodesIn f W0) W0 (.slice A cs.length cc) cs) (hts : t.size ≤ 140737488355328)
    (g : List Nd → Bool → Int) (q : Option Int) (hok : nodeP g q (.mk kd t off cs) m = 0) (T : ByteArray) (w : World) (h : SayW V W0 w b mb n S (argsH ags) T) (hlen : T.size + 200 + (oneP S (lookA ags) (sayP S (lookA ags) f) mc sc (.mk kd t off cs)).2.size ≤ 140737488355328) (hkd : kd ≠ 4 ∧ kd ≠ 5)
    (ih : ∀ (v : Value) (c : ByteArray × List Nd) (a d : Int) (w : World), c ∈ cs → kd = 4 ∨ kd = 5 → NodesIn f W0 v c.2 → SayW V W0 w b mb n S (argsH ags) T → T.size + 200 + (sayP S (lookA ags) f c.2 a d).2.size ≤ 140737488355328 →
      Calls Tryz.prog 29 #[.pointer (some ⟨b, 0, none⟩), v, decV a d] w fun e w' => e = .returned (errOf (sayP S (lookA ags) f c.2 a d).1) ∧ SayW V W0 w' b mb n S (argsH ags) (T ++ (sayP S (lookA ags) f c.2 a d).2)) :
    Calls Tryz.prog 74 #[.pointer (some ⟨b, 0, none⟩), .agg #[.int .i64 kd, .string t, .int .i64 off, .slice A cs.length cc], decV mc sc] w fun e w' =>
      e = .returned (errOf (oneP S (lookA ags) (sayP S (lookA ags) f) mc sc (.mk kd t off cs)).1) ∧ SayW V W0 w' b mb n S (argsH ags) (T ++ (oneP S (lookA ags) (sayP S (lookA ags) f) mc sc (.mk kd t off cs)).2) := by
  have HKD := Lib.hid hkd
  clear hkd
  obtain ⟨h1, h2, h3⟩ := nodeP_zero hok
  simp only [Nd.kd, Nd.off, Nd.cs] at h1 h2 h3
  have hw1 : Below w.heap.size w ((w.alloc (.cells #[.int .i64 kd, .string t, .int .i64 off, .slice A cs.length cc] 51)).alloc (.cells #[.int .i64 mc, .int .i64 sc] 23)).drew := belx
  have hw2 : Below w.heap.size w (((w.alloc (.cells #[.int .i64 kd, .string t, .int .i64 off, .slice A cs.length cc] 51)).alloc (.cells #[.int .i64 mc, .int .i64 sc] 23)).alloc (.cells #[.string ⟨#[]⟩, .bool false, .int .i64 0, .int .i64 0, .string ⟨#[]⟩] 38)).drew := belx
  have m5 := (h.below hw1).1.cells.2.2.2.2.2
  have n5 := (h.below hw2).1.cells.2.2.2.2.2
  have hlk1 := look_arg hn (h.below hw1).2.1 t (by unfold maxLen; omega)
  have hlk2 := look_arg hn (h.below hw2).2.1 t (by unfold maxLen; omega)
  unfold argV at hlk1 hlk2
  have HS := Lib.hid h
  have hlt := h.1.lt
  have hva := hv t
  have HO : Hid (oneP S (lookA ags) (sayP S (lookA ags) f) mc sc (.mk kd t off cs) = if kd = 1 then (0, t) else if kd = 6 then numP mc sc else if kd = 3 then numP (lookA ags t).coef (lookA ags t).scale
      else if kd = 4 then (if (lessP (lookA ags t).coef (lookA ags t).scale off).1 = 0 then sayP S (lookA ags) f (bodyAt cs (bestP S (lookA ags t).coef (lookA ags t).scale (lessP (lookA ags t).coef (lookA ags t).scale off) cs)) (lessP (lookA ags t).coef (lookA ags t).scale off).2.1 (lessP (lookA ags t).coef (lookA ags t).scale off).2.2 else ((lessP (lookA ags t).coef (lookA ags t).scale off).1, ⟨#[]⟩))
      else if kd = 5 then sayP S (lookA ags) f (bodyAt cs (choiceGo (lookA ags t).text 0 0 cs)) mc sc else (0, showT (lookA ags t))) := Lib.hid rfl
  have HE := Lib.hid hE
  have HK := Lib.hid hK
  have HL := Lib.hid hL
  have HC := Lib.hid hC
  have HI := Lib.hid ih
  have H2 := Lib.hid h2
  have H3 := Lib.hid h3
  clear ih h hE hK hL hC hn hv hok h2 h3 hw1 hw2
  generalize oneP S (lookA ags) (sayP S (lookA ags) f) mc sc (.mk kd t off cs) = R at *
  generalize lookA ags t = a at *
  generalize sayP S (lookA ags) f = G at *
  generalize argsH ags = l at *
  obtain ⟨an, ai, ac, as', at'⟩ := a
  simp only at HO hva hlk1 hlk2
  go_enter Tryz.func74, Tryz.ntmps74
  go_upto_region 1 with fail
  go_cut [7] (fun p7 wx => p7 = .pointer (some ⟨w.heap.size + 2, 0, none⟩) ∧ wx = (((w.alloc (.cells #[.int .i64 kd, .string t, .int .i64 off, .slice A cs.length cc] 51)).alloc (.cells #[.int .i64 mc, .int .i64 sc] 23)).alloc (.cells #[.string an, .bool ai, .int .i64 ac, .int .i64 as', .string at'] 38)).drew)
  case first =>
    go_region
    all_goals (go_wp2_with fail; go_meet; exact ⟨rfl, rfl⟩)
  case rest =>
    obtain ⟨rfl, hw3⟩ := hcut
    clear hlk1 hlk2 m5 n5
    obtain ⟨w3, rfl⟩ : ∃ w3, w3 = wc := ⟨_, rfl⟩
    have hb3 : Below w.heap.size w w3 := by rw [hw3]; exact belx
    have HS3 := Lib.hid (HS.out.below hb3)
    have n0 : w3.cell? ⟨w.heap.size, 0, none⟩ = some (.int .i64 kd) := by rw [hw3]; go_simp
    have n1 : w3.cell? ⟨w.heap.size, 1, none⟩ = some (.string t) := by rw [hw3]; go_simp
    have n2 : w3.cell? ⟨w.heap.size, 2, none⟩ = some (.int .i64 off) := by rw [hw3]; go_simp
    have n3 : w3.cell? ⟨w.heap.size, 3, none⟩ = some (.slice A cs.length cc) := by rw [hw3]; go_simp
    have d0 : w3.cell? ⟨w.heap.size + 1, 0, none⟩ = some (.int .i64 mc) := by rw [hw3]; go_simp
    have d1 : w3.cell? ⟨w.heap.size + 1, 1, none⟩ = some (.int .i64 sc) := by rw [hw3]; go_simp
    have a1 : w3.cell? ⟨w.heap.size + 2, 1, none⟩ = some (.bool ai) := by rw [hw3]; go_simp
    have a2 : w3.cell? ⟨w.heap.size + 2, 2, none⟩ = some (.int .i64 ac) := by rw [hw3]; go_simp
    have a3 : w3.cell? ⟨w.heap.size + 2, 3, none⟩ = some (.int .i64 as') := by rw [hw3]; go_simp
    have a4 : w3.cell? ⟨w.heap.size + 2, 4, none⟩ = some (.string at') := by rw [hw3]; go_simp
    have f4 : w3.frozen? ⟨w.heap.size + 2, 4, none⟩ = false := by rw [hw3]; go_simp
    have s3 : w.heap.size + 3 = w3.heap.size := by rw [hw3]; simp
    have s0 : b < w3.heap.size := by omega
    have HB03 := Lib.hid hb3
    clear hw3 hb3
    have HB3 := Lib.hid HS3.out.2.2.1
    have hs0 := HB3.out.size
    rcases h1 with rfl | rfl | rfl | rfl | rfl | ⟨rfl, _⟩
    · obtain rfl : R = (0, t) := HO.out
      have K := Lib.hid (say_write t (HS3.out.below (Below.drew (Below.refl _ _))) (by simp only at hlen; omega))
      have E0 : Hid (errOf 0 = .nilIface) := Lib.hid rfl
      clear HO HI H2 H3
      go_wp2_with fail
      go_region_with (go_at_call 83; refine K.out.mono ?_; rintro e w4 ⟨rfl, h4⟩)
      all_goals
        go_wp2_with fail
        go_ret
        rw [E0.out]
        exact ⟨rfl, h4⟩
    · obtain rfl : R = (0, showT ⟨an, ai, ac, as', at'⟩) := HO.out
      have E0 : Hid (errOf 0 = .nilIface) := Lib.hid rfl
      clear HO HI H2 H3
      cases ai
      · have K := Lib.hid (say_write at' (HS3.out.below (Below.drew (Below.refl _ _))) (by have e : (showT ⟨an, false, ac, as', at'⟩) = at' := rfl; rw [e] at hlen; simp only at hlen; omega))
        go_wp2_with fail
        go_region_with (go_at_call 83; refine K.out.mono ?_; rintro e w4 ⟨rfl, h4⟩)
        all_goals
          go_wp2_with fail
          go_ret
          rw [E0.out]
          exact ⟨rfl, h4⟩
      · have hd := hva rfl
        have hso : ((as'.toNat : Nat) : Int) = as' := by have := hd.1; omega
        have KT := Lib.hid (dec_text ac as'.toNat w3 (HE.out.below HB3.out).pow (by rw [hso]; exact hd))
        rw [hso] at KT
        have hsz := decT_size ac as'.toNat (by rw [hso]; exact hd)
        have hsh : showT ⟨an, true, ac, as', at'⟩ = decT ac as'.toNat := rfl
        rw [hsh] at hlen
        have KT2 := Lib.hid KT
        clear KT
        go_wp2_with fail
        refine KT2.out.mono ?_
        rintro e w4 ⟨rfl, hb4⟩
        have b1 := carry hb4 a1
        have b4 := carry hb4 a4
        have g4 := carryF hb4 (by omega) f4
        have s4 := hb4.size
        have hbT : Below w.heap.size w (w4.setCell ⟨w.heap.size + 2, 4, none⟩ (.string (decT ac as'.toNat))).drew := ((HB03.out.trans (hb4.mono (by omega))).setCell (by simp) _).drew
        have K := Lib.hid (say_write (decT ac as'.toNat) (HS.out.below hbT) (by first | omega | (simp only at hlen; omega)))
        have s5 : b < (w4.setCell ⟨w.heap.size + 2, 4, none⟩ (.string (decT ac as'.toNat))).drew.heap.size := by simp; omega
        have HSH := Lib.hid hsh
        clear hb4 hbT hsh
        go_wp2_with fail
        go_region_with (go_at_call 83; refine K.out.mono ?_; rintro e w4 ⟨rfl, h4⟩)
        all_goals
          go_wp2_with fail
          go_ret
          rw [E0.out, HSH.out]
          exact ⟨rfl, h4⟩
    · obtain rfl : R = numP ac as' := HO.out
      have K := Lib.hid (say_number ac as' HS3.out (by omega) (HE.out.below HB3.out) (HL.out.below HB3.out))
      clear HO HI H2 H3
      go_wp2_with fail
      refine K.out.mono ?_
      rintro e w4 ⟨rfl, h4⟩
      go_wp2_with fail
      go_ret
      exact ⟨rfl, h4⟩
    · exact absurd HKD.out (by decide)
    · exact absurd HKD.out (by decide)
    · obtain rfl : R = numP mc sc := HO.out
      have K := Lib.hid (say_number mc sc HS3.out (by omega) (HE.out.below HB3.out) (HL.out.below HB3.out))
      clear HO HI H2 H3
      go_wp2_with fail
      refine K.out.mono ?_
      rintro e w4 ⟨rfl, h4⟩
      go_wp2_with fail
      go_ret
      exact ⟨rfl, h4⟩
end Go.Proofs.YtplaohmdllindaaGreatDoor

/- code.Say of one text. -/
namespace Go.Proofs.YtplaohmdllindaaGreatDoor
open Go.RowKit Go.Maps

theorem cell_blk {w : World} {b o : Nat} {cur : Array Value} {t : TypeId} {v : Value} (h : w.heap[b]? = some (.cells cur t (0, 0))) (hv : cur[o]? = some v) : w.cell? ⟨b, o, none⟩ = some v := by
  rw [Lib.cell_of_heap h]
  exact hv

set_option maxHeartbeats 16000000 in
set_option maxRecDepth 100000 in
theorem code_say1 (x : SetC) (t lng : ByteArray) (g n1 c1 : Nat) (A2 : Option Addr) (n2 c2 : Nat) (w : World) (hE : RuleEnv w) (hK : MKinds w) (hn : n1 = 1) (hn1 : n1 ≤ c1) (hc1 : c1 ≤ 9223372036854775807) (hS : StepAt w g 0 (Nd.mk 1 t 0 [])) (hN : NodesIn 1 w (.slice A2 n2 c2) [Nd.mk 1 t 0 []])
    (hl : lng.size ≤ maxLen) (hk : langOf lng.data.toList = some x) (ht : t.size ≤ 1000000) (hf : fitsP 1 [Nd.mk 1 t 0 []] [] = 0) :
    Calls Tryz.prog 56 #[.agg #[.slice (some ⟨g, 0, none⟩) n1 c1, .slice A2 n2 c2], .string lng, .slice none 0 0] w fun e w' => e = .returned (.tuple #[.string t, .nilIface]) ∧ Below w.heap.size w w' := by
  have hmm := @run_makeMap Tryz.prog
  have KF : Hid (∀ W, Below w.heap.size w W → Calls Tryz.prog 28 #[.slice A2 n2 c2, .slice none 0 0] W fun e w' => e = .returned .nilIface ∧ Below W.heap.size W w') := Lib.hid (fun W hb => by
    have h := names_fits 1 (.slice A2 n2 c2) [Nd.mk 1 t 0 []] none 0 [] W (hE.below hb) (hK.below hb) (NodesIn.below hb 1 hN) (.inl rfl) (Nat.le_refl _) (by omega) (by simp) (fun a ha => absurd ha (by simp))
    rw [hf] at h
    exact h)
  have KL := Lib.hid (fun W => lang_known lng x W hl hk)
  have HS := Lib.hid hS
  have HN1 : Hid (n1 = 1) := Lib.hid hn
  have i0 : (0 : Int) < (n1 : Int) := by omega
  have i1 : (0 : Int) ≤ (c1 : Int) := by omega
  have i2 : (n1 : Int) ≤ (c1 : Int) := by omega
  have q0 : ((0 : Int) == (n1 : Int)) = false := by rw [beq_eq_false_iff_ne]; omega
  have q1 : ((1 : Int) == (n1 : Int)) = true := by rw [beq_iff_eq]; omega
  have e1 : IntKind.i64.wrap ((0 : Int) + 1) = 1 := by decide
  have e2 : IntKind.i64.wrap ((1 : Int) - 1) = 0 := by decide
  have HTZ := Lib.hid ht
  clear hE hK hS hN hl hk ht hf hn
  go_enter Tryz.func56, Tryz.ntmps56
  go_wp2_with fail
  have hb0 : Below w.heap.size w (w.alloc (.cells #[.slice (some ⟨g, 0, none⟩) n1 c1, .slice A2 n2 c2] 131)) := belx
  refine (KF.out _ hb0).mono ?_
  rintro e w1 ⟨rfl, hb1⟩
  have b0 : w1.cell? ⟨w.heap.size, 0, none⟩ = some (.slice (some ⟨g, 0, none⟩) n1 c1) := carry hb1 (by go_simp)
  have HB1 := Lib.hid (hb0.trans (hb1.mono hb0.size))
  have HC1 := Lib.hid b0
  clear hb0 hb1 b0 KF
  go_wp2_with fail
  refine (KL.out _).mono ?_
  rintro e w2 ⟨rfl, hb2⟩
  have HB2 := Lib.hid (HB1.out.trans (hb2.mono HB1.out.size))
  have HC2 := Lib.hid (carry hb2 HC1.out)
  have hs2 : w.heap.size < w2.heap.size := lt_of_cell HC2.out
  clear hb2 KL HB1 HC1
  obtain ⟨w3, hw3⟩ : ∃ w3, w3 = ((w2.alloc (.cells #[.string x.s0, .string x.s1, .string x.s2, .string x.s3, .string x.s4] 26)).alloc (.map #[] 0)) := ⟨_, rfl⟩
  have hb3 : Below w2.heap.size w2 w3 := by rw [hw3]; exact belx
  have hm3 : HMap w3 (w2.heap.size + 1) 0 [] := by
    have h := hm_made (w2.alloc (.cells #[.string x.s0, .string x.s1, .string x.s2, .string x.s3, .string x.s4] 26))
    rw [hw3]
    simpa using h
  have hsz3 : w3.heap.size = w2.heap.size + 2 := by rw [hw3]; simp
  have HB3 := Lib.hid (HB2.out.trans (hb3.mono HB2.out.size))
  have HM3 := Lib.hid hm3
  have HC3 := Lib.hid (carry hb3 HC2.out)
  have HW3 := Lib.hid hw3
  have HZ3 := Lib.hid hsz3
  clear hb3 hm3 hw3 hsz3 HB2 HC2
  go_wp2_with fail
  rw [← HW3.out]
  clear HW3
  go_loopw [42] (fun i wr => i = .int .i64 0 ∧ w3 = wr) (fun _ _ => 0)
  case atStart => exact ⟨rfl, rfl⟩
  case round =>
    obtain ⟨rfl, rfl⟩ := hrel
    have hsz3 := HZ3.out
    obtain ⟨w4, hw4⟩ : ∃ w4, w4 = (w3.alloc (.cells #[.pointer none, .slice none 0 0] 95)) := ⟨_, rfl⟩
    have hB4 : w4.heap[w3.heap.size]? = some (.cells #[.pointer none, .slice none 0 0] 95 (0, 0)) := by rw [hw4]; exact heap_alloc_new w3 _
    have hb4 : Below w3.heap.size w3 w4 := by rw [hw4]; exact belx
    have c4 := carry hb4 HC3.out
    rw [hw4] at c4
    have HB4 := Lib.hid (HB3.out.trans (hb4.mono HB3.out.size))
    have HM4 := Lib.hid (HM3.out.below hb4)
    have HC4 := Lib.hid (carry hb4 HC3.out)
    have hsz4 : w4.heap.size = w3.heap.size + 1 := by rw [hw4]; simp
    have HZ4 := Lib.hid hsz4
    have HW4 := Lib.hid hw4
    have HBU4 := Lib.hid hB4
    clear hw4 hB4 hb4 hsz4
    go_upto_region 15 with fail
    rw [← HW4.out]
    obtain ⟨w5, hw5⟩ : ∃ w5, w5 = w4.alloc (.cells #[.int .i64 n1, .int .i64 0, .int .i64 0, .int .i64 0] 214) := ⟨_, rfl⟩
    have hsz4 := HZ4.out
    have hb5 : Below w4.heap.size w4 w5 := by rw [hw5]; exact belx
    obtain ⟨bb, hbb⟩ : ∃ bb, bb = w2.heap.size + 2 := ⟨_, rfl⟩
    have hfr : w5.heap[bb + 1]? = some (.cells #[.int .i64 n1, .int .i64 0, .int .i64 0, .int .i64 0] 214 (0, 0)) := by
      have h := heap_alloc_new w4 (.cells #[.int .i64 n1, .int .i64 0, .int .i64 0, .int .i64 0] 214)
      rw [hsz4, hsz3, ← hbb, ← hw5] at h
      exact h
    have hbu : w5.heap[bb]? = some (.cells #[.pointer none, .slice none 0 0] 95 (0, 0)) := by
      have h := HBU4.out
      rw [hsz3, ← hbb] at h
      exact (hb5.block bb (by omega)).trans h
    have HFR := Lib.hid hfr
    have HBU := Lib.hid hbu
    have HM5 := Lib.hid (HM4.out.below hb5)
    have HC5 := Lib.hid (carry hb5 HC4.out)
    have HB5 := Lib.hid (HB4.out.trans (hb5.mono HB4.out.size))
    have HZ5 : Hid (w5.heap.size = bb + 2) := Lib.hid (by rw [hw5, World.size_alloc, hsz4, hsz3, hbb])
    rw [← hw5, ← hbb]
    have HBB := Lib.hid hbb
    clear hw5 hb5 hfr hbu hsz3 hsz4 HZ3 HZ4 HB3 HM3 HC3 HB4 HM4 HC4 HW4 HBU4 c4 hbb
    have hbw : w.heap.size < bb := by have := HBB.out; omega
    generalize w2.heap.size + 1 = kb at *
    go_wp2_with fail
    go_loopw [15, 16] (fun st ix wr => st = .slice (some ⟨bb + 1, 0, none⟩) 1 1 ∧ (ix = .int .i64 0 ∧ w5 = wr ∨ ix = .int .i64 1 ∧ Hid (wr.heap[bb + 1]? = some (.cells #[.int .i64 n1, .int .i64 0, .int .i64 0, .int .i64 0] 214 (0, 0))) ∧ Hid (Lib.IsBuilderF 95 5 bb bb (Lib.strCells t) wr) ∧ Hid (Below w.heap.size w wr))) (fun _ ix _ => 2 - (intOf ix).toNat)
    case atStart => exact ⟨rfl, .inl ⟨rfl, rfl⟩⟩
    case round =>
      obtain ⟨rfl, ⟨rfl, rfl⟩ | ⟨rfl, HF, HBu, HB⟩⟩ := hrel
      · have hz5 := HZ5.out
        obtain ⟨A3, n3, c3, A4, n4, c4, m, s0, s1, s2, s3, s4, s5⟩ := HS.out.below HB5.out
        replace s0 : w5.cell? ⟨g, 0, none⟩ = some (.int .i64 1) := s0
        replace s1 : w5.cell? ⟨g, 1, none⟩ = some (.string t) := s1
        replace s2 : w5.cell? ⟨g, 2, none⟩ = some (.int .i64 0) := s2
        replace s3 : w5.cell? ⟨g, 3, none⟩ = some (.slice A3 n3 c3) := s3
        replace s4 : w5.cell? ⟨g, 4, none⟩ = some (.slice A4 n4 c4) := s4
        replace s5 : w5.cell? ⟨g, 5, none⟩ = some (.int .i64 m) := s5
        have f0 : w5.cell? ⟨bb + 1, 0, none⟩ = some (.int .i64 n1) := cell_blk (o := 0) HFR.out rfl
        have f1 : w5.cell? ⟨bb + 1, 1, none⟩ = some (.int .i64 0) := cell_blk (o := 1) HFR.out rfl
        have f2 : w5.cell? ⟨bb + 1, 2, none⟩ = some (.int .i64 0) := cell_blk (o := 2) HFR.out rfl
        have f3 : w5.cell? ⟨bb + 1, 3, none⟩ = some (.int .i64 0) := cell_blk (o := 3) HFR.out rfl
        have d0 := HC5.out
        obtain ⟨w6, hw6⟩ : ∃ w6, w6 = w5.alloc (.cells #[.int .i64 n1, .int .i64 0, .int .i64 0, .int .i64 0] 214) := ⟨_, rfl⟩
        have hb6 : Below w5.heap.size w5 w6 := by rw [hw6]; exact belx
        have hz6 : w6.heap.size = bb + 3 := by rw [hw6, World.size_alloc, hz5]
        have k0 : w6.cell? ⟨bb + 2, 0, none⟩ = some (.int .i64 n1) := by rw [hw6, ← hz5]; go_simp
        have k2 : w6.cell? ⟨bb + 2, 2, none⟩ = some (.int .i64 0) := by rw [hw6, ← hz5]; go_simp
        have k3 : w6.cell? ⟨bb + 2, 3, none⟩ = some (.int .i64 0) := by rw [hw6, ← hz5]; go_simp
        replace s0 := carry hb6 s0
        replace s1 := carry hb6 s1
        replace s2 := carry hb6 s2
        replace s3 := carry hb6 s3
        replace s4 := carry hb6 s4
        replace s5 := carry hb6 s5
        replace d0 := carry hb6 d0
        have HW6 := Lib.hid hw6
        have HZ6 := Lib.hid hz6
        have HM6 := Lib.hid (HM5.out.below hb6)
        have HBU6 : Hid (w6.heap[bb]? = some (.cells #[.pointer none, .slice none 0 0] 95 (0, 0))) := Lib.hid ((hb6.block bb (by omega)).trans HBU.out)
        have HFR6 : Hid (w6.heap[bb + 1]? = some (.cells #[.int .i64 n1, .int .i64 0, .int .i64 0, .int .i64 0] 214 (0, 0))) := Lib.hid ((hb6.block (bb + 1) (by omega)).trans HFR.out)
        have HB6 := Lib.hid (HB5.out.trans (hb6.mono HB5.out.size))
        clear hw6 hb6 hz6 HFR HBU HM5 HB5 HC5
        go_upto_region 17 with fail
        rw [← HW6.out]
        clear HW6 f0 f1 f2 f3 hz5
        obtain ⟨w7, hw7⟩ : ∃ w7, w7 = w6.alloc (.cells #[.int .i64 1, .string t, .int .i64 0, .slice A3 n3 c3, .slice A4 n4 c4, .int .i64 m] 218) := ⟨_, rfl⟩
        have hb7 : Below w6.heap.size w6 w7 := by rw [hw7]; exact belx
        have hz6 := HZ6.out
        have hz7 : w7.heap.size = bb + 4 := by rw [hw7, World.size_alloc, hz6]
        have t0 : w7.cell? ⟨bb + 3, 0, none⟩ = some (.int .i64 1) := by rw [hw7, ← hz6]; go_simp
        have t1 : w7.cell? ⟨bb + 3, 1, none⟩ = some (.string t) := by rw [hw7, ← hz6]; go_simp
        have r2 := carry hb7 k2
        have r3 := carry hb7 k3
        have HW7 := Lib.hid hw7
        have HZ7 := Lib.hid hz7
        have HM7 := Lib.hid (HM6.out.below hb7)
        have HBU7 : Hid (w7.heap[bb]? = some (.cells #[.pointer none, .slice none 0 0] 95 (0, 0))) := Lib.hid ((hb7.block bb (by omega)).trans HBU6.out)
        have HFR7 : Hid (w7.heap[bb + 1]? = some (.cells #[.int .i64 n1, .int .i64 0, .int .i64 0, .int .i64 0] 214 (0, 0))) := Lib.hid ((hb7.block (bb + 1) (by omega)).trans HFR6.out)
        have HB7 := Lib.hid (HB6.out.trans (hb7.mono HB6.out.size))
        clear hw7 hb7 hz7 HFR6 HBU6 HM6 HB6
        go_upto_region 23 with fail
        rw [← HW7.out]
        clear HW7 k0 k2 k3 s0 s1 s2 s3 s4 s5 hz6 d0
        have hlk : (Instr.lookup 91 (.map (some kb)) (.string t) false).run Tryz.prog w7 = .ok (.agg #[.string ⟨#[]⟩, .bool false, .int .i64 0, .int .i64 0, .string ⟨#[]⟩]) w7 := hm_none1 HM7.out Tryz.underlying91 (zero_arg _) (by have := HTZ.out; unfold maxLen; omega) (show hlook [] t.data.toList = none from rfl)
        obtain ⟨w8, hw8⟩ : ∃ w8, w8 = w7.alloc (.cells #[.string ⟨#[]⟩, .bool false, .int .i64 0, .int .i64 0, .string ⟨#[]⟩] 38) := ⟨_, rfl⟩
        have hb8 : Below w7.heap.size w7 w8 := by rw [hw8]; exact belx
        have hz7 := HZ7.out
        have hz8 : w8.heap.size = bb + 5 := by rw [hw8, World.size_alloc, hz7]
        have T0 := Lib.hid (carry hb8 t0)
        have T1 := Lib.hid (carry hb8 t1)
        have R2 := Lib.hid (carry hb8 r2)
        have R3 := Lib.hid (carry hb8 r3)
        have HW8 := Lib.hid hw8
        have HZ8 := Lib.hid hz8
        have HBU8 : Hid (w8.heap[bb]? = some (.cells #[.pointer none, .slice none 0 0] 95 (0, 0))) := Lib.hid ((hb8.block bb (by omega)).trans HBU7.out)
        have HFR8 : Hid (w8.heap[bb + 1]? = some (.cells #[.int .i64 n1, .int .i64 0, .int .i64 0, .int .i64 0] 214 (0, 0))) := Lib.hid ((hb8.block (bb + 1) (by omega)).trans HFR7.out)
        have HB8 := Lib.hid (HB7.out.trans (hb8.mono HB7.out.size))
        clear hw8 hb8 hz8 HFR7 HBU7 HM7 HB7 r2 r3
        go_upto_region 24 with fail
        rw [← HW8.out]
        clear HW8 hlk t0 t1 hz7
        have t0 := T0.out
        have t1 := T1.out
        have r2 := R2.out
        have r3 := R3.out
        refine wp_region_held_drew (S := (fun W => Hid (Below w8.heap.size w8 W))) (by kernel_rfl) ?_ (fun hHeld => ?_)
        · exact Lib.hid (Below.refl _ _).drew
        refine wpAnyH_take (i := 0) (v := ?tv1) rfl (by kernel_rfl) (by kernel_rfl) (by kernel_rfl) (fun _ _ _ h => h) (Or.inl ⟨rfl, ?ty1⟩) hHeld ?tr1
        case ty1 => (intro wS hSw; have u0 := carry hSw.out t1; have u1 := carry hSw.out r2; have u2 := carry hSw.out r3; clear hSw; go_simp; try with_reducible rfl)
        try simp only [Act.put, List.setIfInBounds_toArray, List.set_cons_zero, List.set_cons_succ, List.getElem_toArray, List.getElem_cons_zero, List.getElem_cons_succ]
        refine wpAnyH_take (i := 1) (v := ?tv2) rfl (by kernel_rfl) (by kernel_rfl) (by kernel_rfl) (fun _ _ _ h => h) (Or.inl ⟨rfl, ?ty2⟩) hHeld ?tr2
        case ty2 => (intro wS hSw; have u0 := carry hSw.out t1; have u1 := carry hSw.out r2; have u2 := carry hSw.out r3; clear hSw; go_simp; try with_reducible rfl)
        try simp only [Act.put, List.setIfInBounds_toArray, List.set_cons_zero, List.set_cons_succ, List.getElem_toArray, List.getElem_cons_zero, List.getElem_cons_succ]
        refine wpAnyH_take (i := 2) (v := ?tv3) rfl (by kernel_rfl) (by kernel_rfl) (by kernel_rfl) (fun _ _ _ h => h) (Or.inl ⟨rfl, ?ty3⟩) hHeld ?tr3
        case ty3 => (intro wS hSw; have u0 := carry hSw.out t1; have u1 := carry hSw.out r2; have u2 := carry hSw.out r3; clear hSw; go_simp; try with_reducible rfl)
        try simp only [Act.put, List.setIfInBounds_toArray, List.set_cons_zero, List.set_cons_succ, List.getElem_toArray, List.getElem_cons_zero, List.getElem_cons_succ]
        refine wpAnyH_take (i := 3) (v := ?tv4) rfl (by kernel_rfl) (by kernel_rfl) (by kernel_rfl) (fun _ _ _ h => h) (Or.inl ⟨rfl, ?ty4⟩) hHeld ?tr4
        case ty4 => (intro wS hSw; have u0 := carry hSw.out t1; have u1 := carry hSw.out r2; have u2 := carry hSw.out r3; clear hSw; go_simp; try with_reducible rfl)
        try simp only [Act.put, List.setIfInBounds_toArray, List.set_cons_zero, List.set_cons_succ, List.getElem_toArray, List.getElem_cons_zero, List.getElem_cons_succ]
        refine wpAnyH_take (i := 4) (v := ?tv5) rfl (by kernel_rfl) (by kernel_rfl) (by kernel_rfl) (fun _ _ _ h => h) (Or.inl ⟨rfl, ?ty5⟩) hHeld ?tr5
        case ty5 => (intro wS hSw; have u0 := carry hSw.out t1; have u1 := carry hSw.out r2; have u2 := carry hSw.out r3; clear hSw; go_simp; try with_reducible rfl)
        try simp only [Act.put, List.setIfInBounds_toArray, List.set_cons_zero, List.set_cons_succ, List.getElem_toArray, List.getElem_cons_zero, List.getElem_cons_succ]
        have HS := Lib.hid hHeld
        obtain ⟨w9, hw9⟩ : ∃ w9, w9 = w8.drew := ⟨_, rfl⟩
        have HFR9 : Hid (w9.heap[bb + 1]? = some (.cells #[.int .i64 n1, .int .i64 0, .int .i64 0, .int .i64 0] 214 (0, 0))) := Lib.hid (by rw [hw9]; exact HFR8.out)
        have HBU9 : Hid (w9.heap[bb]? = some (.cells #[.pointer none, .slice none 0 0] 95 (0, 0))) := Lib.hid (by rw [hw9]; exact HBU8.out)
        have hz9 : w9.heap.size = bb + 5 := by rw [hw9]; exact HZ8.out
        rw [← hw9] at hHeld HS ⊢
        clear hw9
        refine wpAnyH_ready (rs := [5]) (by kernel_rfl) (by simp) (AllReadyH.cons rfl (fun K hK => ?_) AllReadyH.nil)
        clear hHeld
        obtain ⟨w10, hw10⟩ : ∃ w10, w10 = w9.alloc (.cells #[.int .i64 0, .int .i64 0] 23) := ⟨_, rfl⟩
        have hst : Below w9.heap.size w9 w10 := by rw [hw10]; exact belx
        have hz10 : w10.heap.size = bb + 6 := by rw [hw10, World.size_alloc, hz9]
        have hNew : Hid (Below w8.heap.size w8 w10) := Lib.hid (HS.out.out.trans (hst.mono HS.out.out.size))
        have HT10 : Hid (TyAt w10 (bb + 5) 23) := Lib.hid (by rw [hw10, ← hz9]; exact TyAt.new _ _ _)
        have HP0 : Hid (w10.cell? ⟨bb + 5, 0, none⟩ = some (.int .i64 0)) := Lib.hid (by rw [hw10, ← hz9]; go_simp)
        have HP1 : Hid (w10.cell? ⟨bb + 5, 1, none⟩ = some (.int .i64 0)) := Lib.hid (by rw [hw10, ← hz9]; go_simp)
        have HFR10 : Hid (w10.heap[bb + 1]? = some (.cells #[.int .i64 n1, .int .i64 0, .int .i64 0, .int .i64 0] 214 (0, 0))) := Lib.hid ((hst.block (bb + 1) (by omega)).trans HFR9.out)
        have HBU10 : Hid (w10.heap[bb]? = some (.cells #[.pointer none, .slice none 0 0] 95 (0, 0))) := Lib.hid ((hst.block bb (by omega)).trans HBU9.out)
        go_simp
        rw [← hw10]
        refine hK.out _ _ hNew (fun _ => ?_)
        have HZ10 := Lib.hid hz10
        clear hw10 hst HFR9 HBU9 hz9 hz10
        clear hK K
        have hHeld := hNew
        replace HS := Lib.hid hNew
        clear hNew
        try simp only [Act.put, List.setIfInBounds_toArray, List.set_cons_zero, List.set_cons_succ, List.getElem_toArray, List.getElem_cons_zero, List.getElem_cons_succ]
        refine wpAnyH_take (i := 6) (v := ?tv6) rfl (by kernel_rfl) (by kernel_rfl) (by kernel_rfl) (fun _ _ _ h => h) (Or.inl ⟨rfl, ?ty6⟩) hHeld ?tr6
        case ty6 => (intro wS hSw; clear hSw; go_simp; try with_reducible rfl)
        try simp only [Act.put, List.setIfInBounds_toArray, List.set_cons_zero, List.set_cons_succ, List.getElem_toArray, List.getElem_cons_zero, List.getElem_cons_succ]
        refine wpAnyH_take (i := 7) (v := ?tv7) rfl (by kernel_rfl) (by kernel_rfl) (by kernel_rfl) (fun _ _ _ h => h) (Or.inl ⟨rfl, ?ty7⟩) hHeld ?tr7
        case ty7 => (intro wS hSw; clear hSw; go_simp; try with_reducible rfl)
        try simp only [Act.put, List.setIfInBounds_toArray, List.set_cons_zero, List.set_cons_succ, List.getElem_toArray, List.getElem_cons_zero, List.getElem_cons_succ]
        refine wpAnyH_ready (rs := [8]) (by kernel_rfl) (by simp) (AllReadyH.cons rfl (fun K hK => ?_) AllReadyH.nil)
        clear hHeld
        have fz0 := HT10.out.frozen 0
        have fz1 := HT10.out.frozen 1
        have p0 := HP0.out
        have p1 := HP1.out
        go_simp
        obtain ⟨w11, hw11⟩ : ∃ w11, w11 = (w10.setCell ⟨bb + 5, 0, none⟩ (.int .i64 0)).setCell ⟨bb + 5, 1, none⟩ (.int .i64 0) := ⟨_, rfl⟩
        have hof : Off [bb + 5] w10 w11 := by rw [hw11]; exact ((Off.refl _ _).setCell _ _ (by simp)).setCell _ _ (by simp)
        have hz10 := HZ10.out
        have hNew : Hid (Below w8.heap.size w8 w11) := Lib.hid (HS.out.out.trans (hof.toBelow (fun k hk => by simp only [List.mem_singleton] at hk; rw [hk, HZ8.out]; exact Nat.le_refl _) HS.out.out.size))
        have HFR11 : Hid (w11.heap[bb + 1]? = some (.cells #[.int .i64 n1, .int .i64 0, .int .i64 0, .int .i64 0] 214 (0, 0))) := Lib.hid ((hof.block (bb + 1) (by omega) (by simp)).trans HFR10.out)
        have HBU11 : Hid (w11.heap[bb]? = some (.cells #[.pointer none, .slice none 0 0] 95 (0, 0))) := Lib.hid ((hof.block bb (by omega) (by simp)).trans HBU10.out)
        rw [← hw11]
        refine hK.out _ _ hNew (fun _ => ?_)
        clear hw11 hof hz10 fz0 fz1 p0 p1 HFR10 HBU10
        clear hK K
        have hHeld := hNew
        replace HS := Lib.hid hNew
        clear hNew
        try simp only [Act.put, List.setIfInBounds_toArray, List.set_cons_zero, List.set_cons_succ, List.getElem_toArray, List.getElem_cons_zero, List.getElem_cons_succ]
        refine wpAnyH_done (by kernel_rfl) ?_ _
        try dsimp only
        have HB11 := Lib.hid (HB8.out.trans (HS.out.out.mono HB8.out.size))
        replace t0 := carry HS.out.out t0
        clear t1 r2 r3 HS HB8
        go_wp2_with fail
        have hB11 : Lib.IsBuilderF 95 5 bb bb [] w11 := .inl ⟨Nat.le_refl _, .slice none 0 0, HBU11.out, World.ownsRowF_of (World.ownsRow_nil _ _ _ _), by simp [Value.ownBlock]⟩
        have hz11 : bb ≤ w11.heap.size := Nat.le_of_lt (Array.getElem?_eq_some_iff.1 HBU11.out).1
        refine (Builder_WriteString bb bb [] t w11 hB11 (by have := HTZ.out; simp; omega) hz11).mono ?_
        rintro e w12 ⟨rfl, hB12, hb12, hk12⟩
        rw [List.nil_append] at hB12
        have HBQ : Hid (Lib.IsBuilderF 95 5 bb bb (Lib.strCells t) w12) := Lib.hid (.inr hB12)
        have HFQ : Hid (w12.heap[bb + 1]? = some (.cells #[.int .i64 n1, .int .i64 0, .int .i64 0, .int .i64 0] 214 (0, 0))) := Lib.hid (hk12 _ _ HFR11.out (by simp) (fun c fz h => by injection h with _ h2 _; exact absurd h2 (by decide)))
        have HBB2 := Lib.hid (HB11.out.trans (hb12.mono (by omega)))
        clear hB11 hB12 hb12 hk12
        go_wp2_with fail
        go_roundw
        case rel => exact ⟨rfl, .inr ⟨rfl, HFQ, HBQ, HBB2⟩⟩
        case measure => simp [intOf]
      · have f0 : wr.cell? ⟨bb + 1, 0, none⟩ = some (.int .i64 n1) := cell_blk (o := 0) HF.out rfl
        have f1 : wr.cell? ⟨bb + 1, 1, none⟩ = some (.int .i64 0) := cell_blk (o := 1) HF.out rfl
        have f2 : wr.cell? ⟨bb + 1, 2, none⟩ = some (.int .i64 0) := cell_blk (o := 2) HF.out rfl
        have f3 : wr.cell? ⟨bb + 1, 3, none⟩ = some (.int .i64 0) := cell_blk (o := 3) HF.out rfl
        have hlt := lt_of_cell f0
        obtain ⟨wb, hwb⟩ : ∃ wb, wb = wr.alloc (.cells #[.int .i64 n1, .int .i64 0, .int .i64 0, .int .i64 0] 214) := ⟨_, rfl⟩
        have hbb : Below wr.heap.size wr wb := by rw [hwb]; exact belx
        have HBUb : Hid (Lib.IsBuilderF 95 5 bb bb (Lib.strCells t) wb) := Lib.hid (by rw [hwb]; exact HBu.out.elim (fun x => .inl (x.alloc _)) (fun x => .inr (x.alloc _)))
        have HBb := Lib.hid (HB.out.trans (hbb.mono HB.out.size))
        have hzb : bb ≤ wb.heap.size := by have := hbb.size; omega
        have HWB := Lib.hid hwb
        have KS := Lib.hid (Tryz.Builder_String_any_k bb bb t.data.toList wb HBUb.out hzb)
        clear hwb hbb
        go_wp2_with fail
        rw [← HWB.out]
        refine KS.out.mono ?_
        rintro e w12 ⟨rfl, _, hb12, _⟩
        have HB12 := Lib.hid (HBb.out.trans (hb12.mono (by omega)))
        clear hb12
        go_wp2_with fail
        go_ret2
        exact ⟨rfl, HB12.out⟩
end Go.Proofs.YtplaohmdllindaaGreatDoor

/- nout.Check at any signs; nout.check; dec.Parse at the text of a right number. -/
namespace Go.Proofs.YtplaohmdllindaaGreatDoor
open Go.RowKit

/-- signs that are right -/
def signOk (pt cm : UInt8) : Bool := !(pt == cm) && [46, 44, 39, 95].contains pt && [46, 44, 39, 95].contains cm
theorem sign_cases (pt : UInt8) : (([46, 44, 39, 95] : List UInt8).contains pt = true ∧ ¬ Lib.indexByte [46, 44, 39, 95] pt < 0) ∨ (([46, 44, 39, 95] : List UInt8).contains pt = false ∧ Lib.indexByte [46, 44, 39, 95] pt < 0) := by
  have key : ∀ n : Fin 256, (([46, 44, 39, 95] : List UInt8).contains (UInt8.ofNat n.val) = true ∧ ¬ Lib.indexByte [46, 44, 39, 95] (UInt8.ofNat n.val) < 0) ∨ (([46, 44, 39, 95] : List UInt8).contains (UInt8.ofNat n.val) = false ∧ Lib.indexByte [46, 44, 39, 95] (UInt8.ofNat n.val) < 0) := by decide +kernel
  have h := key ⟨pt.toNat, pt.toNat_lt⟩
  rw [show UInt8.ofNat (⟨pt.toNat, pt.toNat_lt⟩ : Fin 256).val = pt from UInt8.ofNat_toNat] at h
  exact h
theorem back8 (pt : UInt8) : (((pt.toNat : Nat) : Int)).toNat.toUInt8 = pt := by simp

theorem nout_Check_any (pt cm : UInt8) (w : World) :
    Calls Tryz.prog 76 #[symC pt cm] w fun e w' => e = .returned (if signOk pt cm then .nilIface else errT 3) ∧ Below w.heap.size w w' := by
  have K1 : Hid (∀ (c : UInt8) (W : World), Calls Tryz.prog 127 #[.string ⟨#[46, 44, 39, 95]⟩, .int .u8 c.toNat] W fun e w' => e = .returned (.int .i64 (Lib.indexByte [46, 44, 39, 95] c)) ∧ W = w') := Lib.hid (fun c W => by
    refine (Tryz.strings_IndexByte ⟨#[46, 44, 39, 95]⟩ c.toNat W).mono ?_
    rintro e w' ⟨rfl, rfl⟩
    refine ⟨?_, rfl⟩
    rw [back8])
  have hpt := sign_cases pt
  have hcm := sign_cases cm
  by_cases he : pt = cm
  · subst he
    have hs : signOk pt pt = false := by unfold signOk; simp
    rw [hs]
    clear hpt hcm hs K1
    go_enter Tryz.func76, Tryz.ntmps76
    go_wp2_with fail
    go_ret
    exact ⟨rfl, belx⟩
  · have hne : ¬ ((pt.toNat : Nat) : Int) = ((cm.toNat : Nat) : Int) := fun h => he (UInt8.toNat_inj.mp (by omega))
    have hs : signOk pt cm = (([46, 44, 39, 95] : List UInt8).contains pt && ([46, 44, 39, 95] : List UInt8).contains cm) := by unfold signOk; rw [show (pt == cm) = false by rw [beq_eq_false_iff_ne]; exact he]; rfl
    rw [hs]
    have k1 := Lib.hid (K1.out pt)
    have k2 := Lib.hid (K1.out cm)
    clear K1 hs he
    generalize ([46, 44, 39, 95] : List UInt8).contains pt = b1 at *
    generalize ([46, 44, 39, 95] : List UInt8).contains cm = b2 at *
    generalize Lib.indexByte [46, 44, 39, 95] pt = i1 at *
    generalize Lib.indexByte [46, 44, 39, 95] cm = i2 at *
    rcases hpt with ⟨rfl, h1⟩ | ⟨rfl, h1⟩
    · rcases hcm with ⟨rfl, h2⟩ | ⟨rfl, h2⟩
      all_goals
        go_enter Tryz.func76, Tryz.ntmps76
        go_wp2_with fail
        refine (k1.out _).mono ?_
        rintro e w1 ⟨rfl, rfl⟩
        go_wp2_with fail
        refine (k2.out _).mono ?_
        rintro e w1 ⟨rfl, rfl⟩
        go_wp2_with fail
        all_goals first | (exfalso; simp_all; done) | (exfalso; simp_all; omega) | (go_ret; exact ⟨rfl, belx⟩)
    · go_enter Tryz.func76, Tryz.ntmps76
      go_wp2_with fail
      refine (k1.out _).mono ?_
      rintro e w1 ⟨rfl, rfl⟩
      go_wp2_with fail
      go_ret
      exact ⟨rfl, belx⟩

/-- what nout.check tells -/
def noutErr (p q : ByteArray) (mi mf xf g g2 : Int) (pt cm : UInt8) : Int := if patErr p q mi mf xf g g2 = 0 then (if signOk pt cm then 0 else 3) else patErr p q mi mf xf g g2

theorem nout_check_any (p q : ByteArray) (mi mf xf g g2 : Int) (pt cm : UInt8) (w : World) (hp : p.size ≤ 9223372036854775807) (hq : q.size ≤ 9223372036854775807) :
    Calls Tryz.prog 31 #[patV p q mi mf xf g g2, symC pt cm] w fun e w' => e = .returned (errOf (noutErr p q mi mf xf g g2 pt cm)) ∧ Below w.heap.size w w' := by
  have KP := Lib.hid (fun W => pat_check p q mi mf xf g g2 W hp hq)
  have KN := Lib.hid (fun W => nout_Check_any pt cm W)
  unfold noutErr
  by_cases h : patErr p q mi mf xf g g2 = 0
  · rw [h] at KP
    rw [if_pos h]
    have e0 : errOf 0 = .nilIface := rfl
    have e3 : errOf (if signOk pt cm then (0 : Int) else 3) = if signOk pt cm then .nilIface else errT 3 := by cases signOk pt cm <;> rfl
    rw [e0] at KP
    rw [e3]
    clear h e0 e3
    generalize (if signOk pt cm = true then Value.nilIface else errT 3) = E at *
    go_enter Tryz.func31, Tryz.ntmps31
    go_wp2_with fail
    refine (KP.out _).mono ?_
    rintro e w1 ⟨rfl, hb1⟩
    have s1 := hb1.size
    simp at s1
    have c0 : w1.cell? ⟨w.heap.size + 1, 0, none⟩ = some (.int .u8 pt.toNat) := carry hb1 (by go_simp)
    have c1 : w1.cell? ⟨w.heap.size + 1, 1, none⟩ = some (.int .u8 cm.toNat) := carry hb1 (by go_simp)
    go_wp2_with fail
    refine (KN.out _).mono ?_
    rintro e w2 ⟨rfl, hb2⟩
    have s2 := hb2.size
    go_wp2_with fail
    go_ret
    exact ⟨rfl, belx⟩
  · rw [if_neg h]
    have e0 : errOf (patErr p q mi mf xf g g2) = errT (patErr p q mi mf xf g g2) := by unfold errOf; rw [if_neg h]
    rw [e0] at KP ⊢
    generalize patErr p q mi mf xf g g2 = E at *
    clear e0 h
    go_enter Tryz.func31, Tryz.ntmps31
    go_wp2_with fail
    refine (KP.out _).mono ?_
    rintro e w1 ⟨rfl, hb1⟩
    have s1 := hb1.size
    simp at s1
    go_wp2_with fail
    go_ret
    exact ⟨rfl, belx⟩

theorem behind_size (c : Int) (s : Nat) : (behindB c s).size = s := by
  rw [← bsize, behindL, List.length_drop, bsize, padB_size]
  omega

set_option maxHeartbeats 4000000 in
theorem dec_parse (c : Int) (s : Nat) (w : World) (hM : MaxL w) (hP : Pow w) (h : decOk c s) :
    Calls Tryz.prog 44 #[.string (decT c s)] w fun e w' => e = .returned (.tuple #[decV c s, .nilIface]) ∧ Below w.heap.size w w' := by
  have hTX := decT_size c s h
  have hl := atoi_len h
  rw [List.length_append, bsize, bsize, behind_size] at hl
  have KD := Lib.hid (fun W => dec_check_ok c s W h)
  have KT := Lib.hid (fun W (hb : Below w.heap.size w W) => dec_text c s W (hP.below hb) h)
  obtain ⟨has, hcut⟩ : ∃ has, Lib.cut (decT c s).data.toList [46] = ((swB c s).data.toList, (behindB c s).data.toList, has) := ⟨_, decT_cut c s⟩
  have KM : Hid (∀ W : World, Below w.heap.size w W → Calls Tryz.prog 34 #[.string (decT c s), .string ⟨#[46]⟩] W fun e w' => e = .returned (.tuple #[.string (swB c s), .string (behindB c s), .bool has]) ∧ Below W.heap.size W w') := Lib.hid (fun W hb => by
    obtain ⟨m, hm⟩ := hM.below hb
    refine (Tryz.strings_Cut (decT c s) ⟨#[46]⟩ m W (by omega) hm).mono ?_
    rintro e w' ⟨rfl, k, rfl⟩
    refine ⟨?_, bel_drewN _ (Below.refl _ _)⟩
    rw [show (⟨#[46]⟩ : ByteArray).data.toList = [46] from rfl, hcut])
  obtain ⟨V, eV, r1⟩ := addl (swB c s) (behindB c s) (by rw [behind_size]; omega)
  have hbs := behind_size c s
  have KA : Hid (∀ W : World, Calls Tryz.prog 99 #[.string V] W fun e w' => e = .returned (.tuple #[.int .i64 c, .nilIface]) ∧ Below W.heap.size W w') := Lib.hid (fun W => by
    refine (Tryz.strconv_Atoi V c (by rw [eV, ByteArray.size_append, hbs]; omega) (by rw [eV, ByteArray.data_append, Array.toList_append]; exact atoi_pad c s) W).mono ?_
    rintro e w' ⟨rfl, t, rfl⟩
    exact ⟨rfl, Lib.bytesWorld_below _ _ _⟩)
  obtain ⟨d1, d2, d3, d4⟩ := h
  clear hM hP hcut hTX hl eV
  generalize decT c s = T at *
  generalize swB c s = A at *
  generalize behindB c s = B at *
  have hbi : ((B.size : Nat) : Int) = (s : Int) := by omega
  have hw : IntKind.i64.wrap (s : Int) = (s : Int) := IntWalk.i64_in _ (by omega)
  clear hbs
  go_enter Tryz.func44, Tryz.ntmps44
  go_wp2_with fail
  refine (KM.out _ belx).mono ?_
  rintro e w1 ⟨rfl, hb1⟩
  have s1 := hb1.size
  simp at s1
  have c0 : w1.cell? ⟨w.heap.size, 0, none⟩ = some (.int .i64 0) := carry hb1 (by go_simp)
  have c1 : w1.cell? ⟨w.heap.size, 1, none⟩ = some (.int .i64 0) := carry hb1 (by go_simp)
  have f0 : ∀ j, w1.frozen? ⟨w.heap.size, j, none⟩ = false := fun j => by rw [hb1.frozen (by simp)]; go_simp
  go_wp2_with fail
  refine (KA.out _).mono ?_
  rintro e w2 ⟨rfl, hb2⟩
  have s2 := hb2.size
  have c0 := carry hb2 c0
  have c1 := carry hb2 c1
  have f0 : ∀ j, w2.frozen? ⟨w.heap.size, j, none⟩ = false := fun j => by rw [hb2.frozen (by simp; omega)]; exact f0 j
  go_wp2_with fail
  refine (KD.out _).mono ?_
  rintro e w3 ⟨rfl, hb3⟩
  have s3 := hb3.size
  simp at s3
  have e0 : w3.cell? ⟨w2.heap.size, 0, none⟩ = some (.int .i64 c) := carry hb3 (by go_simp)
  have e1 : w3.cell? ⟨w2.heap.size, 1, none⟩ = some (.int .i64 s) := carry hb3 (by go_simp)
  go_wp2_with fail
  refine (KT.out _ belx).mono ?_
  rintro e w4 ⟨rfl, hb4⟩
  have s4 := hb4.size
  have e0 := carry hb4 e0
  have e1 := carry hb4 e1
  have h23 : Below w2.heap.size w2 w3 := belx
  have c0 := carry hb4 (carry h23 c0)
  have c1 := carry hb4 (carry h23 c1)
  have f0 : ∀ j, w4.frozen? ⟨w.heap.size, j, none⟩ = false := fun j => by rw [hb4.frozen (by simp; omega), h23.frozen (by simp; omega)]; exact f0 j
  go_wp2_with fail
  exact bodyPost_ret (v := .tuple #[decV c s, .nilIface]) (by simp [results, Tryz.results44, go_sem, c0, c1]) rfl ⟨rfl, belx⟩
end Go.Proofs.YtplaohmdllindaaGreatDoor

/- nout.Read: the walk. Printed by gens/NoutRead.py. -/
namespace Go.Proofs.YtplaohmdllindaaGreatDoor
open Go.RowKit

set_option maxHeartbeats 8000000 in
set_option maxRecDepth 100000 in
theorem nout_read_any (p q : ByteArray) (mi mf xf g g2 : Int) (pt cm : UInt8) (c2 : Int) (s2 : Nat) (X R R1 R2 Wh Bh Wr Wl Bt D TX : ByteArray) (has neg : Bool) (w : World)
    (hE : ∀ W : World, Calls Tryz.prog 31 #[patV p q mi mf xf g g2, symC pt cm] W fun e w' => e = .returned .nilIface ∧ Below W.heap.size W w')
    (h36 : ∀ W : World, Calls Tryz.prog 36 #[.string X, .string ⟨#[45]⟩] W fun e w' => e = .returned (.tuple #[.string R, .bool neg]) ∧ W = w')
    (h40 : ∀ W : World, Calls Tryz.prog 40 #[.string R, .string p] W fun e w' => e = .returned (.string R1) ∧ w' = W)
    (h39 : ∀ W : World, Calls Tryz.prog 39 #[.string R1, .string q] W fun e w' => e = .returned (.string R2) ∧ w' = W)
    (h34 : ∀ W : World, Below w.heap.size w W → Calls Tryz.prog 34 #[.string R2, .string ⟨#[pt]⟩] W fun e w' => e = .returned (.tuple #[.string Wh, .string Bh, .bool has]) ∧ Below W.heap.size W w')
    (h42 : ∀ W : World, Below w.heap.size w W → Calls Tryz.prog 42 #[.string Wh, .string ⟨#[cm]⟩, .string ⟨#[]⟩] W fun e w' => e = .returned (.string Wr) ∧ Below W.heap.size W w')
    (h41 : ∀ W : World, Calls Tryz.prog 41 #[.string Wr, .string ⟨#[48]⟩] W fun e w' => e = .returned (.string Wl) ∧ W = w')
    (h43 : ∀ W : World, Calls Tryz.prog 43 #[.string Bh, .string ⟨#[48]⟩] W fun e w' => e = .returned (.string Bt) ∧ W = w')
    (h44 : ∀ W : World, Below w.heap.size w W → Calls Tryz.prog 44 #[.string TX] W fun e w' => e = .returned (.tuple #[decV c2 s2, .nilIface]) ∧ Below W.heap.size W w')
    (h10 : ∀ W : World, Below w.heap.size w W → Calls Tryz.prog 10 #[patV p q mi mf xf g g2, symC pt cm, decV c2 s2] W fun e w' => e = .returned (.tuple #[.string X, .nilIface]) ∧ Below W.heap.size W w')
    (hWl : (Wl.toList = [] ∧ D = ⟨#[48]⟩) ∨ (Wl.toList.isEmpty = false ∧ D = Wl)) (hD : D.size ≤ 1000) (hBt : Bt.size ≤ 1000)
    (hTX : TX = (if neg then ⟨#[45]⟩ else ⟨#[]⟩) ++ (D ++ (if Bt.toList = [] then ⟨#[]⟩ else ⟨#[46]⟩ ++ Bt))) (hle : (s2 : Int) ≤ xf) :
    Calls Tryz.prog 11 #[patV p q mi mf xf g g2, symC pt cm, .string X] w fun e w' => e = .returned (.tuple #[decV c2 s2, .nilIface]) ∧ Below w.heap.size w w' := by
  have KC := Lib.hid hE
  have K36 := Lib.hid h36
  have K40 := Lib.hid h40
  have K39 := Lib.hid h39
  have K34 := Lib.hid h34
  have K42 := Lib.hid h42
  have K41 := Lib.hid h41
  have K43 := Lib.hid h43
  have K44 := Lib.hid h44
  have K10 := Lib.hid h10
  obtain ⟨U, eU, r1⟩ := addl ⟨#[46]⟩ Bt (by show 1 + _ ≤ _; omega)
  have hU : U.size = 1 + Bt.size := by rw [eU, ByteArray.size_append]; rfl
  obtain ⟨V, eV, r2⟩ := addl D U (by omega)
  have hV : V.size = D.size + U.size := by rw [eV, ByteArray.size_append]
  obtain ⟨N0, eN0, r3⟩ := addl ⟨#[45]⟩ D (by show 1 + _ ≤ _; omega)
  obtain ⟨N1, eN1, r4⟩ := addl ⟨#[45]⟩ V (by show 1 + _ ≤ _; omega)
  have ez : ∀ b : ByteArray, (⟨#[]⟩ : ByteArray) ++ b = b := fun b => by apply ByteArray.ext; apply Array.ext'; simp
  have ez2 : ∀ b : ByteArray, b ++ (⟨#[]⟩ : ByteArray) = b := fun b => by apply ByteArray.ext; apply Array.ext'; simp
  have G1 : Hid (Bt.toList = [] → TX = if neg then N0 else D) := Lib.hid (fun h => by
    rw [hTX, if_pos h, ez2]
    cases neg
    · exact ez D
    · exact eN0.symm)
  have G2 : Hid (¬ Bt.toList = [] → TX = if neg then N1 else V) := Lib.hid (fun h => by
    rw [hTX, if_neg h, ← eU, ← eV]
    cases neg
    · exact ez V
    · exact eN1.symm)
  have hgt : decide ((s2 : Int) > xf) = false := decide_eq_false (by omega)
  have hgt2 : ¬ ((s2 : Int) > xf) := by omega
  have hgt3 : ¬ (xf < (s2 : Int)) := by omega
  clear hE h36 h40 h39 h34 h42 h41 h43 h44 h10 hTX ez ez2 eU eV eN0 eN1 hU hV hD hBt hle
  go_enter Tryz.func11, Tryz.ntmps11
  go_wp2_with fail
  refine (KC.out _).mono ?_
  rintro e w1 ⟨rfl, hb⟩
  have F1 := Lib.hid ((FrA.start (w := w) (p := p) (q := q) (a := mi) (f := mf) (xf := xf) (g := g) (g2 := g2) (pt := pt.toNat) (cm := cm.toNat) (n := 0) (s := 0)).step hb)
  clear hb
  obtain ⟨⟨⟨h0, h1⟩, ⟨h2, h3⟩, h4, h5, h6⟩, ⟨k0, k1⟩, ⟨d0, d1⟩, ⟨f0, f1⟩, hs, hB⟩ := F1.out
  clear h2 h3 h4 h5 h6 k0 k1 d0 d1 f0 f1 hs hB
  go_wp2_with fail
  refine (K36.out _).mono ?_
  rintro e w2 ⟨rfl, rfl⟩
  go_wp2_with fail
  go_quiet (first | (go_at_call 40; (first | exact Calls.quiet_add_left (K40.out _) | exact Calls.quiet_left (K40.out _) | exact Calls.quiet_of_same (K40.out _))) | (go_at_call 39; (first | exact Calls.quiet_add_left (K39.out _) | exact Calls.quiet_left (K39.out _) | exact Calls.quiet_of_same (K39.out _))))
  obtain ⟨w3, e_w3⟩ : ∃ w3, w3 = w1.drewN nq := ⟨_, rfl⟩
  rw [← e_w3]
  have F3 : Hid (FrA w p q mi mf xf g g2 pt.toNat cm.toNat 0 0 w3) := Lib.hid (by rw [e_w3]; exact F1.out.step (bel_drewN _ (Below.refl _ _)))
  clear h0 h1 F1 e_w3 K36 K40 K39 KC
  obtain ⟨⟨⟨h0, h1⟩, ⟨h2, h3⟩, h4, h5, h6⟩, ⟨k0, k1⟩, ⟨d0, d1⟩, ⟨f0, f1⟩, hs, hB⟩ := F3.out
  clear h0 h1 h2 h3 h4 h5 h6 k1 d0 d1 f0 f1
  have CV := convC44 w3 pt
  go_wp2_with fail
  refine (K34.out _ belx).mono ?_
  rintro e w4 ⟨rfl, hb⟩
  have hb4 : Below w3.heap.size w3 w4 := belx
  have F4 := Lib.hid (F3.out.step hb4)
  clear hb hb4 F3 k0 hB hs CV K34
  obtain ⟨⟨⟨h0, h1⟩, ⟨h2, h3⟩, h4, h5, h6⟩, ⟨k0, k1⟩, ⟨d0, d1⟩, ⟨f0, f1⟩, hs, hB⟩ := F4.out
  clear h0 h1 h2 h3 h4 h5 h6 k0 d0 d1 f0 f1
  have CV := convC44 w4 cm
  go_wp2_with fail
  refine (K42.out _ belx).mono ?_
  rintro e w5 ⟨rfl, hb⟩
  have hb5 : Below w4.heap.size w4 w5 := belx
  have F5 := Lib.hid (F4.out.step hb5)
  clear hb hb5 F4 k1 hB hs CV K42
  go_wp2_with fail
  refine (K41.out _).mono ?_
  rintro e w6 ⟨rfl, rfl⟩
  clear K41
  rcases hWl with ⟨hW, rfl⟩ | ⟨hW, rfl⟩
  · go_wp2_with fail
    refine (K43.out _).mono ?_
    rintro e w6 ⟨rfl, rfl⟩
    clear K43
    by_cases hB0 : Bt.toList = []
    · cases neg
      · obtain rfl : TX = ⟨#[48]⟩ := G1.out hB0
        clear G1 G2
        go_wp2_with fail
        refine (K44.out _ F5.out.bel).mono ?_
        rintro e w7 ⟨rfl, hb⟩
        have F8 := Lib.hid ((F5.out.step hb).step (w := w) (W' := w7.alloc (.cells #[.int .i64 c2, .int .i64 s2] 23)) belx)
        clear hb K44
        obtain ⟨⟨⟨h0, h1⟩, ⟨h2, h3⟩, h4, h5, h6⟩, ⟨k0, k1⟩, ⟨d0, d1⟩, ⟨f0, f1⟩, hs, hB⟩ := F8.out
        clear d0 d1 f0 f1 hs hB
        go_wp2_with fail
        refine (K10.out _ F8.out.bel).mono ?_
        rintro e w9 ⟨rfl, hb⟩
        clear h0 h1 h2 h3 h4 h5 h6 k0 k1
        have e0 : w9.cell? ⟨w7.heap.size, 0, none⟩ = some (.int .i64 c2) := carry hb (by go_simp)
        have e1 : w9.cell? ⟨w7.heap.size, 1, none⟩ = some (.int .i64 s2) := carry hb (by go_simp)
        have F9 := Lib.hid (F8.out.step hb)
        clear hb F8 K10
        obtain ⟨⟨⟨h0, h1⟩, ⟨h2, h3⟩, h4, h5, h6⟩, ⟨k0, k1⟩, ⟨d0, d1⟩, ⟨f0, f1⟩, hs, hB⟩ := F9.out
        clear h0 h1 h2 h3 h5 h6 k0 k1
        go_wp2_with fail
        exact bodyPost_ret (v := .tuple #[decV c2 s2, .nilIface]) (by simp [results, Tryz.results11, go_sem, d0, d1]) rfl ⟨rfl, belx⟩
      · obtain rfl : TX = N0 := G1.out hB0
        clear G1 G2
        go_wp2_with fail
        refine (K44.out _ F5.out.bel).mono ?_
        rintro e w7 ⟨rfl, hb⟩
        have F8 := Lib.hid ((F5.out.step hb).step (w := w) (W' := w7.alloc (.cells #[.int .i64 c2, .int .i64 s2] 23)) belx)
        clear hb K44
        obtain ⟨⟨⟨h0, h1⟩, ⟨h2, h3⟩, h4, h5, h6⟩, ⟨k0, k1⟩, ⟨d0, d1⟩, ⟨f0, f1⟩, hs, hB⟩ := F8.out
        clear d0 d1 f0 f1 hs hB
        go_wp2_with fail
        refine (K10.out _ F8.out.bel).mono ?_
        rintro e w9 ⟨rfl, hb⟩
        clear h0 h1 h2 h3 h4 h5 h6 k0 k1
        have e0 : w9.cell? ⟨w7.heap.size, 0, none⟩ = some (.int .i64 c2) := carry hb (by go_simp)
        have e1 : w9.cell? ⟨w7.heap.size, 1, none⟩ = some (.int .i64 s2) := carry hb (by go_simp)
        have F9 := Lib.hid (F8.out.step hb)
        clear hb F8 K10
        obtain ⟨⟨⟨h0, h1⟩, ⟨h2, h3⟩, h4, h5, h6⟩, ⟨k0, k1⟩, ⟨d0, d1⟩, ⟨f0, f1⟩, hs, hB⟩ := F9.out
        clear h0 h1 h2 h3 h5 h6 k0 k1
        go_wp2_with fail
        exact bodyPost_ret (v := .tuple #[decV c2 s2, .nilIface]) (by simp [results, Tryz.results11, go_sem, d0, d1]) rfl ⟨rfl, belx⟩
    · have b2 : Bt.toList.isEmpty = false := by cases hq : Bt.toList with | nil => exact absurd hq hB0 | cons x xl => rfl
      cases neg
      · obtain rfl : TX = V := G2.out hB0
        clear G1 G2
        go_wp2_with fail
        refine (K44.out _ F5.out.bel).mono ?_
        rintro e w7 ⟨rfl, hb⟩
        have F8 := Lib.hid ((F5.out.step hb).step (w := w) (W' := w7.alloc (.cells #[.int .i64 c2, .int .i64 s2] 23)) belx)
        clear hb K44
        obtain ⟨⟨⟨h0, h1⟩, ⟨h2, h3⟩, h4, h5, h6⟩, ⟨k0, k1⟩, ⟨d0, d1⟩, ⟨f0, f1⟩, hs, hB⟩ := F8.out
        clear d0 d1 f0 f1 hs hB
        go_wp2_with fail
        refine (K10.out _ F8.out.bel).mono ?_
        rintro e w9 ⟨rfl, hb⟩
        clear h0 h1 h2 h3 h4 h5 h6 k0 k1
        have e0 : w9.cell? ⟨w7.heap.size, 0, none⟩ = some (.int .i64 c2) := carry hb (by go_simp)
        have e1 : w9.cell? ⟨w7.heap.size, 1, none⟩ = some (.int .i64 s2) := carry hb (by go_simp)
        have F9 := Lib.hid (F8.out.step hb)
        clear hb F8 K10
        obtain ⟨⟨⟨h0, h1⟩, ⟨h2, h3⟩, h4, h5, h6⟩, ⟨k0, k1⟩, ⟨d0, d1⟩, ⟨f0, f1⟩, hs, hB⟩ := F9.out
        clear h0 h1 h2 h3 h5 h6 k0 k1
        go_wp2_with fail
        exact bodyPost_ret (v := .tuple #[decV c2 s2, .nilIface]) (by simp [results, Tryz.results11, go_sem, d0, d1]) rfl ⟨rfl, belx⟩
      · obtain rfl : TX = N1 := G2.out hB0
        clear G1 G2
        go_wp2_with fail
        refine (K44.out _ F5.out.bel).mono ?_
        rintro e w7 ⟨rfl, hb⟩
        have F8 := Lib.hid ((F5.out.step hb).step (w := w) (W' := w7.alloc (.cells #[.int .i64 c2, .int .i64 s2] 23)) belx)
        clear hb K44
        obtain ⟨⟨⟨h0, h1⟩, ⟨h2, h3⟩, h4, h5, h6⟩, ⟨k0, k1⟩, ⟨d0, d1⟩, ⟨f0, f1⟩, hs, hB⟩ := F8.out
        clear d0 d1 f0 f1 hs hB
        go_wp2_with fail
        refine (K10.out _ F8.out.bel).mono ?_
        rintro e w9 ⟨rfl, hb⟩
        clear h0 h1 h2 h3 h4 h5 h6 k0 k1
        have e0 : w9.cell? ⟨w7.heap.size, 0, none⟩ = some (.int .i64 c2) := carry hb (by go_simp)
        have e1 : w9.cell? ⟨w7.heap.size, 1, none⟩ = some (.int .i64 s2) := carry hb (by go_simp)
        have F9 := Lib.hid (F8.out.step hb)
        clear hb F8 K10
        obtain ⟨⟨⟨h0, h1⟩, ⟨h2, h3⟩, h4, h5, h6⟩, ⟨k0, k1⟩, ⟨d0, d1⟩, ⟨f0, f1⟩, hs, hB⟩ := F9.out
        clear h0 h1 h2 h3 h5 h6 k0 k1
        go_wp2_with fail
        exact bodyPost_ret (v := .tuple #[decV c2 s2, .nilIface]) (by simp [results, Tryz.results11, go_sem, d0, d1]) rfl ⟨rfl, belx⟩
  · go_wp2_with fail
    refine (K43.out _).mono ?_
    rintro e w6 ⟨rfl, rfl⟩
    clear K43
    by_cases hB0 : Bt.toList = []
    · cases neg
      · obtain rfl : TX = D := G1.out hB0
        clear G1 G2
        go_wp2_with fail
        refine (K44.out _ F5.out.bel).mono ?_
        rintro e w7 ⟨rfl, hb⟩
        have F8 := Lib.hid ((F5.out.step hb).step (w := w) (W' := w7.alloc (.cells #[.int .i64 c2, .int .i64 s2] 23)) belx)
        clear hb K44
        obtain ⟨⟨⟨h0, h1⟩, ⟨h2, h3⟩, h4, h5, h6⟩, ⟨k0, k1⟩, ⟨d0, d1⟩, ⟨f0, f1⟩, hs, hB⟩ := F8.out
        clear d0 d1 f0 f1 hs hB
        go_wp2_with fail
        refine (K10.out _ F8.out.bel).mono ?_
        rintro e w9 ⟨rfl, hb⟩
        clear h0 h1 h2 h3 h4 h5 h6 k0 k1
        have e0 : w9.cell? ⟨w7.heap.size, 0, none⟩ = some (.int .i64 c2) := carry hb (by go_simp)
        have e1 : w9.cell? ⟨w7.heap.size, 1, none⟩ = some (.int .i64 s2) := carry hb (by go_simp)
        have F9 := Lib.hid (F8.out.step hb)
        clear hb F8 K10
        obtain ⟨⟨⟨h0, h1⟩, ⟨h2, h3⟩, h4, h5, h6⟩, ⟨k0, k1⟩, ⟨d0, d1⟩, ⟨f0, f1⟩, hs, hB⟩ := F9.out
        clear h0 h1 h2 h3 h5 h6 k0 k1
        go_wp2_with fail
        exact bodyPost_ret (v := .tuple #[decV c2 s2, .nilIface]) (by simp [results, Tryz.results11, go_sem, d0, d1]) rfl ⟨rfl, belx⟩
      · obtain rfl : TX = N0 := G1.out hB0
        clear G1 G2
        go_wp2_with fail
        refine (K44.out _ F5.out.bel).mono ?_
        rintro e w7 ⟨rfl, hb⟩
        have F8 := Lib.hid ((F5.out.step hb).step (w := w) (W' := w7.alloc (.cells #[.int .i64 c2, .int .i64 s2] 23)) belx)
        clear hb K44
        obtain ⟨⟨⟨h0, h1⟩, ⟨h2, h3⟩, h4, h5, h6⟩, ⟨k0, k1⟩, ⟨d0, d1⟩, ⟨f0, f1⟩, hs, hB⟩ := F8.out
        clear d0 d1 f0 f1 hs hB
        go_wp2_with fail
        refine (K10.out _ F8.out.bel).mono ?_
        rintro e w9 ⟨rfl, hb⟩
        clear h0 h1 h2 h3 h4 h5 h6 k0 k1
        have e0 : w9.cell? ⟨w7.heap.size, 0, none⟩ = some (.int .i64 c2) := carry hb (by go_simp)
        have e1 : w9.cell? ⟨w7.heap.size, 1, none⟩ = some (.int .i64 s2) := carry hb (by go_simp)
        have F9 := Lib.hid (F8.out.step hb)
        clear hb F8 K10
        obtain ⟨⟨⟨h0, h1⟩, ⟨h2, h3⟩, h4, h5, h6⟩, ⟨k0, k1⟩, ⟨d0, d1⟩, ⟨f0, f1⟩, hs, hB⟩ := F9.out
        clear h0 h1 h2 h3 h5 h6 k0 k1
        go_wp2_with fail
        exact bodyPost_ret (v := .tuple #[decV c2 s2, .nilIface]) (by simp [results, Tryz.results11, go_sem, d0, d1]) rfl ⟨rfl, belx⟩
    · have b2 : Bt.toList.isEmpty = false := by cases hq : Bt.toList with | nil => exact absurd hq hB0 | cons x xl => rfl
      cases neg
      · obtain rfl : TX = V := G2.out hB0
        clear G1 G2
        go_wp2_with fail
        refine (K44.out _ F5.out.bel).mono ?_
        rintro e w7 ⟨rfl, hb⟩
        have F8 := Lib.hid ((F5.out.step hb).step (w := w) (W' := w7.alloc (.cells #[.int .i64 c2, .int .i64 s2] 23)) belx)
        clear hb K44
        obtain ⟨⟨⟨h0, h1⟩, ⟨h2, h3⟩, h4, h5, h6⟩, ⟨k0, k1⟩, ⟨d0, d1⟩, ⟨f0, f1⟩, hs, hB⟩ := F8.out
        clear d0 d1 f0 f1 hs hB
        go_wp2_with fail
        refine (K10.out _ F8.out.bel).mono ?_
        rintro e w9 ⟨rfl, hb⟩
        clear h0 h1 h2 h3 h4 h5 h6 k0 k1
        have e0 : w9.cell? ⟨w7.heap.size, 0, none⟩ = some (.int .i64 c2) := carry hb (by go_simp)
        have e1 : w9.cell? ⟨w7.heap.size, 1, none⟩ = some (.int .i64 s2) := carry hb (by go_simp)
        have F9 := Lib.hid (F8.out.step hb)
        clear hb F8 K10
        obtain ⟨⟨⟨h0, h1⟩, ⟨h2, h3⟩, h4, h5, h6⟩, ⟨k0, k1⟩, ⟨d0, d1⟩, ⟨f0, f1⟩, hs, hB⟩ := F9.out
        clear h0 h1 h2 h3 h5 h6 k0 k1
        go_wp2_with fail
        exact bodyPost_ret (v := .tuple #[decV c2 s2, .nilIface]) (by simp [results, Tryz.results11, go_sem, d0, d1]) rfl ⟨rfl, belx⟩
      · obtain rfl : TX = N1 := G2.out hB0
        clear G1 G2
        go_wp2_with fail
        refine (K44.out _ F5.out.bel).mono ?_
        rintro e w7 ⟨rfl, hb⟩
        have F8 := Lib.hid ((F5.out.step hb).step (w := w) (W' := w7.alloc (.cells #[.int .i64 c2, .int .i64 s2] 23)) belx)
        clear hb K44
        obtain ⟨⟨⟨h0, h1⟩, ⟨h2, h3⟩, h4, h5, h6⟩, ⟨k0, k1⟩, ⟨d0, d1⟩, ⟨f0, f1⟩, hs, hB⟩ := F8.out
        clear d0 d1 f0 f1 hs hB
        go_wp2_with fail
        refine (K10.out _ F8.out.bel).mono ?_
        rintro e w9 ⟨rfl, hb⟩
        clear h0 h1 h2 h3 h4 h5 h6 k0 k1
        have e0 : w9.cell? ⟨w7.heap.size, 0, none⟩ = some (.int .i64 c2) := carry hb (by go_simp)
        have e1 : w9.cell? ⟨w7.heap.size, 1, none⟩ = some (.int .i64 s2) := carry hb (by go_simp)
        have F9 := Lib.hid (F8.out.step hb)
        clear hb F8 K10
        obtain ⟨⟨⟨h0, h1⟩, ⟨h2, h3⟩, h4, h5, h6⟩, ⟨k0, k1⟩, ⟨d0, d1⟩, ⟨f0, f1⟩, hs, hB⟩ := F9.out
        clear h0 h1 h2 h3 h5 h6 k0 k1
        go_wp2_with fail
        exact bodyPost_ret (v := .tuple #[decV c2 s2, .nilIface]) (by simp [results, Tryz.results11, go_sem, d0, d1]) rfl ⟨rfl, belx⟩
end Go.Proofs.YtplaohmdllindaaGreatDoor

/- nout.Format and nout.Read at every pattern, signs and number that came in. -/
namespace Go.Proofs.YtplaohmdllindaaGreatDoor
open Go.RowKit

theorem affB_small {p : ByteArray} (h : affB p = true) : p.size ≤ 5 := by
  unfold affB at h
  rw [Bool.and_eq_true] at h
  exact of_decide_eq_true h.1
theorem affB_not {p : ByteArray} (h : affB p = true) (c : UInt8) (hc : lets.data.toList.contains c = false) : c ∉ p.data.toList := by
  unfold affB at h
  rw [Bool.and_eq_true, List.all_eq_true] at h
  intro hm
  have := h.2 c hm
  rw [hc] at this
  exact absurd this (by decide)
theorem sign_mem {c : UInt8} (h : ([46, 44, 39, 95] : List UInt8).contains c = true) : c = 46 ∨ c = 44 ∨ c = 39 ∨ c = 95 := by
  simp at h
  exact h
theorem sign_not {c : UInt8} (h : ([46, 44, 39, 95] : List UInt8).contains c = true) : ¬ (48 ≤ c.toNat ∧ c.toNat ≤ 57) ∧ c ≠ 45 := by
  rcases sign_mem h with rfl | rfl | rfl | rfl <;> decide
theorem noutErr_facts {p q : ByteArray} {mi mf xf g g2 : Int} {pt cm : UInt8} (h : noutErr p q mi mf xf g g2 pt cm = 0) :
    patErr p q mi mf xf g g2 = 0 ∧ affB p = true ∧ affB q = true ∧ PatIn mi mf xf g g2 ∧ ¬ (g2 ≠ 0 ∧ g = 0) ∧ pt ≠ cm ∧ ([46, 44, 39, 95] : List UInt8).contains pt = true ∧ ([46, 44, 39, 95] : List UInt8).contains cm = true := by
  unfold noutErr at h
  by_cases h0 : patErr p q mi mf xf g g2 = 0
  · rw [if_pos h0] at h
    have hs : signOk pt cm = true := by
      cases hh : signOk pt cm
      · rw [hh] at h; exact absurd h (by decide)
      · rfl
    unfold signOk at hs
    rw [Bool.and_eq_true, Bool.and_eq_true] at hs
    obtain ⟨⟨s1, s2⟩, s3⟩ := hs
    have h1 := h0
    unfold patErr at h1
    split at h1
    · exact absurd h1 (by decide)
    · rename_i a1
      split at h1
      · exact absurd h1 (by decide)
      · rename_i a2
        split at h1
        · exact absurd h1 (by decide)
        · rename_i a3
          refine ⟨h0, ?_, ?_, Classical.not_not.1 a2, a3, ?_, s2, s3⟩
          · cases hh : affB p; exact absurd (.inl hh) a1; rfl
          · cases hh : affB q; exact absurd (.inr hh) a1; rfl
          · intro he; subst he; simp at s1
  · rw [if_neg h0] at h
    exact absurd h h0

/-- nout.Format, whatever came in: 0 or the word, and the text -/
def fmtR (p q : ByteArray) (mi mf xf g g2 : Int) (pt cm : UInt8) (c s : Int) : Int × ByteArray :=
  if noutErr p q mi mf xf g g2 pt cm = 0 then (if decOk c s then (0, fmtT p q mi.toNat mf.toNat xf.toNat g.toNat g2.toNat pt cm c s.toNat) else (1, ⟨#[]⟩)) else (noutErr p q mi mf xf g g2 pt cm, ⟨#[]⟩)
theorem format_no (p q : ByteArray) (mi mf xf g g2 : Int) (pt cm : UInt8) (c s : Int) (w : World) (hn : ¬ decOk c s)
    (hE : ∀ W : World, Calls Tryz.prog 31 #[patV p q mi mf xf g g2, symC pt cm] W fun e w' => e = .returned .nilIface ∧ Below W.heap.size W w') :
    Calls Tryz.prog 10 #[patV p q mi mf xf g g2, symC pt cm, decV c s] w fun e w' => e = .returned (.tuple #[.string ⟨#[]⟩, errV 1]) ∧ Below w.heap.size w w' := by
  have KP := Lib.hid hE
  have KD := Lib.hid (fun W => dec_check_no c s W hn)
  clear hn hE
  go_enter Tryz.func10, Tryz.ntmps10
  go_wp2_with fail
  refine (KP.out _).mono ?_
  rintro e w1 ⟨rfl, hb1⟩
  have s1 := hb1.size
  simp at s1
  have c0 : w1.cell? ⟨w.heap.size + 1 + 1, 0, none⟩ = some (.int .i64 c) := carry hb1 (by go_simp)
  have c1 : w1.cell? ⟨w.heap.size + 1 + 1, 1, none⟩ = some (.int .i64 s) := carry hb1 (by go_simp)
  go_wp2_with fail
  refine (KD.out _).mono ?_
  rintro e w2 ⟨rfl, hb2⟩
  have s2 := hb2.size
  go_wp2_with fail
  go_ret2
  exact ⟨rfl, belx⟩
theorem format_wrong (p q : ByteArray) (mi mf xf g g2 : Int) (pt cm : UInt8) (c s k : Int) (w : World)
    (hE : ∀ W : World, Calls Tryz.prog 31 #[patV p q mi mf xf g g2, symC pt cm] W fun e w' => e = .returned (errT k) ∧ Below W.heap.size W w') :
    Calls Tryz.prog 10 #[patV p q mi mf xf g g2, symC pt cm, decV c s] w fun e w' => e = .returned (.tuple #[.string ⟨#[]⟩, errT k]) ∧ Below w.heap.size w w' := by
  have KP := Lib.hid hE
  clear hE
  go_enter Tryz.func10, Tryz.ntmps10
  go_wp2_with fail
  refine (KP.out _).mono ?_
  rintro e w1 ⟨rfl, hb1⟩
  have s1 := hb1.size
  simp at s1
  go_wp2_with fail
  go_ret2
  exact ⟨rfl, belx⟩
theorem nout_format_all (p q : ByteArray) (mi mf xf g g2 : Int) (pt cm : UInt8) (c s : Int) (w : World) (hM : MaxL w) (hP : Pow w) (hp : p.size ≤ 9223372036854775807) (hq : q.size ≤ 9223372036854775807) :
    Calls Tryz.prog 10 #[patV p q mi mf xf g g2, symC pt cm, decV c s] w fun e w' => e = .returned (.tuple #[.string (fmtR p q mi mf xf g g2 pt cm c s).2, errOf (fmtR p q mi mf xf g g2 pt cm c s).1]) ∧ Below w.heap.size w w' := by
  have hE := fun W => nout_check_any p q mi mf xf g g2 pt cm W hp hq
  unfold fmtR
  by_cases he : noutErr p q mi mf xf g g2 pt cm = 0
  · rw [he] at hE
    rw [if_pos he]
    by_cases hn : decOk c s
    · rw [if_pos hn]
      obtain ⟨he0, hap, haq, ⟨i1, i2, i3, i4, i5, i6, i7, i8, i9, i10⟩, hz, hne, hpt, hcm⟩ := noutErr_facts he
      have n1 : ((mi.toNat : Nat) : Int) = mi := by omega
      have n2 : ((mf.toNat : Nat) : Int) = mf := by omega
      have n3 : ((xf.toNat : Nat) : Int) = xf := by omega
      have n4 : ((g.toNat : Nat) : Int) = g := by omega
      have n5 : ((g2.toNat : Nat) : Int) = g2 := by omega
      have n6 : ((s.toNat : Nat) : Int) = s := by have := hn.1; omega
      have := format_right p q mi.toNat mf.toNat xf.toNat g.toNat g2.toNat pt cm c s.toNat w hM hP (affB_small hap) (affB_small haq) (by rw [n1, n2, n3, n4, n5]; exact hE) (by omega) (by omega) (by omega) (by rw [n6]; exact hn) (sign_not hcm).1 (by omega) (by omega) (by omega)
      rw [n1, n2, n3, n4, n5, n6] at this
      exact this
    · rw [if_neg hn]
      exact format_no p q mi mf xf g g2 pt cm c s w hn hE
  · have e0 : errOf (noutErr p q mi mf xf g g2 pt cm) = errT (noutErr p q mi mf xf g g2 pt cm) := by unfold errOf; rw [if_neg he]
    rw [if_neg he, e0]
    rw [e0] at hE
    exact format_wrong p q mi mf xf g g2 pt cm c s _ w hE

set_option maxHeartbeats 1000000 in
theorem nout_read (p q : ByteArray) (mi mf xf g g2 : Nat) (pt cm : UInt8) (c : Int) (s : Nat) (w : World) (hM : MaxL w) (hP : Pow w) (he : noutErr p q mi mf xf g g2 pt cm = 0) (hn : decOk c s) :
    Calls Tryz.prog 11 #[patV p q mi mf xf g g2, symC pt cm, .string (fmtT p q mi mf xf g g2 pt cm c s)] w fun e w' => e = .returned (.tuple #[decV (fixP xf c s).1 (fixP xf c s).2, .nilIface]) ∧ Below w.heap.size w w' := by
  obtain ⟨he0, hap, haq, ⟨i1, i2, i3, i4, i5, i6, i7, i8, i9, i10⟩, hz, hne, hpt, hcm⟩ := noutErr_facts he
  have hE : ∀ W : World, Calls Tryz.prog 31 #[patV p q mi mf xf g g2, symC pt cm] W fun e w' => e = .returned .nilIface ∧ Below W.heap.size W w' := fun W => by
    have := nout_check_any p q mi mf xf g g2 pt cm W (by have := affB_small hap; omega) (by have := affB_small haq; omega)
    rw [he] at this
    exact this
  obtain ⟨pd, pm⟩ := sign_not hpt
  obtain ⟨cd, cmm⟩ := sign_not hcm
  have hps := affB_small hap
  have hqs := affB_small haq
  have hff : fmtT p q mi mf xf g g2 pt cm (fixP xf c s).1 (fixP xf c s).2 = fmtT p q mi mf xf g g2 pt cm c s := by unfold fmtT; rw [fix_fix hn]
  have hle := fix_le (xf := xf) hn
  have hlast := fix_last xf c s
  have hok := (fixP_le (xf := xf) hn).1
  have hF : ∀ W : World, Below w.heap.size w W → Calls Tryz.prog 10 #[patV p q mi mf xf g g2, symC pt cm, decV (fixP xf c s).1 (fixP xf c s).2] W fun e w' => e = .returned (.tuple #[.string (fmtT p q mi mf xf g g2 pt cm c s), .nilIface]) ∧ Below W.heap.size W w' := fun W hb => by
    have := format_right p q mi mf xf g g2 pt cm (fixP xf c s).1 (fixP xf c s).2 W (hM.below hb) (hP.below hb) hps hqs hE (by omega) (by omega) (by omega) hok cd (by omega) (by omega) (by omega)
    rw [hff] at this
    exact this
  have hX : fmtT p q mi mf xf g g2 pt cm c s = noutB (decide ((fixP xf c s).1 < 0)) p (putC cm g g2 (zeroB (mi - (wholeB (fixP xf c s).1 (fixP xf c s).2).size) ++ wholeB (fixP xf c s).1 (fixP xf c s).2)) (behindB (fixP xf c s).1 (fixP xf c s).2 ++ zeroB (mf - (behindB (fixP xf c s).1 (fixP xf c s).2).size)) q pt := rfl
  generalize fmtT p q mi mf xf g g2 pt cm c s = X at *
  clear hff he he0
  generalize (fixP xf c s).1 = c2 at *
  generalize (fixP xf c s).2 = s2 at *
  obtain ⟨z1, z2, z3⟩ := parts_size hok
  generalize hk : mi - (wholeB c2 s2).size = k at *
  generalize hl : mf - (behindB c2 s2).size = l at *
  have hG := putC_size cm g g2 (zeroB k ++ wholeB c2 s2)
  rw [ByteArray.size_append, zeroB_size] at hG
  have hBs : (behindB c2 s2 ++ zeroB l).size ≤ 40 := by rw [ByteArray.size_append, zeroB_size]; omega
  have hdig : allD (zeroB k ++ wholeB c2 s2).data.toList := fun x hx => by
    rw [ByteArray.data_append, Array.toList_append, List.mem_append] at hx
    rcases hx with hx | hx
    · exact rep_allD k x hx
    · exact whole_allD c2 s2 x hx
  have hBd : allD (behindB c2 s2 ++ zeroB l).data.toList := fun x hx => by
    rw [ByteArray.data_append, Array.toList_append, List.mem_append] at hx
    rcases hx with hx | hx
    · exact behind_allD c2 s2 x hx
    · exact rep_allD l x hx
  have hTm : ∀ x : UInt8, x ≠ cm → ¬ (48 ≤ x.toNat ∧ x.toNat ≤ 57) → x ∉ (putC cm g g2 (zeroB k ++ wholeB c2 s2)).data.toList := fun x hx hd hm => by
    rcases put_mem cm g g2 _ (allD_not hdig cm cd) hm with h | h
    · exact hx h
    · exact hd (hdig x h)
  have hWr := put_filter cm g g2 (zeroB k ++ wholeB c2 s2) (allD_not hdig cm cd)
  generalize hT : putC cm g g2 (zeroB k ++ wholeB c2 s2) = T at *
  have hBt := right_behind l c2 s2 hlast
  have hBl : (behindB c2 s2 ++ zeroB l).data.toList = (behindB c2 s2).data.toList ++ Lib.repeatL [48] l := by simp [zeroB]
  have hWl := lead_whole k c2 s2
  have hWrl : (zeroB k ++ wholeB c2 s2).data.toList = Lib.repeatL [48] k ++ (wholeB c2 s2).data.toList := by simp [zeroB]
  generalize hB : behindB c2 s2 ++ zeroB l = B at *
  have hta : ∃ tl : List UInt8, (if B.toList.isEmpty then [] else pt :: B.data.toList) = tl ∧ tl.length ≤ 41 ∧ (45 : UInt8) ∉ tl ∧ ∃ has, Lib.cut (T.data.toList ++ tl) [pt] = (T.data.toList, B.data.toList, has) := by
    have hpT := hTm pt hne pd
    rw [Lib.toList_data]
    cases hb : B.data.toList with
    | nil =>
      refine ⟨[], rfl, by simp, by simp, false, ?_⟩
      rw [List.append_nil]
      exact cut_none _ _ hpT
    | cons x r =>
      refine ⟨pt :: x :: r, rfl, ?_, ?_, true, cut_at _ _ _ hpT⟩
      · have := congrArg List.length hb
        rw [bsize] at this
        simp at this ⊢
        omega
      · intro hm
        rw [← hb] at hm
        rcases List.mem_cons.1 hm with h | h
        · exact pm h.symm
        · exact absurd (hBd 45 h) (by decide)
  obtain ⟨tl, htl, htn, ht45, has, hcut⟩ := hta
  have hXl : X = ⟨((if decide (c2 < 0) = true then [45] else []) ++ (p.data.toList ++ ((T.data.toList ++ tl) ++ q.data.toList))).toArray⟩ := by
    rw [hX]
    unfold noutB
    rw [htl]
    simp [List.append_assoc]
  have hb45 : (45 : UInt8) ∉ p.data.toList ++ ((T.data.toList ++ tl) ++ q.data.toList) := by
    intro hm
    rcases List.mem_append.1 hm with h | h
    · exact affB_not hap 45 (by decide) h
    · rcases List.mem_append.1 h with h | h
      · rcases List.mem_append.1 h with h | h
        · exact hTm 45 (fun e => cmm e.symm) (by decide) h
        · exact ht45 h
      · exact affB_not haq 45 (by decide) h
  have hpre : Lib.trimPrefix X.data.toList [45] = p.data.toList ++ ((T.data.toList ++ tl) ++ q.data.toList) ∧ Lib.hasPrefix X.data.toList [45] = decide (c2 < 0) := by
    rw [hXl]
    cases decide (c2 < 0)
    · exact ⟨no_trimPrefix 45 _ hb45, no_prefix 45 _ hb45⟩
    · exact ⟨trimPre_app [45] _, rfl⟩
  have hTs : T.data.toList.length ≤ 300 := by rw [bsize]; omega
  refine nout_read_any p q mi mf xf g g2 pt cm c2 s2 X ⟨(p.data.toList ++ ((T.data.toList ++ tl) ++ q.data.toList)).toArray⟩ ⟨((T.data.toList ++ tl) ++ q.data.toList).toArray⟩ ⟨(T.data.toList ++ tl).toArray⟩ T B (zeroB k ++ wholeB c2 s2) ⟨(Lib.trimLeftB (zeroB k ++ wholeB c2 s2).data.toList 48).toArray⟩ (behindB c2 s2) (wholeB c2 s2) (decT c2 s2) has (decide (c2 < 0)) w hE ?_ ?_ ?_ ?_ ?_ ?_ ?_ (fun W hb => dec_parse c2 s2 W (hM.below hb) (hP.below hb) hok) hF ?_ (by omega) (by omega) ?_ (by omega)
  · intro W
    refine (Tryz.strings_CutPrefix X ⟨#[45]⟩ W).mono ?_
    rintro e w' ⟨rfl, rfl⟩
    refine ⟨?_, rfl⟩
    rw [show (⟨#[45]⟩ : ByteArray).data.toList = [45] from rfl, hpre.1, hpre.2]
  · intro W
    refine (Tryz.strings_TrimPrefix _ p W).mono ?_
    rintro e w' ⟨rfl, h⟩
    refine ⟨?_, h⟩
    show Ending.returned (.string ⟨(Lib.trimPrefix (p.data.toList ++ ((T.data.toList ++ tl) ++ q.data.toList)) p.data.toList).toArray⟩) = _
    rw [trimPre_app]
  · intro W
    refine (Tryz.strings_TrimSuffix _ q W (by show (T.data.toList ++ tl ++ q.data.toList).length ≤ _; rw [List.length_append, List.length_append, bsize q]; omega)).mono ?_
    rintro e w' ⟨rfl, h⟩
    refine ⟨?_, h⟩
    show Ending.returned (.string ⟨(Lib.trimSuffix ((T.data.toList ++ tl) ++ q.data.toList) q.data.toList).toArray⟩) = _
    rw [trimSuf_app]
  · intro W hb
    obtain ⟨m, hm⟩ := hM.below hb
    refine (Tryz.strings_Cut _ ⟨#[pt]⟩ m W (by show (T.data.toList ++ tl).length < _; rw [List.length_append]; omega) hm).mono ?_
    rintro e w' ⟨rfl, n, rfl⟩
    refine ⟨?_, bel_drewN _ (Below.refl _ _)⟩
    show Ending.returned (.tuple #[.string ⟨(Lib.cut (T.data.toList ++ tl) [pt]).1.toArray⟩, .string ⟨(Lib.cut (T.data.toList ++ tl) [pt]).2.1.toArray⟩, .bool (Lib.cut (T.data.toList ++ tl) [pt]).2.2]) = _
    rw [hcut]
  · intro W hb
    obtain ⟨m, hm⟩ := hM.below hb
    refine (Tryz.strings_ReplaceAll T ⟨#[cm]⟩ ⟨#[]⟩ m W (by rw [← bsize]; omega) hm (by show 1 ≤ 1; omega) (by show T.size + _ * 0 ≤ _; rw [← bsize]; omega)).mono ?_
    rintro e w' ⟨rfl, h⟩
    refine ⟨?_, h⟩
    show Ending.returned (.string ⟨(Lib.replaceAll T.data.toList [cm] []).toArray⟩) = _
    rw [hWr]
  · intro W
    refine (Tryz.strings_TrimLeft_one _ 48 (by decide) W).mono ?_
    rintro e w' ⟨rfl, h⟩
    exact ⟨rfl, h.symm⟩
  · intro W
    refine (Tryz.strings_TrimRight_one _ 48 (by decide) W (by omega)).mono ?_
    rintro e w' ⟨rfl, h⟩
    refine ⟨?_, h.symm⟩
    rw [hBl, hBt]
  · unfold leadP at hWl
    rw [hWrl]
    rw [Lib.toList_data]
    show (Lib.trimLeftB (Lib.repeatL [48] k ++ (wholeB c2 s2).data.toList) 48 = [] ∧ _) ∨ ((Lib.trimLeftB (Lib.repeatL [48] k ++ (wholeB c2 s2).data.toList) 48).isEmpty = false ∧ _)
    cases hw : Lib.trimLeftB (Lib.repeatL [48] k ++ (wholeB c2 s2).data.toList) 48 with
    | nil =>
      rw [hw] at hWl
      exact .inl ⟨rfl, ByteArray.ext (Array.ext' hWl.symm)⟩
    | cons x r =>
      rw [hw] at hWl
      exact .inr ⟨rfl, ByteArray.ext (Array.ext' hWl.symm)⟩
  · apply ByteArray.ext
    apply Array.ext'
    rw [decT_again, Lib.toList_data]
    cases hb : (behindB c2 s2).data.toList with
    | nil => by_cases h : c2 < 0 <;> simp [h, hb]
    | cons x r => by_cases h : c2 < 0 <;> simp [h, hb]
end Go.Proofs.YtplaohmdllindaaGreatDoor
