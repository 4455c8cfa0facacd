/- Numeral, EvalCase, SayBase, SayPlain: texts put together. -/
import Derived.Test.YthlcjlmaaaappaaGreatDoorEw8
import Derived.Test.YthlcjlmaaaappaaGreatDoorEw4
import Derived.Test.YthlcjlmaaaappaaGreatDoorEw28
import Derived.Test.YthlcjlmaaaappaaGreatDoorEw27
import Derived.Test.YthlcjlmaaaappaaGreatDoorEw7
import Derived.Test.YthlcjlmaaaappaaGreatDoorEw5
import Derived.Deep.RegionHeld3
import Derived.Test.YthlcjlmaaaappaaGreatDoorEw12
import Derived.Test.YthlcjlmaaaappaaGreatDoorEw3
import Derived.Deep.RegionWith
import Derived.Deep.DeepCutAuto
set_option linter.unusedVariables false
set_option linter.unusedSimpArgs false
/- nout.Format of what is right; eval.Numeral. -/
namespace Go.Proofs.YthlcjlmaaaappaaGreatDoor
open Go.RowKit

theorem format_right (p q : ByteArray) (mi mf xf g g2 : Nat) (pt cm : UInt8) (c : Int) (s : Nat) (w : World) (hM : MaxL w) (hP : Pow w) (hp : p.size ≤ 5) (hq : q.size ≤ 5)
    (hE : ∀ W : World, Calls Tryz.prog 172 #[patV p q mi mf xf g g2, symC pt cm] W fun e w' => e = .returned .nilIface ∧ Below W.heap.size W w') (hmi : mi ≤ 9) (hmf : mf ≤ 6) (hx : xf ≤ 6) (hn : decOk c s) (hcm : ¬ (48 ≤ cm.toNat ∧ cm.toNat ≤ 57)) (hg : g ≤ 4) (hg2 : g2 ≤ 4) (hz : ¬ (g2 ≠ 0 ∧ g = 0)) :
    Calls Tryz.prog 150 #[patV p q mi mf xf g g2, symC pt cm, decV c s] w fun e w' => e = .returned (.tuple #[.string (fmtT p q mi mf xf g g2 pt cm c s), .nilIface]) ∧ Below w.heap.size w w' := by
  obtain ⟨c2, s2, h2⟩ : ∃ c2 s2, fixP xf c s = (c2, s2) := ⟨_, _, rfl⟩
  have hok : decOk c2 s2 := by have := (fixP_le (xf := xf) hn).1; rw [h2] at this; exact this
  obtain ⟨z1, z2, z3⟩ := parts_size hok
  obtain ⟨t1, t2⟩ := sw_prefix hok
  have hT := decT_size c2 s2 hok
  have hG := putC_size cm g g2 (zeroB (mi - (wholeB c2 s2).size) ++ wholeB c2 s2)
  have hzs := zeroB_size (mi - (wholeB c2 s2).size)
  rw [ByteArray.size_append, hzs] at hG
  have e : fmtT p q mi mf xf g g2 pt cm c s = noutB (decide (c2 < 0)) p (putC cm g g2 (zeroB (mi - (wholeB c2 s2).size) ++ wholeB c2 s2)) (behindB c2 s2 ++ zeroB (mf - (behindB c2 s2).size)) q pt := by unfold fmtT; rw [h2]
  rw [e]
  exact nout_any p q mi mf xf g g2 pt cm c s c2 s2 (decT c2 s2) (swB c2 s2) (wholeB c2 s2) (behindB c2 s2) _ _ _ _ _ rfl rfl w hM hp hq hE hmi hmf hx hn h2
    (fun W hb => dec_text c2 s2 W (hP.below hb) hok) hT (decT_cut c2 s2) t1 t2 (by omega) (by omega)
    (fun W => group_putC cm hcm g g2 _ W (by rw [ByteArray.size_append]; omega) (by rw [ByteArray.size_append, hzs]; omega) (put_digits hok _) hg hg2 hz) (by omega)

/-- the pattern of numerals lies there -/
def NumLaid (w : World) : Prop :=
  (w.cell? ⟨2, 0, none⟩ = some (.string ⟨#[]⟩) ∧ w.cell? ⟨2, 1, none⟩ = some (.string ⟨#[]⟩) ∧ w.cell? ⟨2, 2, none⟩ = some (.int .i64 1) ∧ w.cell? ⟨2, 3, none⟩ = some (.int .i64 0) ∧ w.cell? ⟨2, 4, none⟩ = some (.int .i64 3) ∧ w.cell? ⟨2, 5, none⟩ = some (.int .i64 3) ∧ w.cell? ⟨2, 6, none⟩ = some (.int .i64 0)) ∧
  w.cell? ⟨3, 0, none⟩ = some (.int .u8 46) ∧ w.cell? ⟨3, 1, none⟩ = some (.int .u8 44)
theorem NumLaid.below {w w' : World} (h : NumLaid w) (hb : Below w.heap.size w w') : NumLaid w' :=
  ⟨⟨carry hb h.1.1, carry hb h.1.2.1, carry hb h.1.2.2.1, carry hb h.1.2.2.2.1, carry hb h.1.2.2.2.2.1, carry hb h.1.2.2.2.2.2.1, carry hb h.1.2.2.2.2.2.2⟩, carry hb h.2.1, carry hb h.2.2⟩

theorem format_bad (c s : Int) (w : World) (hn : ¬ decOk c s) :
    Calls Tryz.prog 150 #[patV ⟨#[]⟩ ⟨#[]⟩ 1 0 3 3 0, symV, decV c s] w fun e w' => e = .returned (.tuple #[.string ⟨#[]⟩, errV 1]) ∧ Below w.heap.size w w' := by
  have KP : Hid (∀ W : World, Calls Tryz.prog 172 #[patV ⟨#[]⟩ ⟨#[]⟩ 1 0 3 3 0, symV] W fun e w' => e = .returned .nilIface ∧ Below W.heap.size W w') := Lib.hid (fun W => nout_check ⟨#[]⟩ ⟨#[]⟩ 1 0 3 3 0 W (by decide) (by decide))
  have KD := Lib.hid (fun W => dec_check_no c s W hn)
  clear hn
  go_enter Tryz.func150, Tryz.ntmps150
  go_wp2_with fail
  refine (KP.out _).mono ?_
  rintro e w1 ⟨rfl, hb1⟩
  have s1 := hb1.size
  simp at s1
  have c0 : w1.cell? ⟨w.heap.size + 1 + 1, 0, none⟩ = some (.int .i64 c) := carry hb1 (by go_simp)
  have c1 : w1.cell? ⟨w.heap.size + 1 + 1, 1, none⟩ = some (.int .i64 s) := carry hb1 (by go_simp)
  go_wp2_with fail
  refine (KD.out _).mono ?_
  rintro e w2 ⟨rfl, hb2⟩
  have s2 := hb2.size
  go_wp2_with fail
  go_ret2
  exact ⟨rfl, (by (repeat (first | with_reducible exact Below.refl _ _ | with_reducible refine bel_set ?_ ?_ | with_reducible refine bel_alloc ?_ ?_ | with_reducible refine Below.drew ?_ | with_reducible refine bel_drewN _ ?_ | with_reducible refine bel_call ?_ (by assumption) ?_)); all_goals (first | (simp; done) | omega | (simp; omega)))⟩
theorem format_num (c s : Int) (w : World) (hM : MaxL w) (hP : Pow w) :
    Calls Tryz.prog 150 #[patV ⟨#[]⟩ ⟨#[]⟩ 1 0 3 3 0, symV, decV c s] w fun e w' => e = .returned (.tuple #[.string (numP c s).2, errOf (numP c s).1]) ∧ Below w.heap.size w w' := by
  unfold numP
  by_cases h : decOk c s
  · rw [if_pos h]
    have hs : ((s.toNat : Nat) : Int) = s := by have := h.1; omega
    have := format_right ⟨#[]⟩ ⟨#[]⟩ 1 0 3 3 0 46 44 c s.toNat w hM hP (by decide) (by decide) (fun W => nout_check ⟨#[]⟩ ⟨#[]⟩ 1 0 3 3 0 W (by decide) (by decide)) (by omega) (by omega) (by omega) (by rw [hs]; exact h) (by decide) (by omega) (by omega) (by omega)
    rw [hs] at this
    exact this
  · rw [if_neg h]
    exact format_bad c s w h
/-- eval.Numeral -/
theorem numeral (c s : Int) (w : World) (hM : MaxL w) (hP : Pow w) (hL : NumLaid w) :
    Calls Tryz.prog 127 #[decV c s] w fun e w' => e = .returned (.tuple #[.string (numP c s).2, errOf (numP c s).1]) ∧ Below w.heap.size w w' := by
  have KF := Lib.hid (fun W (hb : Below w.heap.size w W) => format_num c s W (hM.below hb) (hP.below hb))
  obtain ⟨⟨l0, l1, l2, l3, l4, l5, l6⟩, m0, m1⟩ := hL.below ((Below.refl w.heap.size w).alloc (Nat.le_refl _) (.cells #[.int .i64 c, .int .i64 s] 51))
  clear hM hP hL
  generalize (numP c s).2 = T at *
  generalize errOf (numP c s).1 = E at *
  go_enter Tryz.func127, Tryz.ntmps127
  go_wp2_with fail
  refine (KF.out _ ((Below.refl _ _).alloc (Nat.le_refl _) _)).mono ?_
  rintro e w1 ⟨rfl, hb1⟩
  have s1 := hb1.size
  go_wp2_with fail
  go_ret2
  exact ⟨rfl, (by (repeat (first | with_reducible exact Below.refl _ _ | with_reducible refine bel_set ?_ ?_ | with_reducible refine bel_alloc ?_ ?_ | with_reducible refine Below.drew ?_ | with_reducible refine bel_drewN _ ?_ | with_reducible refine bel_call ?_ (by assumption) ?_)); all_goals (first | (simp; done) | omega | (simp; omega)))⟩
end Go.Proofs.YthlcjlmaaaappaaGreatDoor

/- eval.Case, eval.Choice. -/
namespace Go.Proofs.YthlcjlmaaaappaaGreatDoor
open Go.RowKit

theorem exC_le (l : List UInt8) : exC l ≤ 999 := by
  unfold exC
  split
  · split
    · split
      · omega
      · omega
    · omega
  · omega
theorem exC_ok {l : List UInt8} (h : 0 ≤ exC l) : decOk (exC l) 0 := by have := exC_le l; exact ⟨by omega, by omega, by omega, by omega⟩
/-- msg.Exact -/
theorem msg_Exact (s : ByteArray) (w : World) (hE : RuleEnv w) (hs : s.size ≤ 281474976710656) :
    Calls Tryz.prog 130 #[.string s] w fun e w' => e = .returned (.tuple #[.int .i64 (exC s.data.toList), .bool (decide (0 ≤ exC s.data.toList))]) ∧ Below w.heap.size w w' := by
  have K := Lib.hid (fun W (hb : Below w.heap.size w W) => msg_exact s W (hE.below hb) hs)
  clear hE hs
  generalize exC s.data.toList = X at *
  go_enter Tryz.func130, Tryz.ntmps130
  go_wp2_with fail
  refine (K.out _ (Below.refl _ _)).mono ?_
  rintro e w1 ⟨rfl, hb1⟩
  go_wp2_with fail
  refine (K.out _ hb1).mono ?_
  rintro e w2 ⟨rfl, hb2⟩
  by_cases h : 0 ≤ X
  · have hd : decide (0 ≤ X) = true := decide_eq_true h
    go_wp2_with fail
    go_ret2
    rw [hd]
    exact ⟨rfl, hb1.trans (hb2.mono hb1.size)⟩
  · have hd : decide (0 ≤ X) = false := decide_eq_false h
    go_wp2_with fail
    go_ret2
    rw [hd]
    exact ⟨rfl, hb1.trans (hb2.mono hb1.size)⟩
/-- dec.Add of a number and a Plural's offset -/
theorem add_less (c s off : Int) (w : World) (ho : 0 ≤ off ∧ off ≤ 9) :
    Calls Tryz.prog 128 #[decV c s, decV (-off) 0] w fun e w' => e = .returned (.tuple #[decV (lessP c s off).2.1 (lessP c s off).2.2, errOf (lessP c s off).1]) ∧ Below w.heap.size w w' := by
  have h2 : decOk (-off) 0 := ⟨by omega, by omega, by omega, by omega⟩
  by_cases h1 : decOk c s
  · have key : ∀ e : Ending, AddPost (c - off * ten s.toNat) s e → e = .returned (.tuple #[decV (lessP c s off).2.1 (lessP c s off).2.2, errOf (lessP c s off).1]) := fun e he => by
      unfold lessP
      by_cases hv : -1000000000000000 ≤ c - off * ten s.toNat ∧ c - off * ten s.toNat ≤ 1000000000000000
      · rw [if_pos ⟨h1, h2, hv⟩]
        exact he.1 hv
      · rw [if_neg (fun h => hv h.2.2)]
        exact he.2 hv
    by_cases hs : s ≤ 0
    · have h0 := h1.1
      obtain rfl : s = 0 := by omega
      refine (dec_add_le c 0 (-off) 0 w h1 h2 (by omega)).mono ?_
      rintro e w' ⟨he, hb⟩
      refine ⟨key e ?_, hb⟩
      have e1 : c * ten ((0 : Int) - 0).toNat + -off = c - off * ten (0 : Int).toNat := by
        show c * ten 0 + -off = c - off * ten 0
        have : ten 0 = 1 := rfl
        rw [this]; omega
      rw [← e1]
      exact he
    · refine (dec_add_gt c s (-off) 0 w h1 h2 (by omega)).mono ?_
      rintro e w' ⟨he, hb⟩
      refine ⟨key e ?_, hb⟩
      have e1 : (-off) * ten (s - 0).toNat + c = c - off * ten s.toNat := by
        rw [Int.sub_zero, Int.neg_mul]; omega
      rw [← e1]
      exact he
  · have e : lessP c s off = (1, 0, 0) := if_neg (fun h => h1 h.1)
    rw [e]
    exact dec_add_check1 c s (-off) 0 w h1
theorem other_list : otherS.toList = [111, 116, 104, 101, 114] := by rw [Lib.toList_data]; rfl
theorem best_step {r : ByteArray → Int} {cs : List (ByteArray × List Nd)} {k : Nat} {x : ByteArray × List Nd} (h : cs[k]? = some x) (b : Nat) (q : Int) :
    bestGo r k b q (cs.drop k) = if q < r x.1 then bestGo r (k + 1) k (r x.1) (cs.drop (k + 1)) else bestGo r (k + 1) b q (cs.drop (k + 1)) := by
  rw [drop_at h, bestGo]
theorem choice_step {s : ByteArray} {cs : List (ByteArray × List Nd)} {k : Nat} {x : ByteArray × List Nd} (h : cs[k]? = some x) (b : Nat) :
    choiceGo s k b (cs.drop k) = if x.1.toList == s.toList then k else choiceGo s (k + 1) (if x.1.toList == otherS.toList then k else b) (cs.drop (k + 1)) := by
  rw [drop_at h, choiceGo]

set_option maxHeartbeats 4000000 in
theorem eval_choice {f : Nat} (kd off : Int) (t : ByteArray) (A : Option Addr) (cs : List (ByteArray × List Nd)) (cc : Nat) (s : ByteArray) (w : World) (hC : CasesN (NodesIn f w) w (.slice A cs.length cc) cs) :
    Calls Tryz.prog 96 #[.agg #[.int .i64 kd, .string t, .int .i64 off, .slice A cs.length cc], .string s] w fun e w' => e = .returned (.int .i64 (choiceGo s 0 0 cs)) ∧ Below w.heap.size w w' := by
  obtain ⟨_, _, he, h1, h2, h3⟩ := hC.form
  cases he
  have HC := Lib.hid hC
  have HX : Hid (choiceGo s 0 0 (cs.drop 0) = choiceGo s 0 0 cs) := Lib.hid rfl
  generalize choiceGo s 0 0 cs = R at *
  clear hC
  go_enter Tryz.func96, Tryz.ntmps96
  go_wp2_with fail
  have HB0 : Hid (Below w.heap.size w (w.alloc (.cells #[.int .i64 kd, .string t, .int .i64 off, .slice A cs.length cc] 30))) := Lib.hid (by (repeat (first | with_reducible exact Below.refl _ _ | with_reducible refine bel_set ?_ ?_ | with_reducible refine bel_alloc ?_ ?_ | with_reducible refine Below.drew ?_ | with_reducible refine bel_drewN _ ?_ | with_reducible refine bel_call ?_ (by assumption) ?_)); all_goals (first | (simp; done) | omega | (simp; omega)))
  go_loopw [11, 5] (fun i b wr => ∃ k b0 : Nat, k ≤ cs.length ∧ i = .int .i64 k ∧ b = .int .i64 b0 ∧ Hid (choiceGo s k b0 (cs.drop k) = R) ∧ Hid (Below w.heap.size w wr)) (fun i _ _ => cs.length - (intOf i).toNat)
  case atStart => exact ⟨0, 0, Nat.zero_le _, rfl, rfl, HX, HB0⟩
  case round =>
    obtain ⟨k, b0, hk, rfl, rfl, HR, HB⟩ := hrel
    by_cases hlt : k < cs.length
    · obtain ⟨b, o, rfl, hat⟩ := HC.out.at (by omega)
      obtain ⟨x, hx⟩ : ∃ x, cs[k]? = some x := ⟨cs[k], List.getElem?_eq_getElem hlt⟩
      have hst := choice_step (s := s) hx b0
      rw [HR.out] at hst
      obtain ⟨z0, k0, vb, k1, hnb⟩ := hat k x hx
      obtain ⟨A2, c2, rfl, _, _, _⟩ := hnb.form
      generalize x.2.length = n2 at k1
      have sB := HB.out.size
      have i0 : (0 : Int) ≤ (k : Int) := by omega
      have i1 : (k : Int) < (cs.length : Int) := by omega
      have i2 : (k : Int) ≤ (cc : Int) := by omega
      have e1 : IntKind.i64.wrap ((k : Int) + 1) = (k : Int) + 1 := IntWalk.i64_in _ (by omega)
      replace k0 := carry HB.out k0
      replace k1 := carry HB.out k1
      have HST := Lib.hid hst
      have HB2 : Hid (Below w.heap.size w (wr.alloc (.cells #[.string x.1, .slice A2 n2 c2] 33))) := Lib.hid (HB.out.alloc sB _)
      clear hst hat hx hnb
      obtain ⟨x1, x2⟩ := x
      simp only at *
      rcases Bool.eq_false_or_eq_true (x1.toList == s.toList) with hq | hq
      · have hR : R = k := HST.out.trans (if_pos hq)
        have HR2 := Lib.hid hR
        clear hR HST
        go_wp2_with fail
        go_ret
        rw [HR2.out]
        exact ⟨rfl, HB2.out⟩
      · have hst := HST.out
        rw [hq, if_neg (by decide), other_list] at hst
        rcases Bool.eq_false_or_eq_true (x1.toList == [111, 116, 104, 101, 114]) with ho | ho
        · rw [ho, if_pos rfl] at hst
          have HR2 : Hid (choiceGo s (k + 1) k (cs.drop (k + 1)) = R) := Lib.hid hst.symm
          clear hst HST
          go_wp2_with fail
          go_roundw
          case rel => exact ⟨k + 1, k, by omega, by go_num, rfl, HR2, HB2⟩
          case measure => simp [intOf]; omega
        · rw [ho, if_neg (by decide)] at hst
          have HR2 : Hid (choiceGo s (k + 1) b0 (cs.drop (k + 1)) = R) := Lib.hid hst.symm
          clear hst HST
          go_wp2_with fail
          go_roundw
          case rel => exact ⟨k + 1, b0, by omega, by go_num, rfl, HR2, HB2⟩
          case measure => simp [intOf]; omega
    · obtain rfl : k = cs.length := by omega
      have hR : R = b0 := by
        have := HR.out
        rw [List.drop_of_length_le (Nat.le_refl _), choiceGo] at this
        exact this.symm
      have HR2 := Lib.hid hR
      clear hR
      go_wp2_with fail
      go_ret
      rw [HR2.out]
      exact ⟨rfl, HB.out⟩

set_option maxHeartbeats 8000000 in
theorem eval_case {f : Nat} (S : SetC) (hS : S.ok = true) (hs : S.small) (kd off : Int) (t : ByteArray) (A : Option Addr) (cs : List (ByteArray × List Nd)) (cc : Nat) (c s : Int) (w : World) (hE : RuleEnv w) (hK : KindsAt w) (hC : CasesN (NodesIn f w) w (.slice A cs.length cc) cs) (ho : 0 ≤ off ∧ off ≤ 9) (hl : (lessP c s off).1 = 0) :
    Calls Tryz.prog 95 #[.agg #[.int .i64 kd, .string t, .int .i64 off, .slice A cs.length cc], setV S.s0 S.s1 S.s2 S.s3 S.s4, decV c s] w fun e w' => e = .returned (.tuple #[.int .i64 (bestP S c s (lessP c s off) cs), decV (lessP c s off).2.1 (lessP c s off).2.2, .nilIface]) ∧ Below w.heap.size w w' := by
  obtain ⟨_, _, he, h1, h2, h3⟩ := hC.form
  cases he
  have hl2 : lessP c s off = (0, c - off * ten s.toNat, s) ∧ decOk c s ∧ decOk (c - off * ten s.toNat) s := by
    unfold lessP at hl ⊢
    split
    · rename_i h
      exact ⟨rfl, h.1, h.1.1, h.1.2.1, h.2.2.1, h.2.2.2⟩
    · rename_i h
      rw [if_neg h] at hl
      cases hl
  obtain ⟨he, hok, hlok⟩ := hl2
  have KA := Lib.hid (fun W => add_less c s off W ho)
  have hso : ((s.toNat : Nat) : Int) = s := by have := hok.1; omega
  have KK := Lib.hid (fun W (hb : Below w.heap.size w W) => kind_ok S (c - off * ten s.toNat) s.toNat W (hE.below hb) (hK.below hb) hs hS (by rw [hso]; exact hlok))
  rw [hso] at KK
  have HC := Lib.hid hC
  have HE := Lib.hid hE
  rw [he] at KA ⊢
  unfold bestP
  simp only at KA ⊢
  obtain ⟨l, hl⟩ : ∃ l, c - off * ten s.toNat = l := ⟨_, rfl⟩
  obtain ⟨kind, hkind⟩ : ∃ q, kindT (S.kind (opsC l s.toNat)) = q := ⟨_, rfl⟩
  rw [hl] at KA KK ⊢
  rw [hkind] at KK ⊢
  have HX : Hid (bestGo (rankP kind c s) 0 0 0 (cs.drop 0) = bestGo (rankP kind c s) 0 0 0 cs) := Lib.hid rfl
  have HOK := Lib.hid hok
  have e0 : IntKind.i64.wrap (-off) = -off := IntWalk.i64_in _ (by omega)
  have E0 : Hid (errOf 0 = .nilIface) := Lib.hid rfl
  rw [E0.out] at KA
  generalize bestGo (rankP kind c s) 0 0 0 cs = R at *
  clear hC hE hK hS hs hl hkind hlok hok he E0 hso
  obtain ⟨S0, S1, S2, S3, S4⟩ := S
  simp only at KK ⊢
  go_enter Tryz.func95, Tryz.ntmps95
  go_wp2_with fail
  refine (KA.out _).mono ?_
  rintro e w1 ⟨rfl, hb1⟩
  have x0 : w1.cell? ⟨w.heap.size, 3, none⟩ = some (.slice A cs.length cc) := carry hb1 (by go_simp)
  have y0 : w1.cell? ⟨w.heap.size + 1, 0, none⟩ = some (.string S0) := carry hb1 (by go_simp)
  have y1 : w1.cell? ⟨w.heap.size + 1, 1, none⟩ = some (.string S1) := carry hb1 (by go_simp)
  have y2 : w1.cell? ⟨w.heap.size + 1, 2, none⟩ = some (.string S2) := carry hb1 (by go_simp)
  have y3 : w1.cell? ⟨w.heap.size + 1, 3, none⟩ = some (.string S3) := carry hb1 (by go_simp)
  have y4 : w1.cell? ⟨w.heap.size + 1, 4, none⟩ = some (.string S4) := carry hb1 (by go_simp)
  have z0 : w1.cell? ⟨w.heap.size + 2, 0, none⟩ = some (.int .i64 c) := carry hb1 (by go_simp)
  have z1 : w1.cell? ⟨w.heap.size + 2, 1, none⟩ = some (.int .i64 s) := carry hb1 (by go_simp)
  have r0 : w1.cell? ⟨w.heap.size + 3, 0, none⟩ = some (.int .i64 0) := carry hb1 (by go_simp)
  have r1 : w1.cell? ⟨w.heap.size + 3, 1, none⟩ = some (.int .i64 0) := carry hb1 (by go_simp)
  have f0 : w1.frozen? ⟨w.heap.size + 3, 0, none⟩ = false := carryF hb1 (by simp) (by go_simp)
  have f1 : w1.frozen? ⟨w.heap.size + 3, 1, none⟩ = false := carryF hb1 (by simp) (by go_simp)
  have HB1 : Hid (Below w.heap.size w w1) := Lib.hid (by (repeat (first | with_reducible exact Below.refl _ _ | with_reducible refine bel_set ?_ ?_ | with_reducible refine bel_alloc ?_ ?_ | with_reducible refine Below.drew ?_ | with_reducible refine bel_drewN _ ?_ | with_reducible refine bel_call ?_ (by assumption) ?_)); all_goals (first | (simp; done) | omega | (simp; omega)))
  have q1 := lt_of_cell r0
  clear hb1
  have hbA : Below w1.heap.size w1 (w1.alloc (.cells #[.int .i64 l, .int .i64 s] 51)) := (by (repeat (first | with_reducible exact Below.refl _ _ | with_reducible refine bel_set ?_ ?_ | with_reducible refine bel_alloc ?_ ?_ | with_reducible refine Below.drew ?_ | with_reducible refine bel_drewN _ ?_ | with_reducible refine bel_call ?_ (by assumption) ?_)); all_goals (first | (simp; done) | omega | (simp; omega)))
  have y0' := carry hbA y0
  have y1' := carry hbA y1
  have y2' := carry hbA y2
  have y3' := carry hbA y3
  have y4' := carry hbA y4
  have HBA := Lib.hid hbA
  have HBK : Hid (Below w.heap.size w (w1.alloc (.cells #[.int .i64 l, .int .i64 s] 51))) := Lib.hid (HB1.out.alloc HB1.out.size _)
  clear y0 y1 y2 y3 y4 hbA
  go_wp2_with fail
  refine (KK.out _ HBK.out).mono ?_
  rintro e w2 ⟨rfl, hb2⟩
  have hb12 : Below w1.heap.size w1 w2 := HBA.out.trans (hb2.mono (by simp))
  have l0 : w2.cell? ⟨w1.heap.size, 0, none⟩ = some (.int .i64 l) := carry hb2 (by go_simp)
  have l1 : w2.cell? ⟨w1.heap.size, 1, none⟩ = some (.int .i64 s) := carry hb2 (by go_simp)
  replace x0 := carry hb12 x0
  replace z0 := carry hb12 z0
  replace z1 := carry hb12 z1
  replace r0 := carry hb12 r0
  replace r1 := carry hb12 r1
  replace f0 := carryF hb12 (by omega) f0
  replace f1 := carryF hb12 (by omega) f1
  have HB2 : Hid (Below w.heap.size w w2) := Lib.hid (HB1.out.trans (hb12.mono HB1.out.size))
  have L0 := Lib.hid l0
  have L1 := Lib.hid l1
  have Z0 := Lib.hid z0
  have Z1 := Lib.hid z1
  have R0 := Lib.hid r0
  have R1 := Lib.hid r1
  have F0 := Lib.hid f0
  have F1 := Lib.hid f1
  have s2 := HB2.out.size
  have s12 := hb12.size
  have HB20 : Hid (Below w2.heap.size w2 w2) := Lib.hid (Below.refl _ _)
  clear hb2 hb12 y0' y1' y2' y3' y4' l0 l1 z0 z1 r0 r1 f0 f1 HBA HBK
  go_wp2_with fail
  go_loopw [45, 12, 13] (fun i b q wr => ∃ (k b0 : Nat) (r : Int), k ≤ cs.length ∧ i = .int .i64 k ∧ b = .int .i64 b0 ∧ q = .int .i64 r ∧ 0 ≤ r ∧ r ≤ 3 ∧ Hid (bestGo (rankP kind c s) k b0 r (cs.drop k) = R) ∧ Hid (Below w2.heap.size w2 wr)) (fun i _ _ _ => cs.length - (intOf i).toNat)
  case atStart => exact ⟨0, 0, 0, Nat.zero_le _, rfl, rfl, rfl, by omega, by omega, HX, HB20⟩
  case round =>
    obtain ⟨k, b0, r, hk, rfl, rfl, rfl, hr0, hr3, HR, HB⟩ := hrel
    have sB := HB.out.size
    by_cases hlt : k < cs.length
    · obtain ⟨b, o, rfl, hat⟩ := HC.out.at (by omega)
      obtain ⟨x, hx⟩ : ∃ x, cs[k]? = some x := ⟨cs[k], List.getElem?_eq_getElem hlt⟩
      have hst := best_step (r := rankP kind c s) hx b0 r
      rw [HR.out] at hst
      obtain ⟨g0, k0, vb, k1, hnb⟩ := hat k x hx
      obtain ⟨A2, c2, rfl, _, _, _⟩ := hnb.form
      generalize x.2.length = n2 at k1
      have i0 : (0 : Int) ≤ (k : Int) := by omega
      have i1 : (k : Int) < (cs.length : Int) := by omega
      have i2 : (k : Int) ≤ (cc : Int) := by omega
      have e1 : IntKind.i64.wrap ((k : Int) + 1) = (k : Int) + 1 := IntWalk.i64_in _ (by omega)
      have hBw := HB2.out.trans (HB.out.mono s2)
      replace k0 := carry hBw k0
      replace k1 := carry hBw k1
      have HST := Lib.hid hst
      have HEX := Lib.hid (msg_Exact x.1 (wr.alloc (.cells #[.string x.1, .slice A2 n2 c2] 33)) (HE.out.below (hBw.alloc (by omega) _)) (by omega))
      have HBS : Hid (Below w2.heap.size w2 (wr.alloc (.cells #[.string x.1, .slice A2 n2 c2] 33))) := Lib.hid (HB.out.alloc sB _)
      clear hst hat hx hnb hBw
      obtain ⟨x1, x2⟩ := x
      simp only at *
      have hrk : rankP kind c s x1 = if 0 ≤ exC x1.data.toList ∧ c * ten 0 = exC x1.data.toList * ten s.toNat then 3 else if x1.toList == kind.toList then 2 else if x1.toList == otherS.toList then 1 else 0 := rfl
      have HXO := Lib.hid (fun h => exC_ok (l := x1.data.toList) h)
      have HXM := exC_le x1.data.toList
      have HRK0 := Lib.hid hrk
      clear hrk
      generalize exC x1.data.toList = X at *
      go_wp2_with fail
      refine HEX.out.mono ?_
      rintro e w3 ⟨rfl, hb3⟩
      have HBC : Hid (Below w2.heap.size w2 w3) := Lib.hid (bel_call HBS.out hb3 (by simp; omega))
      have u0 : w3.cell? ⟨wr.heap.size, 0, none⟩ = some (.string x1) := carry hb3 (by go_simp)
      have v0 := lt_of_cell u0
      have z0 := carry HBC.out Z0.out
      have z1 := carry HBC.out Z1.out
      clear hb3 HEX HBS k0 k1
      by_cases hex : 0 ≤ X
      · have hd : decide (0 ≤ X) = true := decide_eq_true hex
        have HSM := Lib.hid (fun W => dec_same c s X 0 W HOK.out (HXO.out hex))
        rw [show ((0 : Int)).toNat = 0 from rfl] at HSM
        rcases Bool.eq_false_or_eq_true (decide (c * ten 0 = X * ten s.toNat)) with hsm | hsm
        · have HRK : Hid (rankP kind c s x1 = 3) := Lib.hid (HRK0.out.trans (if_pos ⟨hex, of_decide_eq_true hsm⟩))
          rw [hsm] at HSM
          clear HRK0 HXO hsm
          go_wp2_with fail
          refine (HSM.out _).mono ?_
          rintro e w4 ⟨rfl, hb4⟩
          have HBC4 : Hid (Below w2.heap.size w2 w4) := Lib.hid (bel_call HBC.out hb4 HBC.out.size)
          clear HBC hb4 HSM u0 z0 z1 v0
          have HBC := HBC4
          clear HBC4
          by_cases hgt : r < 3
          · have HN2 : Hid (bestGo (rankP kind c s) (k + 1) k 3 (cs.drop (k + 1)) = R) := Lib.hid (by have := HST.out; rw [HRK.out, if_pos hgt] at this; exact this.symm)
            clear HST HRK
            go_wp2_with fail
            go_roundw
            case rel => exact ⟨k + 1, k, 3, by omega, by go_num, rfl, rfl, by omega, by omega, HN2, HBC⟩
            case measure => simp [intOf]; omega
          · have HN2 : Hid (bestGo (rankP kind c s) (k + 1) b0 r (cs.drop (k + 1)) = R) := Lib.hid (by have := HST.out; rw [HRK.out, if_neg hgt] at this; exact this.symm)
            clear HST HRK
            go_wp2_with fail
            go_roundw
            case rel => exact ⟨k + 1, b0, r, by omega, by go_num, rfl, rfl, by omega, by omega, HN2, HBC⟩
            case measure => simp [intOf]; omega
        · have HRK1 : Hid (rankP kind c s x1 = if x1.toList == kind.toList then 2 else if x1.toList == otherS.toList then 1 else 0) := Lib.hid (HRK0.out.trans (if_neg (fun h => of_decide_eq_false hsm h.2)))
          rw [hsm] at HSM
          clear HRK0 HXO hsm
          go_wp2_with fail
          refine (HSM.out _).mono ?_
          rintro e w4 ⟨rfl, hb4⟩
          have HBC4 : Hid (Below w2.heap.size w2 w4) := Lib.hid (bel_call HBC.out hb4 HBC.out.size)
          have u4 := carry hb4 u0
          have v4 := lt_of_cell u4
          clear HBC hb4 HSM u0 z0 z1 v0
          have HBC := HBC4
          clear HBC4
          rcases Bool.eq_false_or_eq_true (x1.toList == kind.toList) with hkk | hkk
          · have HRK : Hid (rankP kind c s x1 = 2) := Lib.hid (HRK1.out.trans (if_pos hkk))
            clear HRK1
            by_cases hgt : r < 2
            · have HN2 : Hid (bestGo (rankP kind c s) (k + 1) k 2 (cs.drop (k + 1)) = R) := Lib.hid (by have := HST.out; rw [HRK.out, if_pos hgt] at this; exact this.symm)
              clear HST HRK
              go_wp2_with fail
              go_roundw
              case rel => exact ⟨k + 1, k, 2, by omega, by go_num, rfl, rfl, by omega, by omega, HN2, HBC⟩
              case measure => simp [intOf]; omega
            · have HN2 : Hid (bestGo (rankP kind c s) (k + 1) b0 r (cs.drop (k + 1)) = R) := Lib.hid (by have := HST.out; rw [HRK.out, if_neg hgt] at this; exact this.symm)
              clear HST HRK
              go_wp2_with fail
              go_roundw
              case rel => exact ⟨k + 1, b0, r, by omega, by go_num, rfl, rfl, by omega, by omega, HN2, HBC⟩
              case measure => simp [intOf]; omega
          · have HRK2 : Hid (rankP kind c s x1 = if x1.toList == otherS.toList then 1 else 0) := Lib.hid (HRK1.out.trans (by rw [hkk]; exact if_neg (by decide)))
            clear HRK1
            rcases Bool.eq_false_or_eq_true (x1.toList == [111, 116, 104, 101, 114]) with hoo | hoo
            · have HRK : Hid (rankP kind c s x1 = 1) := Lib.hid (HRK2.out.trans (by rw [other_list, hoo]; exact if_pos rfl))
              clear HRK2
              by_cases hgt : r < 1
              · have HN2 : Hid (bestGo (rankP kind c s) (k + 1) k 1 (cs.drop (k + 1)) = R) := Lib.hid (by have := HST.out; rw [HRK.out, if_pos hgt] at this; exact this.symm)
                clear HST HRK
                go_wp2_with fail
                go_roundw
                case rel => exact ⟨k + 1, k, 1, by omega, by go_num, rfl, rfl, by omega, by omega, HN2, HBC⟩
                case measure => simp [intOf]; omega
              · have HN2 : Hid (bestGo (rankP kind c s) (k + 1) b0 r (cs.drop (k + 1)) = R) := Lib.hid (by have := HST.out; rw [HRK.out, if_neg hgt] at this; exact this.symm)
                clear HST HRK
                go_wp2_with fail
                go_roundw
                case rel => exact ⟨k + 1, b0, r, by omega, by go_num, rfl, rfl, by omega, by omega, HN2, HBC⟩
                case measure => simp [intOf]; omega
            · have HRK : Hid (rankP kind c s x1 = 0) := Lib.hid (HRK2.out.trans (by rw [other_list, hoo]; exact if_neg (by decide)))
              clear HRK2
              have hgt : ¬ r < 0 := by omega
              have HN2 : Hid (bestGo (rankP kind c s) (k + 1) b0 r (cs.drop (k + 1)) = R) := Lib.hid (by have := HST.out; rw [HRK.out, if_neg hgt] at this; exact this.symm)
              clear HST HRK
              go_wp2_with fail
              go_roundw
              case rel => exact ⟨k + 1, b0, r, by omega, by go_num, rfl, rfl, by omega, by omega, HN2, HBC⟩
              case measure => simp [intOf]; omega
      · have hd : decide (0 ≤ X) = false := decide_eq_false hex
        have HRK1 : Hid (rankP kind c s x1 = if x1.toList == kind.toList then 2 else if x1.toList == otherS.toList then 1 else 0) := Lib.hid (HRK0.out.trans (if_neg (fun h => hex h.1)))
        clear HRK0 HXO z0 z1
        rcases Bool.eq_false_or_eq_true (x1.toList == kind.toList) with hkk | hkk
        · have HRK : Hid (rankP kind c s x1 = 2) := Lib.hid (HRK1.out.trans (if_pos hkk))
          clear HRK1
          by_cases hgt : r < 2
          · have HN2 : Hid (bestGo (rankP kind c s) (k + 1) k 2 (cs.drop (k + 1)) = R) := Lib.hid (by have := HST.out; rw [HRK.out, if_pos hgt] at this; exact this.symm)
            clear HST HRK
            go_wp2_with fail
            go_roundw
            case rel => exact ⟨k + 1, k, 2, by omega, by go_num, rfl, rfl, by omega, by omega, HN2, HBC⟩
            case measure => simp [intOf]; omega
          · have HN2 : Hid (bestGo (rankP kind c s) (k + 1) b0 r (cs.drop (k + 1)) = R) := Lib.hid (by have := HST.out; rw [HRK.out, if_neg hgt] at this; exact this.symm)
            clear HST HRK
            go_wp2_with fail
            go_roundw
            case rel => exact ⟨k + 1, b0, r, by omega, by go_num, rfl, rfl, by omega, by omega, HN2, HBC⟩
            case measure => simp [intOf]; omega
        · have HRK2 : Hid (rankP kind c s x1 = if x1.toList == otherS.toList then 1 else 0) := Lib.hid (HRK1.out.trans (by rw [hkk]; exact if_neg (by decide)))
          clear HRK1
          rcases Bool.eq_false_or_eq_true (x1.toList == [111, 116, 104, 101, 114]) with hoo | hoo
          · have HRK : Hid (rankP kind c s x1 = 1) := Lib.hid (HRK2.out.trans (by rw [other_list, hoo]; exact if_pos rfl))
            clear HRK2
            by_cases hgt : r < 1
            · have HN2 : Hid (bestGo (rankP kind c s) (k + 1) k 1 (cs.drop (k + 1)) = R) := Lib.hid (by have := HST.out; rw [HRK.out, if_pos hgt] at this; exact this.symm)
              clear HST HRK
              go_wp2_with fail
              go_roundw
              case rel => exact ⟨k + 1, k, 1, by omega, by go_num, rfl, rfl, by omega, by omega, HN2, HBC⟩
              case measure => simp [intOf]; omega
            · have HN2 : Hid (bestGo (rankP kind c s) (k + 1) b0 r (cs.drop (k + 1)) = R) := Lib.hid (by have := HST.out; rw [HRK.out, if_neg hgt] at this; exact this.symm)
              clear HST HRK
              go_wp2_with fail
              go_roundw
              case rel => exact ⟨k + 1, b0, r, by omega, by go_num, rfl, rfl, by omega, by omega, HN2, HBC⟩
              case measure => simp [intOf]; omega
          · have HRK : Hid (rankP kind c s x1 = 0) := Lib.hid (HRK2.out.trans (by rw [other_list, hoo]; exact if_neg (by decide)))
            clear HRK2
            have hgt : ¬ r < 0 := by omega
            have HN2 : Hid (bestGo (rankP kind c s) (k + 1) b0 r (cs.drop (k + 1)) = R) := Lib.hid (by have := HST.out; rw [HRK.out, if_neg hgt] at this; exact this.symm)
            clear HST HRK
            go_wp2_with fail
            go_roundw
            case rel => exact ⟨k + 1, b0, r, by omega, by go_num, rfl, rfl, by omega, by omega, HN2, HBC⟩
            case measure => simp [intOf]; omega
    · obtain rfl : k = cs.length := by omega
      have hR : R = b0 := by
        have := HR.out
        rw [List.drop_of_length_le (Nat.le_refl _), bestGo] at this
        exact this.symm
      have HR2 := Lib.hid hR
      have l0 := carry HB.out L0.out
      have l1 := carry HB.out L1.out
      have r0 := carry HB.out R0.out
      have r1 := carry HB.out R1.out
      have f0 := carryF HB.out (by omega) F0.out
      have f1 := carryF HB.out (by omega) F1.out
      clear hR
      go_wp2_with fail
      go_region
      all_goals (go_wp2_with fail)
      all_goals (rw [HR2.out]; exact bodyPost_ret (v := .tuple #[.int .i64 b0, decV l s, .nilIface]) (by simp [results, Tryz.results95, go_sem, r0, r1, f0, f1, l0, l1]) rfl ⟨rfl, by first | exact ((HB2.out.trans (HB.out.mono s2)).setCell (by simp; omega) _).setCell (by simp; omega) _ | exact bel_drewN _ (((HB2.out.trans (HB.out.mono s2)).setCell (by simp; omega) _).setCell (by simp; omega) _) | exact ((bel_drewN _ (HB2.out.trans (HB.out.mono s2))).setCell (by simp; omega) _).setCell (by simp; omega) _⟩)

theorem eval_case_no (S : SetC) (kd off : Int) (t : ByteArray) (A : Option Addr) (len cc : Nat) (c s : Int) (w : World) (ho : 0 ≤ off ∧ off ≤ 9) (hl : ¬ (lessP c s off).1 = 0) :
    Calls Tryz.prog 95 #[.agg #[.int .i64 kd, .string t, .int .i64 off, .slice A len cc], setV S.s0 S.s1 S.s2 S.s3 S.s4, decV c s] w fun e w' => e = .returned (.tuple #[.int .i64 0, decV 0 0, errV (lessP c s off).1]) ∧ Below w.heap.size w w' := by
  have he : lessP c s off = (1, 0, 0) := by
    unfold lessP at hl ⊢
    split
    · rename_i h
      rw [if_pos h] at hl
      exact absurd rfl hl
    · rfl
  have KA := Lib.hid (fun W => add_less c s off W ho)
  rw [he] at KA ⊢
  simp only at KA ⊢
  have E0 : Hid (errOf 1 = errV 1) := Lib.hid rfl
  rw [E0.out] at KA
  have e0 : IntKind.i64.wrap (-off) = -off := IntWalk.i64_in _ (by omega)
  clear he hl E0
  obtain ⟨S0, S1, S2, S3, S4⟩ := S
  simp only
  go_enter Tryz.func95, Tryz.ntmps95
  go_wp2_with fail
  refine (KA.out _).mono ?_
  rintro e w1 ⟨rfl, hb1⟩
  have r0 : w1.cell? ⟨w.heap.size + 3, 0, none⟩ = some (.int .i64 0) := carry hb1 (by go_simp)
  have r1 : w1.cell? ⟨w.heap.size + 3, 1, none⟩ = some (.int .i64 0) := carry hb1 (by go_simp)
  have f0 : w1.frozen? ⟨w.heap.size + 3, 0, none⟩ = false := carryF hb1 (by simp) (by go_simp)
  have f1 : w1.frozen? ⟨w.heap.size + 3, 1, none⟩ = false := carryF hb1 (by simp) (by go_simp)
  have HB1 : Hid (Below w.heap.size w w1) := Lib.hid (by (repeat (first | with_reducible exact Below.refl _ _ | with_reducible refine bel_set ?_ ?_ | with_reducible refine bel_alloc ?_ ?_ | with_reducible refine Below.drew ?_ | with_reducible refine bel_drewN _ ?_ | with_reducible refine bel_call ?_ (by assumption) ?_)); all_goals (first | (simp; done) | omega | (simp; omega)))
  have q1 := lt_of_cell r0
  clear hb1
  go_wp2_with fail
  exact bodyPost_ret (v := .tuple #[.int .i64 0, decV 0 0, errV 1]) (by simp [results, Tryz.results95, go_sem, r0, r1, f0, f1, q1]) rfl ⟨rfl, by first | exact ((HB1.out.alloc HB1.out.size _).setCell (by simp; omega) _).setCell (by simp; omega) _ | exact ((HB1.out.setCell (by simp; omega) _).setCell (by simp; omega) _).alloc (by have := HB1.out.size; simp; omega) _⟩
end Go.Proofs.YthlcjlmaaaappaaGreatDoor

/- eval's speaker: number; what 'one' leans on. -/
namespace Go.Proofs.YthlcjlmaaaappaaGreatDoor
open Go.RowKit Go.Maps

abbrev MapsKept (w w' : World) : Prop := ∀ (k : Nat) es c, w.heap[k]? = some (Obj.map es c) → w'.heap[k]? = w.heap[k]?
/-- what has been said: a speaker at b, the args' map at mb -/
def SayW (V W0 w : World) (b mb n : Nat) (S : SetC) (l : HL) (T : ByteArray) : Prop :=
  Spk w W0.heap.size b mb S (Lib.strCells T) ∧ HMap w mb n l ∧ Below W0.heap.size W0 w ∧ W0.heap.size ≤ mb ∧ Lib.OthersKept 5 (some b) V w
section
variable {V W0 w w' : World} {b mb n : Nat} {S : SetC} {l : HL} {T : ByteArray}
theorem others_below {e : TypeId} {b : Option Nat} (hb : Below w.heap.size w w') : Lib.OthersKept e b w w' := fun k o hk _ _ => (hb.block k (Array.getElem?_eq_some_iff.1 hk).1).trans hk
theorem SayW.below (h : SayW V W0 w b mb n S l T) (hb : Below w.heap.size w w') : SayW V W0 w' b mb n S l T :=
  ⟨h.1.below hb, h.2.1.below hb, h.2.2.1.trans (hb.mono h.2.2.1.size), h.2.2.2.1, h.2.2.2.2.trans (others_below hb)⟩
/-- from another world on -/
theorem SayW.from (h : SayW V W0 w b mb n S l T) (V' : World) (k : Lib.OthersKept 5 (some b) V' w) : SayW V' W0 w b mb n S l T := ⟨h.1, h.2.1, h.2.2.1, h.2.2.2.1, k⟩
theorem strCells_app (a b : ByteArray) : Lib.strCells a ++ Lib.strCells b = Lib.strCells (a ++ b) := by
  rw [Lib.strCells_eq, Lib.strCells_eq, Lib.strCells_eq, ← Lib.byteCells_append]
  congr 1
/-- WriteString of a speaker -/
theorem say_write (s : ByteArray) (h : SayW V W0 w b mb n S l T) (hlen : T.size + s.size ≤ 140737488355328) :
    Calls Tryz.prog 70 #[.pointer (some ⟨b, 6, none⟩), .string s] w fun e w' => e = .returned (.tuple #[.int .i64 s.size, .nilIface]) ∧ SayW V W0 w' b mb n S l (T ++ s) := by
  refine (spk_write s h.1 (by rw [Lib.strCells_length]; exact hlen) h.2.2.1.size).mono ?_
  rintro e w' ⟨rfl, h1, h2, h3, h4⟩
  rw [strCells_app] at h1
  exact ⟨rfl, h1, h.2.1.kept h3, h.2.2.1.trans h2, h.2.2.2.1, h.2.2.2.2.trans h4⟩

theorem say_number (c s : Int) (h : SayW V W0 w b mb n S l T) (hlen : T.size + 200 ≤ 140737488355328) (hE : RuleEnv w) (hL : NumLaid w) :
    Calls Tryz.prog 94 #[.pointer (some ⟨b, 0, none⟩), decV c s] w fun e w' => e = .returned (errOf (numP c s).1) ∧ SayW V W0 w' b mb n S l (T ++ (numP c s).2) := by
  have hsz : (numP c s).2.size ≤ 200 := by
    unfold numP
    split
    · rename_i hd
      have := numT_size c s.toNat (by have h0 := hd.1; rw [show ((s.toNat : Nat) : Int) = s by omega]; exact hd)
      exact this
    · exact Nat.zero_le _
  have KN := Lib.hid (fun W (hb : Below w.heap.size w W) => numeral c s W (hE.below hb).maxl (hE.below hb).pow (hL.below hb))
  have HS := Lib.hid h
  have hlt := h.1.lt
  clear h hE hL
  generalize (numP c s).2 = N at *
  generalize errOf (numP c s).1 = E at *
  go_enter Tryz.func94, Tryz.ntmps94
  go_wp2_with fail
  refine (KN.out _ ((Below.refl _ _).alloc (Nat.le_refl _) _)).mono ?_
  rintro e w1 ⟨rfl, hb1⟩
  have hbA : Below w.heap.size w w1 := (by (repeat (first | with_reducible exact Below.refl _ _ | with_reducible refine bel_set ?_ ?_ | with_reducible refine bel_alloc ?_ ?_ | with_reducible refine Below.drew ?_ | with_reducible refine bel_drewN _ ?_ | with_reducible refine bel_call ?_ (by assumption) ?_)); all_goals (first | (simp; done) | omega | (simp; omega)))
  have HS1 := Lib.hid (HS.out.below hbA)
  have KW := Lib.hid (say_write N HS1.out (by omega))
  have s1 := hbA.size
  have hlt1 : b < w1.heap.size := by omega
  clear hb1 hbA
  go_wp2_with fail
  refine KW.out.mono ?_
  rintro e w2 ⟨rfl, h2⟩
  go_wp2_with fail
  go_ret
  exact ⟨rfl, h2⟩
end

def argV (a : ArgC) : Value := .agg #[.string a.name, .bool a.isNum, .int .i64 a.coef, .int .i64 a.scale, .string a.text]
def argsH (ags : List ArgC) : HL := ags.map fun a => (nmA a, argV a)
theorem cell_two {w : World} {b o k i j : Nat} {v u x : Value} (h : w.cell? ⟨b, o, none⟩ = some x) (hne : b ≠ k) : ((w.setCell ⟨k, i, none⟩ v).setCell ⟨k, j, none⟩ u).cell? ⟨b, o, none⟩ = some x :=
  cell_other (cell_other h (fun e => hne (by injection e with e; exact e.symm))) (fun e => hne (by injection e with e; exact e.symm))
theorem cell_alc {w : World} {b o : Nat} {x : Value} {O : Obj} (h : w.cell? ⟨b, o, none⟩ = some x) : (w.alloc O).cell? ⟨b, o, none⟩ = some x := carry ((Below.refl w.heap.size w).alloc (Nat.le_refl _) O) h
theorem cell_drw {w : World} {b o : Nat} {x : Value} (h : w.cell? ⟨b, o, none⟩ = some x) : w.drew.cell? ⟨b, o, none⟩ = some x := h
theorem app_nil (T : ByteArray) : T ++ (⟨#[]⟩ : ByteArray) = T := by
  apply ByteArray.ext
  apply Array.ext'
  simp
theorem zero_arg (w : World) : (zeroValue 53).run Tryz.prog w = .ok (argV noArg) w := by kernel_rfl
theorem args_keys (ags : List ArgC) : (argsH ags).map (·.1) = ags.map nmA := by unfold argsH; rw [List.map_map]; rfl
theorem look_arg {W : World} {mb n : Nat} {ags : List ArgC} (hn : (ags.map nmA).Nodup) (h : HMap W mb n (argsH ags)) (t : ByteArray) (ht : t.size ≤ maxLen) :
    (Instr.lookup 87 (.map (some mb)) (.string t) false).run Tryz.prog W = .ok (argV (lookA ags t)) W := by
  unfold lookA
  cases hf : ags.find? (hasA t) with
  | none => exact hm_none1 h Tryz.underlying87 (zero_arg _) ht (by unfold argsH; rw [hlook_map, hf]; rfl)
  | some a => exact hm_some1 h Tryz.underlying87 (zero_arg _) ht (by rw [args_keys]; exact hn) (by unfold argsH; rw [hlook_map, hf]; rfl)

end Go.Proofs.YthlcjlmaaaappaaGreatDoor

/- eval's one of a node without cases. -/
namespace Go.Proofs.YthlcjlmaaaappaaGreatDoor
open Go.RowKit Go.Maps

set_option maxHeartbeats 8000000 in
set_option maxRecDepth 100000 in
theorem say_plain (V W0 : World) (b mb n : Nat) (S : SetC) (hS : S.ok = true) (hs : S.small) (ags : List ArgC) (hn : (ags.map nmA).Nodup) (hv : ∀ t, (lookA ags t).isNum = true → decOk (lookA ags t).coef (lookA ags t).scale) (f : Nat)
    (hE : RuleEnv W0) (hK : KindsAt W0) (hL : NumLaid W0) (kd off : Int) (t : ByteArray) (A : Option Addr) (cs : List (ByteArray × List Nd)) (cc : Nat) (mc sc : Int) (m : Bool) (hC : CasesN (NodesIn f W0) W0 (.slice A cs.length cc) cs) (hts : t.size ≤ 140737488355328)
    (g : List Nd → Bool → Int) (q : Option Int) (hok : nodeP g q (.mk kd t off cs) m = 0) (T : ByteArray) (w : World) (h : SayW V W0 w b mb n S (argsH ags) T) (hlen : T.size + 200 + (oneP S (lookA ags) (sayP S (lookA ags) f) mc sc (.mk kd t off cs)).2.size ≤ 140737488355328) (hkd : kd ≠ 4 ∧ kd ≠ 5)
    (ih : ∀ (v : Value) (c : ByteArray × List Nd) (a d : Int) (w : World), c ∈ cs → kd = 4 ∨ kd = 5 → NodesIn f W0 v c.2 → SayW V W0 w b mb n S (argsH ags) T → T.size + 200 + (sayP S (lookA ags) f c.2 a d).2.size ≤ 140737488355328 →
      Calls Tryz.prog 41 #[.pointer (some ⟨b, 0, none⟩), v, decV a d] w fun e w' => e = .returned (errOf (sayP S (lookA ags) f c.2 a d).1) ∧ SayW V W0 w' b mb n S (argsH ags) (T ++ (sayP S (lookA ags) f c.2 a d).2)) :
    Calls Tryz.prog 63 #[.pointer (some ⟨b, 0, none⟩), .agg #[.int .i64 kd, .string t, .int .i64 off, .slice A cs.length cc], decV mc sc] w fun e w' =>
      e = .returned (errOf (oneP S (lookA ags) (sayP S (lookA ags) f) mc sc (.mk kd t off cs)).1) ∧ SayW V W0 w' b mb n S (argsH ags) (T ++ (oneP S (lookA ags) (sayP S (lookA ags) f) mc sc (.mk kd t off cs)).2) := by
  have HKD := Lib.hid hkd
  clear hkd
  obtain ⟨h1, h2, h3⟩ := nodeP_zero hok
  simp only [Nd.kd, Nd.off, Nd.cs] at h1 h2 h3
  have hw1 : Below w.heap.size w ((w.alloc (.cells #[.int .i64 kd, .string t, .int .i64 off, .slice A cs.length cc] 30)).alloc (.cells #[.int .i64 mc, .int .i64 sc] 51)).drew := (by (repeat (first | with_reducible exact Below.refl _ _ | with_reducible refine bel_set ?_ ?_ | with_reducible refine bel_alloc ?_ ?_ | with_reducible refine Below.drew ?_ | with_reducible refine bel_drewN _ ?_ | with_reducible refine bel_call ?_ (by assumption) ?_)); all_goals (first | (simp; done) | omega | (simp; omega)))
  have hw2 : Below w.heap.size w (((w.alloc (.cells #[.int .i64 kd, .string t, .int .i64 off, .slice A cs.length cc] 30)).alloc (.cells #[.int .i64 mc, .int .i64 sc] 51)).alloc (.cells #[.string ⟨#[]⟩, .bool false, .int .i64 0, .int .i64 0, .string ⟨#[]⟩] 53)).drew := (by (repeat (first | with_reducible exact Below.refl _ _ | with_reducible refine bel_set ?_ ?_ | with_reducible refine bel_alloc ?_ ?_ | with_reducible refine Below.drew ?_ | with_reducible refine bel_drewN _ ?_ | with_reducible refine bel_call ?_ (by assumption) ?_)); all_goals (first | (simp; done) | omega | (simp; omega)))
  have m5 := (h.below hw1).1.cells.2.2.2.2.2
  have n5 := (h.below hw2).1.cells.2.2.2.2.2
  have hlk1 := look_arg hn (h.below hw1).2.1 t (by unfold maxLen; omega)
  have hlk2 := look_arg hn (h.below hw2).2.1 t (by unfold maxLen; omega)
  unfold argV at hlk1 hlk2
  have HS := Lib.hid h
  have hlt := h.1.lt
  have hva := hv t
  have HO : Hid (oneP S (lookA ags) (sayP S (lookA ags) f) mc sc (.mk kd t off cs) = if kd = 1 then (0, t) else if kd = 6 then numP mc sc else if kd = 3 then numP (lookA ags t).coef (lookA ags t).scale
      else if kd = 4 then (if (lessP (lookA ags t).coef (lookA ags t).scale off).1 = 0 then sayP S (lookA ags) f (bodyAt cs (bestP S (lookA ags t).coef (lookA ags t).scale (lessP (lookA ags t).coef (lookA ags t).scale off) cs)) (lessP (lookA ags t).coef (lookA ags t).scale off).2.1 (lessP (lookA ags t).coef (lookA ags t).scale off).2.2 else ((lessP (lookA ags t).coef (lookA ags t).scale off).1, ⟨#[]⟩))
      else if kd = 5 then sayP S (lookA ags) f (bodyAt cs (choiceGo (lookA ags t).text 0 0 cs)) mc sc else (0, showT (lookA ags t))) := Lib.hid rfl
  have HE := Lib.hid hE
  have HK := Lib.hid hK
  have HL := Lib.hid hL
  have HC := Lib.hid hC
  have HI := Lib.hid ih
  have H2 := Lib.hid h2
  have H3 := Lib.hid h3
  clear ih h hE hK hL hC hn hv hok h2 h3 hw1 hw2
  generalize oneP S (lookA ags) (sayP S (lookA ags) f) mc sc (.mk kd t off cs) = R at *
  generalize lookA ags t = a at *
  generalize sayP S (lookA ags) f = G at *
  generalize argsH ags = l at *
  obtain ⟨an, ai, ac, as', at'⟩ := a
  simp only at HO hva hlk1 hlk2
  go_enter Tryz.func63, Tryz.ntmps63
  go_upto_region 1 with fail
  go_cut [7] (fun p7 wx => p7 = .pointer (some ⟨w.heap.size + 2, 0, none⟩) ∧ wx = (((w.alloc (.cells #[.int .i64 kd, .string t, .int .i64 off, .slice A cs.length cc] 30)).alloc (.cells #[.int .i64 mc, .int .i64 sc] 51)).alloc (.cells #[.string an, .bool ai, .int .i64 ac, .int .i64 as', .string at'] 53)).drew)
  case first =>
    go_region
    all_goals (go_wp2_with fail; go_meet; exact ⟨rfl, rfl⟩)
  case rest =>
    obtain ⟨rfl, hw3⟩ := hcut
    clear hlk1 hlk2 m5 n5
    obtain ⟨w3, rfl⟩ : ∃ w3, w3 = wc := ⟨_, rfl⟩
    have hb3 : Below w.heap.size w w3 := by rw [hw3]; exact (by (repeat (first | with_reducible exact Below.refl _ _ | with_reducible refine bel_set ?_ ?_ | with_reducible refine bel_alloc ?_ ?_ | with_reducible refine Below.drew ?_ | with_reducible refine bel_drewN _ ?_ | with_reducible refine bel_call ?_ (by assumption) ?_)); all_goals (first | (simp; done) | omega | (simp; omega)))
    have HS3 := Lib.hid (HS.out.below hb3)
    have n0 : w3.cell? ⟨w.heap.size, 0, none⟩ = some (.int .i64 kd) := by rw [hw3]; go_simp
    have n1 : w3.cell? ⟨w.heap.size, 1, none⟩ = some (.string t) := by rw [hw3]; go_simp
    have n2 : w3.cell? ⟨w.heap.size, 2, none⟩ = some (.int .i64 off) := by rw [hw3]; go_simp
    have n3 : w3.cell? ⟨w.heap.size, 3, none⟩ = some (.slice A cs.length cc) := by rw [hw3]; go_simp
    have d0 : w3.cell? ⟨w.heap.size + 1, 0, none⟩ = some (.int .i64 mc) := by rw [hw3]; go_simp
    have d1 : w3.cell? ⟨w.heap.size + 1, 1, none⟩ = some (.int .i64 sc) := by rw [hw3]; go_simp
    have a1 : w3.cell? ⟨w.heap.size + 2, 1, none⟩ = some (.bool ai) := by rw [hw3]; go_simp
    have a2 : w3.cell? ⟨w.heap.size + 2, 2, none⟩ = some (.int .i64 ac) := by rw [hw3]; go_simp
    have a3 : w3.cell? ⟨w.heap.size + 2, 3, none⟩ = some (.int .i64 as') := by rw [hw3]; go_simp
    have a4 : w3.cell? ⟨w.heap.size + 2, 4, none⟩ = some (.string at') := by rw [hw3]; go_simp
    have f4 : w3.frozen? ⟨w.heap.size + 2, 4, none⟩ = false := by rw [hw3]; go_simp
    have s3 : w.heap.size + 3 = w3.heap.size := by rw [hw3]; simp
    have s0 : b < w3.heap.size := by omega
    have HB03 := Lib.hid hb3
    clear hw3 hb3
    have HB3 := Lib.hid HS3.out.2.2.1
    have hs0 := HB3.out.size
    rcases h1 with rfl | rfl | rfl | rfl | rfl | ⟨rfl, _⟩
    · obtain rfl : R = (0, t) := HO.out
      have K := Lib.hid (say_write t (HS3.out.below (Below.drew (Below.refl _ _))) (by simp only at hlen; omega))
      have E0 : Hid (errOf 0 = .nilIface) := Lib.hid rfl
      clear HO HI H2 H3
      go_wp2_with fail
      go_region_with (go_at_call 70; refine K.out.mono ?_; rintro e w4 ⟨rfl, h4⟩)
      all_goals
        go_wp2_with fail
        go_ret
        rw [E0.out]
        exact ⟨rfl, h4⟩
    · obtain rfl : R = (0, showT ⟨an, ai, ac, as', at'⟩) := HO.out
      have E0 : Hid (errOf 0 = .nilIface) := Lib.hid rfl
      clear HO HI H2 H3
      cases ai
      · have K := Lib.hid (say_write at' (HS3.out.below (Below.drew (Below.refl _ _))) (by have e : (showT ⟨an, false, ac, as', at'⟩) = at' := rfl; rw [e] at hlen; simp only at hlen; omega))
        go_wp2_with fail
        go_region_with (go_at_call 70; refine K.out.mono ?_; rintro e w4 ⟨rfl, h4⟩)
        all_goals
          go_wp2_with fail
          go_ret
          rw [E0.out]
          exact ⟨rfl, h4⟩
      · have hd := hva rfl
        have hso : ((as'.toNat : Nat) : Int) = as' := by have := hd.1; omega
        have KT := Lib.hid (dec_text ac as'.toNat w3 (HE.out.below HB3.out).pow (by rw [hso]; exact hd))
        rw [hso] at KT
        have hsz := decT_size ac as'.toNat (by rw [hso]; exact hd)
        have hsh : showT ⟨an, true, ac, as', at'⟩ = decT ac as'.toNat := rfl
        rw [hsh] at hlen
        have KT2 := Lib.hid KT
        clear KT
        go_wp2_with fail
        refine KT2.out.mono ?_
        rintro e w4 ⟨rfl, hb4⟩
        have b1 := carry hb4 a1
        have b4 := carry hb4 a4
        have g4 := carryF hb4 (by omega) f4
        have s4 := hb4.size
        have hbT : Below w.heap.size w (w4.setCell ⟨w.heap.size + 2, 4, none⟩ (.string (decT ac as'.toNat))).drew := ((HB03.out.trans (hb4.mono (by omega))).setCell (by simp) _).drew
        have K := Lib.hid (say_write (decT ac as'.toNat) (HS.out.below hbT) (by first | omega | (simp only at hlen; omega)))
        have s5 : b < (w4.setCell ⟨w.heap.size + 2, 4, none⟩ (.string (decT ac as'.toNat))).drew.heap.size := by simp; omega
        have HSH := Lib.hid hsh
        clear hb4 hbT hsh
        go_wp2_with fail
        go_region_with (go_at_call 70; refine K.out.mono ?_; rintro e w4 ⟨rfl, h4⟩)
        all_goals
          go_wp2_with fail
          go_ret
          rw [E0.out, HSH.out]
          exact ⟨rfl, h4⟩
    · obtain rfl : R = numP ac as' := HO.out
      have K := Lib.hid (say_number ac as' HS3.out (by omega) (HE.out.below HB3.out) (HL.out.below HB3.out))
      clear HO HI H2 H3
      go_wp2_with fail
      refine K.out.mono ?_
      rintro e w4 ⟨rfl, h4⟩
      go_wp2_with fail
      go_ret
      exact ⟨rfl, h4⟩
    · exact absurd HKD.out (by decide)
    · exact absurd HKD.out (by decide)
    · obtain rfl : R = numP mc sc := HO.out
      have K := Lib.hid (say_number mc sc HS3.out (by omega) (HE.out.below HB3.out) (HL.out.below HB3.out))
      clear HO HI H2 H3
      go_wp2_with fail
      refine K.out.mono ?_
      rintro e w4 ⟨rfl, h4⟩
      go_wp2_with fail
      go_ret
      exact ⟨rfl, h4⟩
end Go.Proofs.YthlcjlmaaaappaaGreatDoor
