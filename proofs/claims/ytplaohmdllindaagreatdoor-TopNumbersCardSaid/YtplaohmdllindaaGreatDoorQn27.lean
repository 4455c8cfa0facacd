/- NeedAll, WrapPlain, NeedOf, NodeRows, NodesFrom, CodeRows, CodeAdd, CodeOne, CodeCopied, Compile, CopiedOne, CodeOneC, MsgMessageG, MsgCaseG: texts put together. -/
import Derived.Test.YtplaohmdllindaaGreatDoorQn16
import Derived.Test.YtplaohmdllindaaGreatDoorQn26
import Derived.Test.YtplaohmdllindaaGreatDoorQn1
import Derived.Test.YtplaohmdllindaaGreatDoorQn4
import Derived.Test.YtplaohmdllindaaGreatDoorQn10
import Derived.Deep.RegionHeld3
import Derived.Deep.RegionLaw
import Derived.Test.YtplaohmdllindaaGreatDoorQn8
import Derived.Defers
set_option linter.unusedVariables false
set_option linter.unusedSimpArgs false
/- names' all; how many nodes msg.size tells. -/
namespace Go.Proofs.YtplaohmdllindaaGreatDoor
open Go.RowKit

theorem Off.trans2 {l m : List Nat} {a b c : World} (h : Off l a b) (k : Off m b c) (hm : ∀ i ∈ m, i ∈ l ∨ a.heap.size ≤ i) : Off l a c :=
  ⟨k.os.trans h.os, k.tape.trans h.tape, k.output.trans h.output, Nat.le_trans h.size k.size, fun i hi hl => (k.block i (Nat.lt_of_lt_of_le hi h.size) (fun hmi => by
    rcases hm i hmi with h1 | h1
    · exact hl h1
    · omega)).trans (h.block i hi hl)⟩
theorem NeedTo.trans {w w1 w2 : World} {p base : Nat} {sv sv1 : Value} {l : List Need} (hf : Fresh w sv sv1) (ho : Off (p :: sv.ownBlock.toList) w w1) (k : NeedTo w1 w2 p base sv1 l) : NeedTo w w2 p base sv l := by
  obtain ⟨sv2, h1, h2, h3⟩ := k
  refine ⟨sv2, h1, hf.trans h2 ho.size, ho.trans2 h3 fun i hi => ?_⟩
  rcases List.mem_cons.1 hi with rfl | hi
  · exact .inl (List.mem_cons_self ..)
  · rcases hf i hi with h | h
    · exact .inl (List.mem_cons_of_mem _ h)
    · exact .inr h
theorem NeedTo.below {w w1 w2 : World} {p base : Nat} {sv : Value} {l : List Need} (h : NeedTo w w1 p base sv l) (hb : Below w1.heap.size w1 w2) : NeedTo w w2 p base sv l := by
  obtain ⟨sv1, h1, h2, h3⟩ := h
  exact ⟨sv1, h1.below hb, h2, h3.below hb h3.size⟩
theorem NeedTo.toBelow {w w1 : World} {p base B : Nat} {sv : Value} {l l0 : List Need} (h : NeedTo w w1 p base sv l) (h0 : NeedsAt w p base l0 sv) (hp : B ≤ p) (hb : B ≤ base) (hw : B ≤ w.heap.size) : Below B w w1 := by
  obtain ⟨sv1, h1, h2, h3⟩ := h
  refine h3.toBelow (fun k hk => ?_) hw
  rcases List.mem_cons.1 hk with rfl | hk
  · exact hp
  · have := (h0.2.2.1.block k hk).1; omega

def foldC (f : Nat) (l : List Need) (cs : List (ByteArray × List Nd)) : List Need := cs.foldl (fun l c => allN f l c.2) l
def foldM (f : Nat) (l : List Need) (ms : List Nd) : List Need := ms.foldl (fun l x => foldC f (addN l x.kd x.t) (casesOf x)) l
theorem allN_succ (f : Nat) (l : List Need) (ms : List Nd) : allN (f + 1) l ms = foldM f l ms := rfl
def cntC (f : Nat) (cs : List (ByteArray × List Nd)) : Nat := (cs.map fun c => cntP f c.2).sum
theorem cntP_succ (f : Nat) (ms : List Nd) : cntP (f + 1) ms = ms.length + cntC f (flatC ms) := rfl
theorem cntC_append (f : Nat) (a b : List (ByteArray × List Nd)) : cntC f (a ++ b) = cntC f a + cntC f b := by unfold cntC; rw [List.map_append, List.sum_append]
theorem cntC_cons (f : Nat) (c : ByteArray × List Nd) (r : List (ByteArray × List Nd)) : cntC f (c :: r) = cntP f c.2 + cntC f r := by unfold cntC; rw [List.map_cons, List.sum_cons]
theorem allN_length : ∀ (f : Nat) (l : List Need) (ms : List Nd), (allN f l ms).length ≤ l.length + cntP f ms
  | 0, l, ms => by unfold allN; omega
  | f + 1, l, ms => by
    have hC : ∀ (cs : List (ByteArray × List Nd)) (l : List Need), (foldC f l cs).length ≤ l.length + cntC f cs := by
      intro cs
      induction cs with
      | nil => intro l; exact Nat.le_add_right _ _
      | cons c r ih =>
        intro l
        have h1 := allN_length f l c.2
        have h2 := ih (allN f l c.2)
        rw [cntC_cons]
        show (foldC f (allN f l c.2) r).length ≤ _
        omega
    rw [allN_succ, cntP_succ]
    have hM : ∀ (ms : List Nd) (l : List Need), (foldM f l ms).length ≤ l.length + (ms.length + cntC f (flatC ms)) := by
      intro ms
      induction ms with
      | nil => intro l; exact Nat.le_add_right _ _
      | cons x r ih =>
        intro l
        have h1 := hC (casesOf x) (addN l x.kd x.t)
        have h2 := addN_length l x.kd x.t
        have h3 := ih (foldC f (addN l x.kd x.t) (casesOf x))
        rw [flat_cons, cntC_append, List.length_cons]
        show (foldM f (foldC f (addN l x.kd x.t) (casesOf x)) r).length ≤ _
        omega
    exact hM ms l

/-- what msg.size tells of a message that is not too large -/
theorem runSz_cnt {g : List Nd → Nat × Bool} {f : Nat} (hg : ∀ b, (g b).2 = false → (g b).1 = cntP f b) : ∀ (cs : List (ByteArray × List Nd)) (n : Nat), (runSz g n cs).2 = false → (runSz g n cs).1 = n + cntC f cs ∧ n + cntC f cs ≤ 60 ∧ ∀ c ∈ cs, (g c.2).2 = false
  | [], n, h => by
    unfold runSz at h ⊢
    have : ¬ 60 < n := of_decide_eq_false h
    exact ⟨by simp [cntC], by simp [cntC]; omega, by simp⟩
  | c :: r, n, h => by
    unfold runSz at h ⊢
    split at h
    · cases h
    · rename_i hh
      rw [if_neg hh]
      have h0 : (g c.2).2 = false := by
        cases hq : (g c.2).2
        · rfl
        · exact absurd (by rw [hq]; rfl) hh
      obtain ⟨h1, h2, h3⟩ := runSz_cnt hg r _ h
      have h4 := hg c.2 h0
      rw [cntC_cons]
      refine ⟨by rw [h1, h4]; omega, by omega, fun d hd => ?_⟩
      rcases List.mem_cons.1 hd with rfl | hd
      · exact h0
      · exact h3 d hd
theorem size_cnt : ∀ (f : Nat) (ms : List Nd) (deep : Nat), (f = 0 → ms = []) → (sizeP f ms deep).2 = false → (sizeP f ms deep).1 = cntP f ms ∧ cntP f ms ≤ 60
  | 0, ms, deep, _, _ => ⟨rfl, Nat.zero_le _⟩
  | f + 1, ms, deep, _, h => by
    unfold sizeP at h ⊢
    split at h
    · cases h
    · rename_i hh
      rw [if_neg hh]
      obtain ⟨h1, h2, _⟩ := runSz_cnt (f := f) (fun b hb => by
        cases f with
        | zero => rfl
        | succ f => exact (size_cnt (f + 1) b (deep + 1) (fun h => by cases h) hb).1) (flatC ms) ms.length h
      exact ⟨h1, h2⟩
theorem msg_small {f : Nat} {ms : List Nd} (h : msgP f ms = 0) : cntP f ms ≤ 60 ∧ checkP f ms false = 0 := by
  unfold msgP at h
  cases hq : (sizeP f ms 0).2
  · rw [hq] at h
    rw [if_neg (by decide)] at h
    cases f with
    | zero => exact ⟨Nat.zero_le _, h⟩
    | succ f => exact ⟨(size_cnt (f + 1) ms 0 (fun h => by cases h) hq).2, h⟩
  · rw [hq, if_pos rfl] at h
    cases h

set_option maxHeartbeats 4000000 in
theorem need_all (W0 : World) (p base : Nat) (hp : W0.heap.size ≤ p) (hbase : W0.heap.size ≤ base) (f : Nat) : ∀ (v : Value) (ms : List Nd) (l : List Need) (sv : Value) (w : World), NodesIn f W0 v ms → Below W0.heap.size W0 w → NeedsAt w p base l sv → base ≤ w.heap.size → l.length + cntP f ms ≤ 1000000 →
      Calls Tryz.prog 137 #[.pointer (some ⟨p, 0, none⟩), v] w fun e w' => e = .returned (.tuple #[]) ∧ NeedTo w w' p base sv (allN f l ms) := by
  induction f with
  | zero =>
    intro v ms l sv w h hb hA hbw _
    obtain ⟨rfl, A, c, rfl, hc⟩ := h
    have HE : Hid (NeedTo w w p base sv (allN 0 l [])) := Lib.hid ⟨sv, hA, Fresh.refl _ _, Off.refl _ _⟩
    clear hA
    go_enter Tryz.func137, Tryz.ntmps137
    go_wp2_with fail
    go_loopw [10] (fun i wr => i = .int .i64 0 ∧ w = wr) (fun _ _ => 0)
    case atStart => exact ⟨rfl, rfl⟩
    case round =>
      obtain ⟨rfl, rfl⟩ := hrel
      go_wp2_with fail
      exact bodyPost_end (results_none rfl _ _ _) rfl ⟨rfl, HE.out⟩
  | succ f ih =>
    intro v ms l sv w hN hb hA hbw hcnt
    obtain ⟨A, c, rfl, hc, hc2, hl⟩ := hN.form
    have HN := Lib.hid hN
    have HB := Lib.hid hb
    have HA := Lib.hid hA
    have IH := Lib.hid ih
    rw [cntP_succ] at hcnt
    have HX : Hid (foldM f l (ms.drop 0) = allN (f + 1) l ms) := Lib.hid rfl
    generalize allN (f + 1) l ms = R at *
    have HS : Hid (NeedTo w w p base sv l) := Lib.hid ⟨sv, hA, Fresh.refl _ _, Off.refl _ _⟩
    have HCN : Hid (l.length + (ms.drop 0).length + cntC f (flatC (ms.drop 0)) ≤ 1000000) := Lib.hid (by rw [List.drop_zero]; omega)
    clear hN hb hA ih hcnt
    go_enter Tryz.func137, Tryz.ntmps137
    go_wp2_with fail
    go_loopw [10] (fun i wr => ∃ (k : Nat) (l' : List Need), k ≤ ms.length ∧ i = .int .i64 k ∧ Hid (NeedTo w wr p base sv l') ∧ Hid (foldM f l' (ms.drop k) = R) ∧ Hid (l'.length + (ms.drop k).length + cntC f (flatC (ms.drop k)) ≤ 1000000)) (fun i _ => ms.length - (intOf i).toNat)
    case atStart => exact ⟨0, l, Nat.zero_le _, rfl, HS, HX, HCN⟩
    case round =>
      obtain ⟨k, l', hk, rfl, HT, HR, HL⟩ := hrel
      by_cases hlt : k < ms.length
      · have hbr : Below W0.heap.size w _ := HT.out.toBelow HA.out hp hbase HB.out.size
        have hb0 := HB.out.trans hbr
        have HB1 := Lib.hid hb0
        obtain ⟨b, o, rfl, hat⟩ := HN.out.at (by omega)
        obtain ⟨x, hx⟩ : ∃ x, ms[k]? = some x := ⟨ms[k], List.getElem?_eq_getElem hlt⟩
        obtain ⟨A2, cc, x1, x2, x3, hC, n0, n1, n2, n3⟩ := (hat k x hx).cells
        replace n0 := carry hb0 n0
        replace n1 := carry hb0 n1
        replace n2 := carry hb0 n2
        replace n3 := carry hb0 n3
        obtain ⟨sv1, hA1, hF1, hO1⟩ := HT.out
        have sW := hO1.size
        have HF1 := Lib.hid hF1
        have HO1 := Lib.hid hO1
        have hst : foldM f l' (ms.drop k) = foldM f (foldC f (addN l' x.kd x.t) (casesOf x)) (ms.drop (k + 1)) := by rw [drop_at hx]; rfl
        rw [HR.out] at hst
        have hcn := HL.out
        have hadd := addN_length l' x.kd x.t
        rw [flat_drop hx, cntC_append, List.length_drop] at hcn
        have hb2 : Below wr.heap.size wr (wr.alloc (.cells #[.int .i64 x.kd, .string x.t, .int .i64 x.off, .slice A2 x.cs.length cc] 51)) := (Below.refl _ _).alloc (Nat.le_refl _) _
        have hA2 := hA1.below hb2
        have sb2 := hb2.size
        have K := Lib.hid (need_add p base x.kd x.off x.t A2 x.cs.length cc l' sv1 _ hA2 (by omega) (by omega))
        have HB2 := Lib.hid hb2
        have hnp : wr.heap.size ∉ p :: sv1.ownBlock.toList := fun hm => by
          rcases List.mem_cons.1 hm with e | hm
          · have := lt_of_cell hA1.1; omega
          · obtain ⟨_, cur, hc⟩ := hA1.2.2.1.block _ hm
            have := (Array.getElem?_eq_some_iff.1 hc).1
            omega
        have HNP := Lib.hid hnp
        have HA2 := Lib.hid hA2
        have HC := Lib.hid hC
        have HST := Lib.hid hst
        have HCN : Hid ((addN l' x.kd x.t).length + cntC f (casesOf x) + (ms.length - (k + 1)) + cntC f (flatC (ms.drop (k + 1))) ≤ 1000000) := Lib.hid (by omega)
        have i0 : (0 : Int) ≤ (k : Int) := by omega
        have i1 : (k : Int) < (ms.length : Int) := by omega
        have i2 : (k : Int) ≤ (c : Int) := by omega
        have e1 : IntKind.i64.wrap ((k : Int) + 1) = (k : Int) + 1 := IntWalk.i64_in _ (by omega)
        clear hbr hb0 hat hx hC hA1 hF1 hO1 hst hcn hadd hb2 hA2 sb2 hnp HR HL
        generalize addN l' x.kd x.t = l1 at *
        go_wp2_with fail
        refine K.out.mono ?_
        rintro e w2 ⟨rfl, hT2⟩
        have hO2 : Off (p :: sv1.ownBlock.toList) _ w2 := hT2.choose_spec.2.2
        have m0 := hO2.cell (show World.cell? _ ⟨wr.heap.size, 0, none⟩ = some (.int .i64 x.kd) by go_simp) HNP.out
        have m1 := hO2.cell (show World.cell? _ ⟨wr.heap.size, 1, none⟩ = some (.string x.t) by go_simp) HNP.out
        have m2 := hO2.cell (show World.cell? _ ⟨wr.heap.size, 2, none⟩ = some (.int .i64 x.off) by go_simp) HNP.out
        have m3 := hO2.cell (show World.cell? _ ⟨wr.heap.size, 3, none⟩ = some (.slice A2 x.cs.length cc) by go_simp) HNP.out
        have HT2 : Hid (NeedTo w w2 p base sv l1) := Lib.hid (NeedTo.trans HF1.out (HO1.out.below HB2.out sW) hT2)
        clear hT2 hO2 n0 n1 n2 n3 HA2 K
        go_wp2_with fail
        refine (cases_any (P := NodesIn f W0) W0 x A2 x.cs.length cc _ HC.out).mono ?_
        rintro e w3 ⟨A3, d3, rfl, y1, y2, y3, hC3, hb3⟩
        have HT3 := Lib.hid (HT2.out.below hb3)
        have HC3 := Lib.hid hC3
        generalize casesOf x = cs at *
        clear hb3 hC3 m0 m1 m2 m3 HC HT2
        go_wp2_with fail
        go_loopw [20] (fun i wi => ∃ (j : Nat) (l' : List Need), j ≤ cs.length ∧ i = .int .i64 j ∧ Hid (NeedTo w wi p base sv l') ∧ Hid (foldM f (foldC f l' (cs.drop j)) (ms.drop (k + 1)) = R) ∧ Hid (l'.length + cntC f (cs.drop j) + (ms.length - (k + 1)) + cntC f (flatC (ms.drop (k + 1))) ≤ 1000000)) (fun i _ => cs.length - (intOf i).toNat)
        case atStart => exact ⟨0, l1, Nat.zero_le _, rfl, HT3, Lib.hid HST.out.symm, HCN⟩
        case round =>
          obtain ⟨j, l2, hj, rfl, HT4, HR4, HL4⟩ := hrel
          by_cases hjt : j < cs.length
          · have hbr : Below W0.heap.size w _ := HT4.out.toBelow HA.out hp hbase HB.out.size
            have hb0 := HB.out.trans hbr
            obtain ⟨b2, o2, rfl, hcell⟩ := HC3.out.at (by omega)
            obtain ⟨xb, hx⟩ : ∃ x, cs[j]? = some x := ⟨cs[j], List.getElem?_eq_getElem hjt⟩
            obtain ⟨hxz, c0, vb, c1, hvb⟩ := hcell j xb hx
            obtain ⟨xk, body⟩ := xb
            simp only at c0 c1 hxz hvb
            obtain ⟨A4, d4, rfl, b1, b2, b3⟩ := hvb.form
            replace c0 := carry hb0 c0
            replace c1 := carry hb0 c1
            obtain ⟨sv4, hA4, hF4, hO4⟩ := HT4.out
            have sW4 := hO4.size
            have HF4 := Lib.hid hF4
            have HO4 := Lib.hid hO4
            have hst : foldC f l2 (cs.drop j) = foldC f (allN f l2 body) (cs.drop (j + 1)) := by rw [drop_at hx]; rfl
            have HST4 : Hid (foldM f (foldC f (allN f l2 body) (cs.drop (j + 1))) (ms.drop (k + 1)) = R) := Lib.hid (by rw [← hst]; exact HR4.out)
            have hcn := HL4.out
            have hadd := allN_length f l2 body
            rw [drop_at hx, cntC_cons] at hcn
            simp only at hcn
            have hb5 : Below wr.heap.size wr (wr.alloc (.cells #[.string xk, .slice A4 body.length d4] 246)) := (Below.refl _ _).alloc (Nat.le_refl _) _
            have sb5 := hb5.size
            have K := Lib.hid (IH.out _ body l2 sv4 _ hvb (hb0.trans (hb5.mono (by have := hb0.size; omega))) (hA4.below hb5) (by omega) (by omega))
            have HCN4 : Hid ((allN f l2 body).length + cntC f (cs.drop (j + 1)) + (ms.length - (k + 1)) + cntC f (flatC (ms.drop (k + 1))) ≤ 1000000) := Lib.hid (by omega)
            have HB5 := Lib.hid hb5
            have i0 : (0 : Int) ≤ (j : Int) := by omega
            have i1 : (j : Int) < (cs.length : Int) := by omega
            have i2 : (j : Int) ≤ (d3 : Int) := by omega
            have e1 : IntKind.i64.wrap ((j : Int) + 1) = (j : Int) + 1 := IntWalk.i64_in _ (by omega)
            clear hbr hb0 hcell hx hvb hA4 hF4 hO4 hst hcn hadd hb5 sb5 HR4 HL4
            go_wp2_with fail
            refine K.out.mono ?_
            rintro e w6 ⟨rfl, hT6⟩
            have HT6 : Hid (NeedTo w w6 p base sv (allN f l2 body)) := Lib.hid (NeedTo.trans HF4.out (HO4.out.below HB5.out sW4) hT6)
            clear hT6
            go_wp2_with fail
            go_roundw
            case rel => exact ⟨j + 1, _, by omega, by go_num, HT6, HST4, HCN4⟩
            case measure => simp [intOf]; omega
          · obtain rfl : j = cs.length := by omega
            have hr := HR4.out
            have hl4 := HL4.out
            rw [List.drop_of_length_le (Nat.le_refl _)] at hr hl4
            have HR5 : Hid (foldM f l2 (ms.drop (k + 1)) = R) := Lib.hid hr
            have HL5 : Hid (l2.length + (ms.drop (k + 1)).length + cntC f (flatC (ms.drop (k + 1))) ≤ 1000000) := Lib.hid (by rw [List.length_drop]; omega)
            clear hr hl4
            go_wp2_with fail
            go_roundw
            case rel => exact ⟨k + 1, l2, by omega, by go_num, HT4, HR5, HL5⟩
            case measure => simp [intOf]; omega
      · obtain rfl : k = ms.length := by omega
        have hr := HR.out
        rw [List.drop_of_length_le (Nat.le_refl _)] at hr
        have HE : Hid (NeedTo w _ p base sv R) := Lib.hid ((show l' = R from hr) ▸ HT.out)
        clear hr
        go_wp2_with fail
        exact bodyPost_end (results_none rfl _ _ _) rfl ⟨rfl, HE.out⟩
end Go.Proofs.YtplaohmdllindaaGreatDoor

/- A message within a Select: what it asks for, in plain terms. -/
namespace Go.Proofs.YtplaohmdllindaaGreatDoor

def namesOf (l : List Need) : List (List UInt8) := l.map fun n => n.name.toList
theorem hasN_iff (t : ByteArray) (n : Need) : hasN t n = true ↔ n.name.toList = t.toList := by unfold hasN; exact beq_iff_eq
theorem names_modify (l : List Need) (i : Nat) (kd : Int) : namesOf (l.modify i (flagN kd)) = namesOf l := by
  unfold namesOf
  apply List.ext_getElem?
  intro j
  rw [List.getElem?_map, List.getElem?_map, List.getElem?_modify]
  cases l[j]? with
  | none => rfl
  | some n => by_cases h : i = j <;> simp [h, flagN]
theorem mem_names {l : List Need} {t : ByteArray} : t.toList ∈ namesOf l ↔ ∃ (i : Nat) (n : Need), l[i]? = some n ∧ hasN t n = true := by
  unfold namesOf
  constructor
  · intro h
    obtain ⟨n, hn, he⟩ := List.mem_map.1 h
    obtain ⟨i, hi⟩ := List.mem_iff_getElem?.1 hn
    exact ⟨i, n, hi, (hasN_iff t n).2 he⟩
  · rintro ⟨i, n, h, he⟩
    exact List.mem_map.2 ⟨n, List.mem_of_getElem? h, (hasN_iff t n).1 he⟩
theorem names_grow (l : List Need) (t : ByteArray) : namesOf (growN l t).1 = if t.toList ∈ namesOf l then namesOf l else namesOf l ++ [t.toList] := by
  unfold growN
  cases h : l.findIdx? (hasN t) with
  | none =>
    rw [if_neg]
    · unfold namesOf; rw [List.map_append]; rfl
    · rw [mem_names]
      rintro ⟨i, n, hi, hn⟩
      have := List.findIdx?_eq_none_iff.1 h n (List.mem_of_getElem? hi)
      rw [hn] at this; cases this
  | some i =>
    obtain ⟨hi, h1, _⟩ := List.findIdx?_eq_some_iff_getElem.1 h
    rw [if_pos (mem_names.2 ⟨i, l[i], List.getElem?_eq_getElem hi, h1⟩)]
theorem names_add (l : List Need) (kd : Int) (t : ByteArray) : namesOf (addN l kd t) = if kd = 1 ∨ kd = 6 then namesOf l else if t.toList ∈ namesOf l then namesOf l else namesOf l ++ [t.toList] := by
  unfold addN
  split
  · rfl
  · rw [names_modify, names_grow]
end Go.Proofs.YtplaohmdllindaaGreatDoor

/- names.of, names.Of. -/
namespace Go.Proofs.YtplaohmdllindaaGreatDoor
open Go.RowKit

def bothN (n : Need) : Bool := n.num && n.text
theorem of_is (n : Need) (w : World) :
    Calls Tryz.prog 139 #[.agg #[.string n.name, .bool n.num, .bool n.text]] w fun e w' => e = .returned (.bool (bothN n)) ∧ Below w.heap.size w w' := by
  obtain ⟨t, a, b⟩ := n
  cases a
  · have HD : Hid (bothN ⟨t, false, b⟩ = false) := Lib.hid rfl
    simp only
    go_enter Tryz.func139, Tryz.ntmps139
    go_wp2_with fail
    go_ret
    exact ⟨ret_bool HD.out.symm, belx⟩
  · have HD : Hid (bothN ⟨t, true, b⟩ = b) := Lib.hid rfl
    simp only
    go_enter Tryz.func139, Tryz.ntmps139
    go_wp2_with fail
    go_ret
    exact ⟨ret_bool HD.out.symm, belx⟩

set_option maxHeartbeats 1000000 in
theorem index_both (A : Option Addr) (c : Nat) (l : List Need) (w : World) (hL : NeedsIn w A l) (hc : l.length ≤ c) (hc2 : c ≤ 9223372036854775807) :
    Calls Tryz.prog 190 #[.slice A l.length c, .func (Fn.func 139) #[] #[]] w fun e w' => (∃ i : Int, e = .returned (.int .i64 i) ∧ decide (0 ≤ i) = l.any bothN) ∧ Below w.heap.size w w' := by
  have HL := Lib.hid hL
  clear hL
  go_enter Tryz.func190, Tryz.ntmps190
  go_wp2_with fail
  go_loopw [8] (fun i wr => ∃ k : Nat, k ≤ l.length ∧ i = .int .i64 k ∧ Hid (∀ y ∈ l.take k, bothN y = false) ∧ Hid (Below w.heap.size w wr)) (fun i _ => l.length - (intOf i).toNat)
  case atStart => exact ⟨0, Nat.zero_le _, rfl, Lib.hid (by simp), Lib.hid (Below.refl _ _)⟩
  case round =>
    obtain ⟨k, hk, rfl, HF, HB⟩ := hrel
    by_cases hlt : k < l.length
    · obtain ⟨b, o, rfl, hat⟩ := (HL.out.below HB.out).at (by omega)
      obtain ⟨x, hx⟩ : ∃ x, l[k]? = some x := ⟨l[k], List.getElem?_eq_getElem hlt⟩
      obtain ⟨n0, n1, n2⟩ := hat k x hx
      have sB := HB.out.size
      have i0 : (0 : Int) ≤ (k : Int) := by omega
      have i1 : (k : Int) < (l.length : Int) := by omega
      have i2 : (k : Int) ≤ (c : Int) := by omega
      have e1 : IntKind.i64.wrap ((k : Int) + 1) = (k : Int) + 1 := IntWalk.i64_in _ (by omega)
      have K := Lib.hid (of_is x wr)
      have HX := Lib.hid hx
      clear hat hx
      cases hq : bothN x
      · rw [hq] at K
        have HF2 : Hid (∀ y ∈ l.take (k + 1), bothN y = false) := Lib.hid fun y hy => by
          rw [List.take_add_one, HX.out, Option.toList_some, List.mem_append, List.mem_singleton] at hy
          rcases hy with hy | rfl
          · exact HF.out y hy
          · exact hq
        clear hq
        go_wp2_with fail
        refine K.out.mono ?_
        rintro e w1 ⟨rfl, hb1⟩
        have HB1 := Lib.hid (HB.out.trans (hb1.mono sB))
        clear hb1
        go_wp2_with fail
        go_roundw
        case rel => exact ⟨k + 1, by omega, by go_num, HF2, HB1⟩
        case measure => simp [intOf]; omega
      · rw [hq] at K
        have HD : Hid (l.any bothN = true) := Lib.hid (List.any_eq_true.2 ⟨x, List.mem_of_getElem? HX.out, hq⟩)
        clear hq
        go_wp2_with fail
        refine K.out.mono ?_
        rintro e w1 ⟨rfl, hb1⟩
        have HB1 := Lib.hid (HB.out.trans (hb1.mono sB))
        clear hb1
        go_wp2_with fail
        go_ret
        refine ⟨⟨(k : Int), rfl, ?_⟩, HB1.out⟩
        rw [HD.out]
        exact decide_eq_true (by omega)
    · obtain rfl : k = l.length := by omega
      have HD : Hid (l.any bothN = false) := Lib.hid (by
        rw [List.any_eq_false]
        intro x hx
        have := HF.out x (by rw [List.take_length]; exact hx)
        rw [this]; decide)
      go_wp2_with fail
      go_ret
      refine ⟨⟨-1, rfl, ?_⟩, HB.out⟩
      rw [HD.out]
      rfl
theorem any_both (A : Option Addr) (c : Nat) (l : List Need) (w : World) (hL : NeedsIn w A l) (hc : l.length ≤ c) (hc2 : c ≤ 9223372036854775807) :
    Calls Tryz.prog 138 #[.slice A l.length c, .func (Fn.func 139) #[] #[]] w fun e w' => e = .returned (.bool (l.any bothN)) ∧ Below w.heap.size w w' := by
  have K := Lib.hid (index_both A c l w hL hc hc2)
  clear hL
  generalize l.any bothN = T at *
  go_enter Tryz.func138, Tryz.ntmps138
  go_wp2_with fail
  refine K.out.mono ?_
  rintro e w1 ⟨⟨i, rfl, hi⟩, hb1⟩
  have HI := Lib.hid hi
  clear hi
  go_wp2_with fail
  go_ret
  exact ⟨ret_bool HI.out, hb1⟩

/-- names.of where nothing is wrong -/
theorem names_of_ok (f : Nat) (v : Value) (ms : List Nd) (w : World) (hE : RuleEnv w) (hK : MKinds w) (hN : NodesIn f w v ms) (h : namesP f ms = 0) :
    Calls Tryz.prog 72 #[v] w fun e w' => (∃ A c, e = .returned (.tuple #[.slice A (allN f [] ms).length c, .nilIface]) ∧ (allN f [] ms).length ≤ c ∧ c ≤ 9223372036854775807 ∧ NeedsIn w' A (allN f [] ms)) ∧ Below w.heap.size w w' := by
  have hm : msgP f ms = 0 := by
    unfold namesP at h
    split at h
    · rename_i h1; exact h1
    · exact h
  have hany : (allN f [] ms).any bothN = false := by
    unfold namesP at h
    rw [if_pos hm] at h
    cases hq : (allN f [] ms).any bothN
    · rfl
    · rw [show (allN f [] ms).any (fun n => n.num && n.text) = true from hq] at h
      cases h
  have KM := Lib.hid (msg_any f v ms w hE hK hN)
  rw [hm] at KM
  have hcnt := (msg_small hm).1
  have HNK := Lib.hid (fun (W : World) (p : Nat) (sv : Value) (hb : Below w.heap.size w W) (hp : w.heap.size ≤ p) (hA : NeedsAt W p w.heap.size [] sv) => need_all w p w.heap.size hp (Nat.le_refl _) f v ms [] sv W hN hb hA hb.size (by simp; omega))
  obtain ⟨A, c, rfl, _, _, _⟩ := hN.form
  have E0 : Hid (errOf 0 = .nilIface) := Lib.hid rfl
  rw [E0.out] at KM
  have HANY := Lib.hid hany
  clear hE hK hN h hm hcnt hany
  generalize allN f [] ms = L at *
  go_enter Tryz.func72, Tryz.ntmps72
  go_wp2_with fail
  refine KM.out.mono ?_
  rintro e w1 ⟨rfl, hb1⟩
  have s1 := hb1.size
  have HB1 := Lib.hid hb1
  clear hb1
  go_wp2_with fail
  have hb2 : Below w.heap.size w (w1.alloc (.cells #[.slice none 0 0] 158)) := HB1.out.alloc s1 _
  have hA : NeedsAt (w1.alloc (.cells #[.slice none 0 0] 158)) w1.heap.size w.heap.size [] (.slice none 0 0) := ⟨by go_simp, by go_simp, OwnsG.nil _ _, by simp [Value.ownBlock]⟩
  refine (HNK.out _ w1.heap.size _ hb2 s1 hA).mono ?_
  rintro e w2 ⟨rfl, hT⟩
  have HB2 := Lib.hid (hb2.trans (hT.toBelow hA s1 (Nat.le_refl _) hb2.size))
  obtain ⟨sv, ⟨p0, p1, hO, _⟩, _, _⟩ := hT
  obtain ⟨A2, c2, rfl, g1, g2, hin⟩ := needs_of hO
  have KA := Lib.hid (any_both A2 c2 L w2 hin g1 g2)
  rw [HANY.out] at KA
  have HIN := Lib.hid hin
  have P0 := Lib.hid p0
  clear hb2 hA hO hin p1
  go_wp2_with fail
  refine KA.out.mono ?_
  rintro e w3 ⟨rfl, hb3⟩
  have s2 := HB2.out.size
  have HB3 := Lib.hid (HB2.out.trans (hb3.mono s2))
  have q0 := carry hb3 P0.out
  have HIN3 := Lib.hid (HIN.out.below hb3)
  clear hb3 p0
  go_wp2_with fail
  go_ret2
  exact ⟨⟨A2, c2, rfl, g1, g2, HIN3.out⟩, HB3.out⟩
/-- names.of where something is wrong -/
theorem names_of_no (f : Nat) (v : Value) (ms : List Nd) (w : World) (hE : RuleEnv w) (hK : MKinds w) (hN : NodesIn f w v ms) (h : ¬ namesP f ms = 0) :
    Calls Tryz.prog 72 #[v] w fun e w' => e = .returned (.tuple #[.slice none 0 0, errT (namesP f ms)]) ∧ Below w.heap.size w w' := by
  have KM := Lib.hid (msg_any f v ms w hE hK hN)
  by_cases hm : msgP f ms = 0
  · rw [hm] at KM
    have hany : (allN f [] ms).any bothN = true := by
      unfold namesP at h
      rw [if_pos hm] at h
      cases hq : (allN f [] ms).any bothN
      · rw [show (allN f [] ms).any (fun n => n.num && n.text) = false from hq] at h
        exact absurd rfl h
      · rfl
    have h7 : namesP f ms = 7 := by
      unfold namesP
      rw [if_pos hm, show (allN f [] ms).any (fun n => n.num && n.text) = true from hany]
      rfl
    rw [h7]
    have hcnt := (msg_small hm).1
    have HNK := Lib.hid (fun (W : World) (p : Nat) (sv : Value) (hb : Below w.heap.size w W) (hp : w.heap.size ≤ p) (hA : NeedsAt W p w.heap.size [] sv) => need_all w p w.heap.size hp (Nat.le_refl _) f v ms [] sv W hN hb hA hb.size (by simp; omega))
    obtain ⟨A, c, rfl, _, _, _⟩ := hN.form
    have E0 : Hid (errOf 0 = .nilIface) := Lib.hid rfl
    rw [E0.out] at KM
    have HANY := Lib.hid hany
    clear hE hK hN h hm hcnt hany h7
    generalize allN f [] ms = L at *
    go_enter Tryz.func72, Tryz.ntmps72
    go_wp2_with fail
    refine KM.out.mono ?_
    rintro e w1 ⟨rfl, hb1⟩
    have s1 := hb1.size
    have HB1 := Lib.hid hb1
    clear hb1
    go_wp2_with fail
    have hb2 : Below w.heap.size w (w1.alloc (.cells #[.slice none 0 0] 158)) := HB1.out.alloc s1 _
    have hA : NeedsAt (w1.alloc (.cells #[.slice none 0 0] 158)) w1.heap.size w.heap.size [] (.slice none 0 0) := ⟨by go_simp, by go_simp, OwnsG.nil _ _, by simp [Value.ownBlock]⟩
    refine (HNK.out _ w1.heap.size _ hb2 s1 hA).mono ?_
    rintro e w2 ⟨rfl, hT⟩
    have HB2 := Lib.hid (hb2.trans (hT.toBelow hA s1 (Nat.le_refl _) hb2.size))
    obtain ⟨sv, ⟨p0, p1, hO, _⟩, _, _⟩ := hT
    obtain ⟨A2, c2, rfl, g1, g2, hin⟩ := needs_of hO
    have KA := Lib.hid (any_both A2 c2 L w2 hin g1 g2)
    rw [HANY.out] at KA
    clear hb2 hA hO hin p1
    go_wp2_with fail
    refine KA.out.mono ?_
    rintro e w3 ⟨rfl, hb3⟩
    have s2 := HB2.out.size
    have HB3 := Lib.hid (HB2.out.trans (hb3.mono s2))
    clear hb3 p0
    go_wp2_with fail
    go_ret2
    exact ⟨rfl, HB3.out⟩
  · have hnp : namesP f ms = msgP f ms := if_neg hm
    rw [hnp]
    have E0 : errOf (msgP f ms) = errT (msgP f ms) := if_neg hm
    rw [E0] at KM
    obtain ⟨A, c, rfl, _, _, _⟩ := hN.form
    clear hE hK hN h hm hnp E0
    generalize msgP f ms = E at *
    go_enter Tryz.func72, Tryz.ntmps72
    go_wp2_with fail
    refine KM.out.mono ?_
    rintro e w1 ⟨rfl, hb1⟩
    go_wp2_with fail
    go_ret2
    exact ⟨rfl, hb1⟩
end Go.Proofs.YtplaohmdllindaaGreatDoor

/- Rows of nodes and of cases, whatever their cells hold. -/
namespace Go.Proofs.YtplaohmdllindaaGreatDoor
open Go.RowKit

/-- so many values of a cell each -/
def Vals (n : Nat) : Type := { l : List Value // l.length = n ∧ ∀ u ∈ l, u.oneCell' = true }
def nodeQ (kd : Int) (t : ByteArray) (off : Int) (A : Option Addr) (n c : Nat) : Vals 4 := ⟨[.int .i64 kd, .string t, .int .i64 off, .slice A n c], rfl, fun u hu => by
  simp only [List.mem_cons, List.not_mem_nil, or_false] at hu
  rcases hu with rfl | rfl | rfl | rfl <;> rfl⟩
def kNodeQ : Kind (Vals 4) where
  e := 51
  sl := 33
  size := 4
  bytes := 56
  cells := fun x => x.1
  zero := .agg #[.int .i64 0, .string ⟨#[]⟩, .int .i64 0, .slice none 0 0]
  hsl := Tryz.underlying33
  hi := by
    have h : (Tryz.prog.info? 51).map (fun i => (i.zero, i.size, i.bytes)) = some (some (.agg #[.int .i64 0, .string ⟨#[]⟩, .int .i64 0, .slice none 0 0]), 4, 56) := by kernel_rfl
    obtain ⟨i, hi, h2⟩ := Option.map_eq_some_iff.1 h
    simp only [Prod.mk.injEq] at h2
    exact ⟨i, hi, h2.1, h2.2.1, h2.2.2⟩
  hzs := rfl
  hpos := by decide
  hlen := fun t => t.2.1
  hone := fun x u hu => x.2.2 u hu
end Go.Proofs.YtplaohmdllindaaGreatDoor

/- Messages in memory that lie from a place on. -/
namespace Go.Proofs.YtplaohmdllindaaGreatDoor
open Go.RowKit

/-- what is said of a node, by cells that stay -/
theorem NodesIn.cells {w w' : World} (hc : ∀ b o v, w.cell? ⟨b, o, none⟩ = some v → w'.cell? ⟨b, o, none⟩ = some v) : ∀ (f : Nat) {v : Value} {ms : List Nd}, NodesIn f w v ms → NodesIn f w' v ms
  | 0, _, _, h => h
  | f + 1, v, ms, ⟨A, c, h1, h2, h3, h4, h5⟩ => by
    refine ⟨A, c, h1, h2, h3, h4, ?_⟩
    rcases h5 with h5 | ⟨b, o, h6, h7⟩
    · exact .inl h5
    · refine .inr ⟨b, o, h6, fun j x hx => ?_⟩
      obtain ⟨k1, k2, k3, k4, k5, k6, vc, k7, A2, c2, q1, q2, q3, q4, q5⟩ := h7 j x hx
      refine ⟨k1, k2, k3, hc _ _ _ k4, hc _ _ _ k5, hc _ _ _ k6, vc, hc _ _ _ k7, A2, c2, q1, q2, q3, q4, ?_⟩
      rcases q5 with q5 | ⟨b2, o2, q6, q7⟩
      · exact .inl q5
      · refine .inr ⟨b2, o2, q6, fun i k hk => ?_⟩
        obtain ⟨z1, z2, vb, z3, z4⟩ := q7 i k hk
        exact ⟨z1, hc _ _ _ z2, vb, hc _ _ _ z3, NodesIn.cells hc f z4⟩
/-- the world without what lies ahead of block B -/
def erase (B : Nat) (w : World) : World := { w with heap := w.heap.mapIdx fun i o => if i < B then .map #[] 0 else o }
theorem erase_size (B : Nat) (w : World) : (erase B w).heap.size = w.heap.size := by unfold erase; simp
theorem erase_at {B : Nat} {w : World} {b : Nat} (h : B ≤ b) : (erase B w).heap[b]? = w.heap[b]? := by
  unfold erase
  simp only [Array.getElem?_mapIdx]
  rw [show (fun o : Obj => if b < B then Obj.map #[] 0 else o) = id from funext fun o => if_neg (by omega)]
  simp
theorem erase_cell {B : Nat} {w : World} {b o : Nat} (h : B ≤ b) : (erase B w).cell? ⟨b, o, none⟩ = w.cell? ⟨b, o, none⟩ := by
  simp only [World.cell?, erase_at h]
theorem erase_some {B : Nat} {w : World} {b o : Nat} {v : Value} (h : (erase B w).cell? ⟨b, o, none⟩ = some v) : B ≤ b ∧ w.cell? ⟨b, o, none⟩ = some v := by
  by_cases hb : B ≤ b
  · exact ⟨hb, (erase_cell hb).symm.trans h⟩
  · exfalso
    have hlt := lt_of_cell h
    rw [erase_size] at hlt
    have : (erase B w).heap[b]? = some (.map #[] 0) := by
      unfold erase
      simp only [Array.getElem?_mapIdx]
      rw [Array.getElem?_eq_getElem hlt]
      simp [show b < B by omega]
    simp only [World.cell?, this] at h
    cases h
def NodesFrom (B f : Nat) (w : World) (v : Value) (ms : List Nd) : Prop := NodesIn f (erase B w) v ms
theorem NodesFrom.all {B f : Nat} {w : World} {v : Value} {ms : List Nd} (h : NodesFrom B f w v ms) : NodesIn f w v ms :=
  NodesIn.cells (fun _ _ _ hc => (erase_some hc).2) f h
theorem NodesFrom.off {B f : Nat} {w w' : World} {v : Value} {ms : List Nd} {l : List Nat} (h : NodesFrom B f w v ms) (ho : Off l w w') (hl : ∀ k ∈ l, k < B) : NodesFrom B f w' v ms :=
  NodesIn.cells (fun b o v hc => by
    obtain ⟨h1, h2⟩ := erase_some hc
    rw [erase_cell h1]
    exact ho.cell h2 (fun hm => by have := hl b hm; omega)) f h
theorem NodesFrom.mono {B B' f : Nat} {w : World} {v : Value} {ms : List Nd} (h : NodesFrom B f w v ms) (hB : B' ≤ B) : NodesFrom B' f w v ms :=
  NodesIn.cells (fun b o v hc => by
    obtain ⟨h1, h2⟩ := erase_some hc
    rw [erase_cell (by omega)]
    exact h2) f h
/-- a row of nodes that is one's own -/
theorem nodes_of {f B : Nat} {w : World} {v : Value} {rows : List (Vals 4)} {ms : List Nd} (h : OwnsG kNodeQ w B v rows) (hl : rows.length = ms.length) (hn : ms.length ≤ 3518437208800)
    (hx : ∀ (j : Nat) x, ms[j]? = some x → x.t.size ≤ 140737488355328 ∧ (-9223372036854775808 ≤ x.off ∧ x.off ≤ 9223372036854775807) ∧ (-9223372036854775808 ≤ x.kd ∧ x.kd ≤ 9223372036854775807) ∧ ∃ A n c, rows[j]? = some (nodeQ x.kd x.t x.off A n c) ∧ CasesN (NodesIn f (erase B w)) (erase B w) (.slice A n c) x.cs) : NodesFrom B (f + 1) w v ms := by
  obtain ⟨A, c, rfl, h1, h2, h3, h4⟩ := h.form
  refine ⟨A, c, by rw [hl], by omega, h2, hn, ?_⟩
  rcases h4 with h4 | ⟨g, rfl, hg, _, hc⟩
  · left
    rw [h4] at hl
    exact List.length_eq_zero_iff.1 hl.symm
  · refine .inr ⟨g, 0, rfl, fun j x hxj => ?_⟩
    obtain ⟨z1, z2, z3, A2, n2, c2, hr, hcs⟩ := hx j x hxj
    have hce : ∀ i u, (kNodeQ.cells (nodeQ x.kd x.t x.off A2 n2 c2))[i]? = some u → (erase B w).cell? ⟨g, 0 + j * 4 + i, none⟩ = some u := fun i u hu => by
      rw [erase_cell hg, Nat.zero_add]
      exact hc j _ i u hr hu
    exact ⟨z1, z2, z3, hce 0 _ rfl, hce 1 _ rfl, hce 2 _ rfl, _, hce 3 _ rfl, hcs⟩
theorem leaf {f B : Nat} {w : World} : CasesN (NodesIn f (erase B w)) (erase B w) (.slice none 0 0) [] := ⟨none, 0, rfl, Nat.le_refl _, by omega, Nat.zero_le _, .inl rfl⟩
end Go.Proofs.YtplaohmdllindaaGreatDoor

/- The rows of code: its steps, what begins where. -/
namespace Go.Proofs.YtplaohmdllindaaGreatDoor
open Go.RowKit

/-- six values of a cell each -/
def Six : Type := { l : List Value // l.length = 6 ∧ ∀ u ∈ l, u.oneCell' = true }
def zeroStep : List Value := [.int .i64 0, .string ⟨#[]⟩, .int .i64 0, .slice none 0 0, .slice none 0 0, .int .i64 0]
def sixZero : Six := ⟨zeroStep, rfl, fun u hu => by
  simp only [zeroStep, List.mem_cons, List.not_mem_nil, or_false] at hu
  rcases hu with rfl | rfl | rfl | rfl | rfl | rfl <;> rfl⟩
def kStep : Kind Six where
  e := 218
  sl := 129
  size := 6
  bytes := 88
  cells := fun x => x.1
  zero := .agg #[.int .i64 0, .string ⟨#[]⟩, .int .i64 0, .slice none 0 0, .slice none 0 0, .int .i64 0]
  hsl := Tryz.underlying129
  hi := by
    have h : (Tryz.prog.info? 218).map (fun i => (i.zero, i.size, i.bytes)) = some (some (.agg #[.int .i64 0, .string ⟨#[]⟩, .int .i64 0, .slice none 0 0, .slice none 0 0, .int .i64 0]), 6, 88) := by kernel_rfl
    obtain ⟨i, hi, h2⟩ := Option.map_eq_some_iff.1 h
    simp only [Prod.mk.injEq] at h2
    exact ⟨i, hi, h2.1, h2.2.1, h2.2.2⟩
  hzs := rfl
  hpos := by decide
  hlen := fun t => t.2.1
  hone := fun x u hu => x.2.2 u hu
def kInt : Kind Int where
  e := 3
  sl := 216
  size := 1
  bytes := 8
  cells := fun x => [.int .i64 x]
  zero := .int .i64 0
  hsl := Tryz.underlying216
  hi := by
    have h : (Tryz.prog.info? 3).map (fun i => (i.zero, i.size, i.bytes)) = some (some (.int .i64 0), 1, 8) := by kernel_rfl
    obtain ⟨i, hi, h2⟩ := Option.map_eq_some_iff.1 h
    simp only [Prod.mk.injEq] at h2
    exact ⟨i, hi, h2.1, h2.2.1, h2.2.2⟩
  hzs := rfl
  hpos := by decide
  hlen := fun _ => rfl
  hone := fun x u hu => by
    simp only [List.mem_cons, List.not_mem_nil, or_false] at hu
    rcases hu with rfl; rfl
/-- there is a second cell -/
def Two (w : World) (p : Nat) : Prop := ∃ u, w.cell? ⟨p, 1, none⟩ = some u
theorem Two.below {w w' : World} {p : Nat} (h : Two w p) (hb : Below w.heap.size w w') : Two w' p := by
  obtain ⟨u, h⟩ := h
  exact ⟨u, carry hb h⟩
theorem Two.off {w w' : World} {p : Nat} {m : List Nat} (h : Two w p) (ho : Off m w w') (hp : p ∉ m) : Two w' p := by
  obtain ⟨u, h⟩ := h
  exact ⟨u, ho.cell h hp⟩
theorem Two.set {w : World} {p : Nat} (h : Two w p) (g j : Nat) (v : Value) : Two (w.setCell ⟨g, j, none⟩ v) p := by
  obtain ⟨u, h⟩ := h
  by_cases e : (⟨g, j, none⟩ : Addr) = ⟨p, 1, none⟩
  · rw [e]; exact ⟨v, cell_same h⟩
  · exact ⟨u, cell_other h e⟩
end Go.Proofs.YtplaohmdllindaaGreatDoor

/- code's add: so many steps more. -/
namespace Go.Proofs.YtplaohmdllindaaGreatDoor
open Go.RowKit

end Go.Proofs.YtplaohmdllindaaGreatDoor

/- code's add at one node without cases, in an empty row. -/
namespace Go.Proofs.YtplaohmdllindaaGreatDoor
open Go.RowKit

/-- a step of a node without cases -/
def StepAt (w : World) (g o : Nat) (x : Nd) : Prop := ∃ (A3 : Option Addr) (n3 c3 : Nat) (A4 : Option Addr) (n4 c4 : Nat) (m : Nat), w.cell? ⟨g, o, none⟩ = some (.int .i64 x.kd) ∧ w.cell? ⟨g, o + 1, none⟩ = some (.string x.t) ∧ w.cell? ⟨g, o + 2, none⟩ = some (.int .i64 x.off) ∧ w.cell? ⟨g, o + 3, none⟩ = some (.slice A3 n3 c3) ∧ w.cell? ⟨g, o + 4, none⟩ = some (.slice A4 n4 c4) ∧ w.cell? ⟨g, o + 5, none⟩ = some (.int .i64 m)
/-- a code of one such step -/
def StepOne (w : World) (B p : Nat) (x : Nd) : Prop := ∃ (g n c : Nat), B ≤ g ∧ w.cell? ⟨p, 0, none⟩ = some (.slice (some ⟨g, 0, none⟩) n c) ∧ n = 1 ∧ n ≤ c ∧ c ≤ 9223372036854775807 ∧ TyAt w g 218 ∧ StepAt w g 0 x
theorem StepAt.below {w w' : World} {g o : Nat} {x : Nd} (h : StepAt w g o x) (hb : Below w.heap.size w w') : StepAt w' g o x := by
  obtain ⟨A3, n3, c3, A4, n4, c4, m, h0, h1, h2, h3, h4, h5⟩ := h
  exact ⟨A3, n3, c3, A4, n4, c4, m, carry hb h0, carry hb h1, carry hb h2, carry hb h3, carry hb h4, carry hb h5⟩
theorem StepAt.off {w w' : World} {g o : Nat} {x : Nd} {L : List Nat} (h : StepAt w g o x) (hf : Off L w w') (hn : g ∉ L) : StepAt w' g o x := by
  obtain ⟨A3, n3, c3, A4, n4, c4, m, h0, h1, h2, h3, h4, h5⟩ := h
  exact ⟨A3, n3, c3, A4, n4, c4, m, hf.cell h0 hn, hf.cell h1 hn, hf.cell h2 hn, hf.cell h3 hn, hf.cell h4 hn, hf.cell h5 hn⟩
theorem six_set {w : World} {g o : Nat} {v0 v1 v2 v3 v4 v5 : Value} (u0 u1 u2 u3 u4 u5 : Value) (t0 : w.cell? ⟨g, o, none⟩ = some v0) (t1 : w.cell? ⟨g, o + 1, none⟩ = some v1) (t2 : w.cell? ⟨g, o + 2, none⟩ = some v2) (t3 : w.cell? ⟨g, o + 3, none⟩ = some v3) (t4 : w.cell? ⟨g, o + 4, none⟩ = some v4) (t5 : w.cell? ⟨g, o + 5, none⟩ = some v5) {W : World}
    (hW : W = (((((w.setCell ⟨g, o, none⟩ u0).setCell ⟨g, o + 1, none⟩ u1).setCell ⟨g, o + 2, none⟩ u2).setCell ⟨g, o + 3, none⟩ u3).setCell ⟨g, o + 4, none⟩ u4).setCell ⟨g, o + 5, none⟩ u5) :
    W.cell? ⟨g, o, none⟩ = some u0 ∧ W.cell? ⟨g, o + 1, none⟩ = some u1 ∧ W.cell? ⟨g, o + 2, none⟩ = some u2 ∧ W.cell? ⟨g, o + 3, none⟩ = some u3 ∧ W.cell? ⟨g, o + 4, none⟩ = some u4 ∧ W.cell? ⟨g, o + 5, none⟩ = some u5 := by
  subst hW
  refine ⟨cell_other (cell_other (cell_other (cell_other (cell_other (cell_same t0) ?_) ?_) ?_) ?_) ?_, cell_other (cell_other (cell_other (cell_other (cell_same (cell_other t1 ?_)) ?_) ?_) ?_) ?_, cell_other (cell_other (cell_other (cell_same (cell_other (cell_other t2 ?_) ?_)) ?_) ?_) ?_,
    cell_other (cell_other (cell_same (cell_other (cell_other (cell_other t3 ?_) ?_) ?_)) ?_) ?_, cell_other (cell_same (cell_other (cell_other (cell_other (cell_other t4 ?_) ?_) ?_) ?_)) ?_, cell_same (cell_other (cell_other (cell_other (cell_other (cell_other t5 ?_) ?_) ?_) ?_) ?_)⟩
  all_goals (intro e; injection e with _ e2 _; omega)

set_option maxRecDepth 100000 in
set_option maxHeartbeats 4000000 in
theorem code_add1 (x : Nd) (p z : Nat) (A : Option Addr) (c : Nat) (ms : List Nd) (w : World) (hm : ms.length = 1) (hx : ms[0]? = some x) (hxc : casesOf x = []) (hN : NodesIn 1 w (.slice A ms.length c) ms) (hc : ms.length ≤ c) (hc2 : c ≤ 9223372036854775807)
    (hz : z = 0) (hp : w.cell? ⟨p, 0, none⟩ = some (.slice none z 0)) (hp1 : Two w p) (hT : TyAt w p 131) :
    Calls Tryz.prog 175 #[.pointer (some ⟨p, 0, none⟩), .slice A ms.length c] w fun e w' => e = .returned (.tuple #[]) ∧ StepOne w' w.heap.size p x ∧ TyAt w' p 131 ∧ Two w' p ∧ Off [p] w w' := by
  have HN := Lib.hid hN
  have HX := Lib.hid hx
  have HXC := Lib.hid hxc
  have HP := Lib.hid hp
  have HP1 := Lib.hid hp1
  have HT := Lib.hid hT
  have HZ := Lib.hid hz
  have hle : ms.length ≤ 1 := by omega
  have hge : 1 ≤ ms.length := by omega
  clear hN hx hp hp1 hT hxc hz hm
  go_enter Tryz.func175, Tryz.ntmps175
  go_wp2_with fail
  go_loopw [13] (fun i wr => ∃ k : Nat, k ≤ ms.length ∧ i = .int .i64 k ∧ Hid (k = 0 → w = wr) ∧ Hid (0 < k → StepOne wr w.heap.size p x ∧ TyAt wr p 131 ∧ Two wr p ∧ Off [p] w wr)) (fun i _ => ms.length - (intOf i).toNat)
  case atStart => exact ⟨0, Nat.zero_le _, rfl, Lib.hid (fun _ => rfl), Lib.hid (fun h => absurd h (by omega))⟩
  case round =>
    obtain ⟨k, hk, rfl, HW, HR⟩ := hrel
    by_cases hlt : k < ms.length
    · have hk0 : k = 0 := by omega
      obtain rfl := HW.out hk0
      obtain ⟨b, o, rfl, hat⟩ := HN.out.at (by omega)
      obtain ⟨A2, cc, x1, x2, x3, hC, m0, m1, m2, m3⟩ := (hat k x (by rw [hk0]; exact HX.out)).cells
      have HK0 := Lib.hid hk0
      have i0 : (0 : Int) ≤ (k : Int) := by omega
      have i1 : (k : Int) < (ms.length : Int) := by omega
      have i2 : (k : Int) ≤ (c : Int) := by omega
      have e1 : IntKind.i64.wrap ((k : Int) + 1) = (k : Int) + 1 := IntWalk.i64_in _ (by omega)
      have svA := HP.out
      clear HW HR hk0
      obtain ⟨Wx, hWx⟩ : ∃ Wx, Wx = w.alloc (.cells #[.int .i64 x.kd, .string x.t, .int .i64 x.off, .slice A2 x.cs.length cc] 51) := ⟨_, rfl⟩
      obtain ⟨Wy, hWy⟩ : ∃ Wy, Wy = Wx.alloc (.cells #[.int .i64 x.kd, .string x.t, .int .i64 x.off, .slice none 0 0] 51) := ⟨_, rfl⟩
      obtain ⟨Wz, hWz⟩ : ∃ Wz, Wz = Wy.alloc (.cells #[.int .i64 0, .string ⟨#[]⟩, .int .i64 0, .slice none 0 0, .slice none 0 0, .int .i64 0] 218) := ⟨_, rfl⟩
      have sx : Wx.heap.size = w.heap.size + 1 := by rw [hWx]; simp
      have sy : Wy.heap.size = w.heap.size + 2 := by rw [hWy]; simp [sx]
      have sz : Wz.heap.size = w.heap.size + 3 := by rw [hWz]; simp [sy]
      have bx : Below w.heap.size w Wx := by rw [hWx]; exact (Below.refl _ _).alloc (Nat.le_refl _) _
      have bz : Below Wx.heap.size Wx Wz := by rw [hWz, hWy]; exact ((Below.refl _ _).alloc (Nat.le_refl _) _).alloc (by simp) _
      have br : Below w.heap.size w Wz := bx.trans (bz.mono (by omega))
      have hpl := HT.out.lt
      obtain ⟨ts, hts⟩ : ∃ ts : List Six, ts = [] := ⟨_, rfl⟩
      obtain ⟨m, hmz⟩ : ∃ m : Nat, m = z + 1 := ⟨_, rfl⟩
      have HMZ := Lib.hid hmz
      have HTSN := Lib.hid hts
      have hO : OwnsG kStep Wz w.heap.size (.slice none z 0) ts := by rw [hts, HZ.out]; exact OwnsG.nil _ _
      have HO5 := Lib.hid hO
      have X5 : Hid (∀ i u, (kStep.cells sixZero)[i]? = some u → Wz.cell? ⟨w.heap.size + 1 + 1, i, none⟩ = some u) := Lib.hid (fun i u hu => by
        rw [hWz, hWy, hWx]
        match i, hu with
        | 0, hu => cases hu; (first | (go_simp; done) | (go_simp; rfl))
        | 1, hu => cases hu; (first | (go_simp; done) | (go_simp; rfl))
        | 2, hu => cases hu; (first | (go_simp; done) | (go_simp; rfl))
        | 3, hu => cases hu; (first | (go_simp; done) | (go_simp; rfl))
        | 4, hu => cases hu; (first | (go_simp; done) | (go_simp; rfl))
        | 5, hu => cases hu; (first | (go_simp; done) | (go_simp; rfl)))
      have HS5 : Hid (w.heap.size ≤ Wz.heap.size) := Lib.hid (by omega)
      have HL1 : Hid ((ts.length + 1) * kStep.bytes ≤ 140737488355328) := Lib.hid (by rw [hts]; decide)
      have HL2 : Hid (ts.length + 1 ≤ 9223372036854775807) := Lib.hid (by rw [hts]; decide)
      have HTS : Hid ((ts ++ [sixZero]).length = m) := Lib.hid (by rw [hts, hmz, HZ.out]; rfl)
      have P5 := Lib.hid (carry br svA)
      have svX := carry bx svA
      have bxy : Below w.heap.size w Wy := bx.trans (by rw [hWy]; exact ((Below.refl _ _).alloc (Nat.le_refl _) _).mono (by omega))
      have svY := carry bxy svA
      rw [hWx] at svX
      rw [hWy, hWx] at svY
      have PT := Lib.hid (HT.out.below br)
      have P2 := Lib.hid (HP1.out.below br)
      have Y0 : Hid (Wz.cell? ⟨w.heap.size + 1, 0, none⟩ = some (.int .i64 x.kd)) := Lib.hid (by rw [hWz, hWy, hWx]; go_simp)
      have Y1 : Hid (Wz.cell? ⟨w.heap.size + 1, 1, none⟩ = some (.string x.t)) := Lib.hid (by rw [hWz, hWy, hWx]; go_simp)
      have Y2 : Hid (Wz.cell? ⟨w.heap.size + 1, 2, none⟩ = some (.int .i64 x.off)) := Lib.hid (by rw [hWz, hWy, hWx]; go_simp)
      have Y3 : Hid (Wz.cell? ⟨w.heap.size + 1, 3, none⟩ = some (.slice none 0 0)) := Lib.hid (by rw [hWz, hWy, hWx]; go_simp)
      have Z0 : Hid (Wz.cell? ⟨w.heap.size, 0, none⟩ = some (.int .i64 x.kd)) := Lib.hid (by rw [hWz, hWy, hWx]; go_simp)
      have Z1 : Hid (Wz.cell? ⟨w.heap.size, 1, none⟩ = some (.string x.t)) := Lib.hid (by rw [hWz, hWy, hWx]; go_simp)
      have Z2 : Hid (Wz.cell? ⟨w.heap.size, 2, none⟩ = some (.int .i64 x.off)) := Lib.hid (by rw [hWz, hWy, hWx]; go_simp)
      have Z3 : Hid (Wz.cell? ⟨w.heap.size, 3, none⟩ = some (.slice A2 x.cs.length cc)) := Lib.hid (by rw [hWz, hWy, hWx]; go_simp)
      have YT : Hid (TyAt Wz (w.heap.size + 1) 51) := Lib.hid (by rw [← sx, hWz, hWy]; exact (TyAt.new _ _ _).below ((Below.refl _ _).alloc (Nat.le_refl _) _))
      have HBR := Lib.hid br
      have HC := Lib.hid hC
      have HWZ : Hid (Wz = ((w.alloc (.cells #[.int .i64 x.kd, .string x.t, .int .i64 x.off, .slice A2 x.cs.length cc] 51)).alloc (.cells #[.int .i64 x.kd, .string x.t, .int .i64 x.off, .slice none 0 0] 51)).alloc (.cells #[.int .i64 0, .string ⟨#[]⟩, .int .i64 0, .slice none 0 0, .slice none 0 0, .int .i64 0] 218)) := Lib.hid (by rw [hWz, hWy, hWx])
      rw [hWz, hWy, hWx] at HO5 X5 HS5
      have hne : p ≠ w.heap.size := by omega
      have hne2 : p ≠ w.heap.size + 1 := by omega
      have HNE := Lib.hid hne
      have HNE2 := Lib.hid hne2
      have HOB : Hid ((Value.slice none z 0).ownBlock.toList = []) := Lib.hid rfl
      clear hWx hWy hWz sx sy sz bx bz br bxy hO hC hat hne hne2 hpl hts hmz
      go_upto_region 6 with (at_builtin; refine wpList_append_gB (k := kStep) rfl _ _ rfl sixZero rfl rfl HO5.out X5.out HS5.out HL1.out HL2.out ?_; intro v' w3 ho hoff hfr; obtain ⟨A3, c3, rfl, h31, h32, _, h33⟩ := ho.form; rw [HTS.out] at ho hfr h31 ⊢; rw [← HWZ.out] at hoff hfr; replace hoff : Off [] Wz w3 := hoff; have HO3 := Lib.hid ho; have r5 := hoff.cell P5.out (by simp); have r6 := (PT.out.off hoff (by simp)).frozen 0; have HOFF := Lib.hid hoff; clear ho hfr hoff)
      have hpt3 := PT.out.off HOFF.out (by simp)
      have hpo : p ∉ (Value.slice A3 m c3).ownBlock.toList := hpt3.not HO3.out (by decide)
      have hs4 : Off [p] w3 (w3.setCell ⟨p, 0, none⟩ (.slice A3 m c3)) := (Off.refl _ _).setCell _ _ (by simp)
      have HP4 := Lib.hid (cell_same (v := .slice A3 m c3) r5)
      have HT4 := Lib.hid (hpt3.set p 0 (.slice A3 m c3))
      have HP24 := Lib.hid ((P2.out.off HOFF.out (by simp)).set p 0 (.slice A3 m c3))
      have HO4 : Hid (OwnsG kStep (w3.setCell ⟨p, 0, none⟩ (.slice A3 m c3)) w.heap.size (.slice A3 m c3) (ts ++ [sixZero])) := Lib.hid (OwnsG.off HO3.out hs4 (fun g hg hm => by
        simp only [List.mem_singleton] at hm
        subst hm
        exact hpo (by simpa using hg)))
      have HOF4 : Hid (Off [p] w (w3.setCell ⟨p, 0, none⟩ (.slice A3 m c3))) := Lib.hid ((((Off.refl [] w).below HBR.out (Nat.le_refl _)).trans (HOFF.out.less (fun _ h => absurd h (by simp)))).more (by simp) |>.trans hs4)
      have HYT4 := Lib.hid ((YT.out.off HOFF.out (by simp)).set p 0 (.slice A3 m c3))
      have B0 := Lib.hid (cell_other (a := ⟨p, 0, none⟩) (v := .slice A3 m c3) (HOFF.out.cell Y0.out (by simp)) (fun h => HNE2.out (by injection h)))
      have B1 := Lib.hid (cell_other (a := ⟨p, 0, none⟩) (v := .slice A3 m c3) (HOFF.out.cell Y1.out (by simp)) (fun h => HNE2.out (by injection h)))
      have B2 := Lib.hid (cell_other (a := ⟨p, 0, none⟩) (v := .slice A3 m c3) (HOFF.out.cell Y2.out (by simp)) (fun h => HNE2.out (by injection h)))
      have B3 := Lib.hid (cell_other (a := ⟨p, 0, none⟩) (v := .slice A3 m c3) (HOFF.out.cell Y3.out (by simp)) (fun h => HNE2.out (by injection h)))
      have z0 := cell_other (a := ⟨p, 0, none⟩) (v := .slice A3 m c3) (HOFF.out.cell Z0.out (by simp)) (fun h => HNE.out (by injection h))
      have z1 := cell_other (a := ⟨p, 0, none⟩) (v := .slice A3 m c3) (HOFF.out.cell Z1.out (by simp)) (fun h => HNE.out (by injection h))
      have z2 := cell_other (a := ⟨p, 0, none⟩) (v := .slice A3 m c3) (HOFF.out.cell Z2.out (by simp)) (fun h => HNE.out (by injection h))
      have z3 := cell_other (a := ⟨p, 0, none⟩) (v := .slice A3 m c3) (HOFF.out.cell Z3.out (by simp)) (fun h => HNE.out (by injection h))
      have HC3 : Hid (m ≤ c3 ∧ c3 ≤ 9223372036854775807) := Lib.hid ⟨h31, h32⟩
      obtain ⟨W4, hW4⟩ : ∃ W4, W4 = w3.setCell ⟨p, 0, none⟩ (.slice A3 m c3) := ⟨_, rfl⟩
      rw [← hW4] at HP4 HT4 HP24 HO4 HOF4 HYT4 B0 B1 B2 B3 z0 z1 z2 z3 ⊢
      clear hW4 r5 r6 HOFF HO3 h31 h32 h33 hpt3 hpo hs4 svA svX svY m0 m1 m2 m3 HT HO5 X5 HS5 HL1 HL2 HTS P5 P2 PT Y0 Y1 Y2 Y3 Z0 Z1 Z2 Z3 YT HBR HWZ HNE HNE2 HP HP1 HOB
      obtain ⟨by', hby⟩ : ∃ by', by' = w.heap.size + 1 := ⟨_, rfl⟩
      rw [← hby] at HYT4 B0 B1 B2 B3 ⊢
      have HBY := Lib.hid hby
      clear hby
      go_wp2_with fail
      refine (cases_any (P := NodesIn 0 w) w x A2 x.cs.length cc _ HC.out).mono ?_
      rintro e w5 ⟨A5, d5, rfl, y1, y2, y3, hC5, hb5⟩
      have HP5 := Lib.hid (carry hb5 HP4.out)
      have HT5 := Lib.hid (HT4.out.below hb5)
      have HP25 := Lib.hid (HP24.out.below hb5)
      have HO5 := Lib.hid (HO4.out.below hb5)
      have HOF5 := Lib.hid (HOF4.out.below hb5 HOF4.out.size)
      have HYT5 := Lib.hid (HYT4.out.below hb5)
      have D0 := Lib.hid (carry hb5 B0.out)
      have D1 := Lib.hid (carry hb5 B1.out)
      have D2 := Lib.hid (carry hb5 B2.out)
      have D3 := Lib.hid (carry hb5 B3.out)
      clear hb5 hC5 z0 z1 z2 z3 HC HP4 HT4 HP24 HO4 HOF4 HYT4 B0 B1 B2 B3
      rw [HXC.out] at y1 y3 ⊢
      go_wp2_with fail
      go_loopw [8, 42] (fun bv i wi => (∃ ns : List Int, bv = .slice none ns.length 0 ∧ Hid (ns = [])) ∧ i = .int .i64 0 ∧ w5 = wi) (fun _ _ _ => 0)
      case atStart => exact ⟨⟨[], rfl, Lib.hid rfl⟩, rfl, rfl⟩
      case round =>
        obtain ⟨⟨ns, rfl, HNS⟩, rfl, rfl⟩ := hrel
        have hmz := HMZ.out
        obtain ⟨Aq, cq, heq, k71, k72, _, hor⟩ := HO5.out.form
        have hAc : A3 = Aq ∧ c3 = cq := by
          injection heq with e1 e2 e3
          exact ⟨e1, e3⟩
        obtain ⟨rfl, rfl⟩ := hAc
        obtain ⟨g, rfl⟩ : ∃ g, A3 = some ⟨g, 0, none⟩ := by
          rcases hor with h | ⟨g, h, _⟩
          · exact absurd h (by simp)
          · exact ⟨g, h⟩
        have hgT : TyAt w5 g 218 := HO5.out.ty g (by simp [Value.ownBlock])
        have hgp : ¬ g = p := hgT.ne HT5.out (by decide)
        have hgy : ¬ g = by' := hgT.ne HYT5.out (by decide)
        have hgw : w.heap.size ≤ g := (HO5.out.block g (by simp [Value.ownBlock])).1
        obtain ⟨W9, hW9⟩ : ∃ W9, W9 = (w5.alloc (.cells #[.int .i64 m] 3)).drew := ⟨_, rfl⟩
        have b9 : Below w5.heap.size w5 W9 := by rw [hW9]; exact belx
        have HR9 : Hid (OwnsG kInt W9 w5.heap.size (.slice none ns.length 0) ns) := Lib.hid (by rw [HNS.out]; exact OwnsG.nil _ _)
        have HST9 := Lib.hid (HO5.out.below b9)
        have X9 : Hid (∀ i u, (kInt.cells (m : Int))[i]? = some u → W9.cell? ⟨w5.heap.size, i, none⟩ = some u) := Lib.hid (fun i u hu => by
          rw [hW9]
          match i, hu with
          | 0, hu => cases hu; (first | (go_simp; done) | (go_simp; rfl)))
        have HS9 : Hid (w5.heap.size ≤ W9.heap.size) := Lib.hid b9.size
        have HL1 : Hid ((ns.length + 1) * kInt.bytes ≤ 140737488355328) := Lib.hid (by rw [HNS.out]; decide)
        have HL2 : Hid (ns.length + 1 ≤ 9223372036854775807) := Lib.hid (by rw [HNS.out]; decide)
        have HPT := Lib.hid (HT5.out.below b9)
        have C0 := Lib.hid (carry b9 D0.out)
        have C1 := Lib.hid (carry b9 D1.out)
        have C2 := Lib.hid (carry b9 D2.out)
        have C3 := Lib.hid (carry b9 D3.out)
        have C8 := Lib.hid (carry b9 HP5.out)
        have P9 := Lib.hid (HP25.out.below b9)
        have HOF9 := Lib.hid (HOF5.out.below b9 HOF5.out.size)
        have HTT : Hid ((ts ++ [sixZero])[z]? = some sixZero) := Lib.hid (by rw [HTSN.out, HZ.out]; rfl)
        have NP : Hid (∀ b : Nat, b ∉ (Value.slice none ns.length 0).ownBlock.toList) := Lib.hid (fun b => by simp [Value.ownBlock])
        rw [hW9] at HR9 X9 HS9
        have HW9 := Lib.hid hW9
        have d0 := D0.out
        have d1 := D1.out
        have d2 := D2.out
        have d3 := D3.out
        have p8 := HP5.out
        have i6 : (z : Int) < (m : Int) := by omega
        have i7 : (0 : Int) ≤ (z : Int) := by omega
        have i8 : (m : Int) ≤ (c3 : Int) := by have := HC3.out.1; omega
        have HGW := Lib.hid hgw
        clear hW9 b9 hgT hor heq k71 k72 hmz hgw HP5 HT5 HP25 HO5 HOF5 HYT5 D0 D1 D2 D3
        go_wp2_with fail
        go_region_held3 (fun w' => w'.cell? ⟨p, 0, none⟩ = some (.slice (some ⟨g, 0, none⟩) m c3) ∧ w'.cell? ⟨by', 0, none⟩ = some (.int .i64 x.kd) ∧ w'.cell? ⟨by', 1, none⟩ = some (.string x.t) ∧ w'.cell? ⟨by', 2, none⟩ = some (.int .i64 x.off) ∧ w'.cell? ⟨by', 3, none⟩ = some (.slice none 0 0))
          (first | go_keep | (go_split_ands; refine ⟨?_, ?_, ?_, ?_, ?_⟩ <;> assumption))
          ((apply step_append_gB (k := kInt) (s := .tmp 73) (x := .tmp 79) (t := (m : Int)) (hown := HR9.out) (hc := X9.out) (hb := HS9.out) (hn := HL1.out) (hn2 := HL2.out); (any_goals rfl); intro v' w10 ho hoff hfr; obtain ⟨A12, c12, rfl, _⟩ := ho.form; rw [← HW9.out] at hoff; have HO10 := Lib.hid ho; have HOFF := Lib.hid hoff; have r8 := hoff.cell C8.out (NP.out _); have r0 := hoff.cell C0.out (NP.out _); have r1 := hoff.cell C1.out (NP.out _); have r2 := hoff.cell C2.out (NP.out _); have r3 := hoff.cell C3.out (NP.out _); have HST10 := Lib.hid (HST9.out.off hoff (fun _ _ => NP.out _)); have t0 : World.cell? w10 ⟨g, z * 6, none⟩ = some (.int .i64 0) := HST10.out.cells HTT.out (i := 0) rfl; have t1 : World.cell? w10 ⟨g, z * 6 + 1, none⟩ = some (.string ⟨#[]⟩) := HST10.out.cells HTT.out (i := 1) rfl; have t2 : World.cell? w10 ⟨g, z * 6 + 2, none⟩ = some (.int .i64 0) := HST10.out.cells HTT.out (i := 2) rfl; have t3 : World.cell? w10 ⟨g, z * 6 + 3, none⟩ = some (.slice none 0 0) := HST10.out.cells HTT.out (i := 3) rfl; have t4 : World.cell? w10 ⟨g, z * 6 + 4, none⟩ = some (.slice none 0 0) := HST10.out.cells HTT.out (i := 4) rfl; have t5 : World.cell? w10 ⟨g, z * 6 + 5, none⟩ = some (.int .i64 0) := HST10.out.cells HTT.out (i := 5) rfl; have f0 : World.frozen? w10 ⟨g, z * 6, none⟩ = false := HST10.out.frozen (z * 6); have f1 : World.frozen? w10 ⟨g, z * 6 + 1, none⟩ = false := HST10.out.frozen (z * 6 + 1); have f2 : World.frozen? w10 ⟨g, z * 6 + 2, none⟩ = false := HST10.out.frozen (z * 6 + 2); have f3 : World.frozen? w10 ⟨g, z * 6 + 3, none⟩ = false := HST10.out.frozen (z * 6 + 3); have f4 : World.frozen? w10 ⟨g, z * 6 + 4, none⟩ = false := HST10.out.frozen (z * 6 + 4); have f5 : World.frozen? w10 ⟨g, z * 6 + 5, none⟩ = false := HST10.out.frozen (z * 6 + 5); clear ho hfr hoff))
        have HT0 := Lib.hid t0
        have HT1 := Lib.hid t1
        have HT2 := Lib.hid t2
        have HT3 := Lib.hid t3
        have HT4 := Lib.hid t4
        have HT5 := Lib.hid t5
        have P8 : Hid (World.cell? w10 ⟨p, 0, none⟩ = some (.slice (some ⟨g, 0, none⟩) m c3)) := Lib.hid (HOFF.out.cell C8.out (NP.out _))
        have hne : ∀ i, (⟨g, i, none⟩ : Addr) ≠ ⟨p, 0, none⟩ := fun i h => hgp (by injection h)
        have HEND : Hid (∀ W, W = ((((((w10.setCell ⟨g, z * 6, none⟩ (.int .i64 x.kd)).setCell ⟨g, z * 6 + 1, none⟩ (.string x.t)).setCell ⟨g, z * 6 + 2, none⟩ (.int .i64 x.off)).setCell ⟨g, z * 6 + 3, none⟩ (.slice none 0 0)).setCell ⟨g, z * 6 + 4, none⟩ (.slice A12 (ns.length + 1) c12)).setCell ⟨g, z * 6 + 5, none⟩ (.int .i64 m)) → StepOne W w.heap.size p x ∧ TyAt W p 131 ∧ Two W p ∧ Off [p] w W) := Lib.hid (fun W hW => by
          obtain ⟨k0, k1, k2, k3, k4, k5⟩ := six_set (.int .i64 x.kd) (.string x.t) (.int .i64 x.off) (.slice none 0 0) (.slice A12 (ns.length + 1) c12) (.int .i64 m) HT0.out HT1.out HT2.out HT3.out HT4.out HT5.out hW
          have hz6 : z * 6 = 0 := by rw [HZ.out]
          rw [hz6] at k0 k1 k2 k3 k4 k5
          have hT10 := HPT.out.off HOFF.out (NP.out _)
          have hP10 := P9.out.off HOFF.out (NP.out _)
          refine ⟨⟨g, m, c3, HGW.out, ?_, by rw [HMZ.out, HZ.out], HC3.out.1, HC3.out.2, ?_, none, 0, 0, A12, ns.length + 1, c12, m, k0, k1, k2, k3, k4, k5⟩, ?_, ?_, ?_⟩
          · rw [hW]
            exact cell_other (cell_other (cell_other (cell_other (cell_other (cell_other P8.out (hne _)) (hne _)) (hne _)) (hne _)) (hne _)) (hne _)
          · rw [hW]
            exact ((((((HST10.out.ty g (by simp [Value.ownBlock])).set _ _ _).set _ _ _).set _ _ _).set _ _ _).set _ _ _).set _ _ _
          · rw [hW]
            exact (((((hT10.set _ _ _).set _ _ _).set _ _ _).set _ _ _).set _ _ _).set _ _ _
          · rw [hW]
            exact (((((hP10.set _ _ _).set _ _ _).set _ _ _).set _ _ _).set _ _ _).set _ _ _
          · have h1 : Off [p] w w10 := HOF9.out.trans (HOFF.out.less (fun i hi => absurd hi (NP.out i)))
            have h2 : Off [g] w10 W := by
              rw [hW]
              exact ((((((Off.refl [g] w10).setCell _ _ (by simp)).setCell _ _ (by simp)).setCell _ _ (by simp)).setCell _ _ (by simp)).setCell _ _ (by simp)).setCell _ _ (by simp)
            exact ⟨h2.os.trans h1.os, h2.tape.trans h1.tape, h2.output.trans h1.output, Nat.le_trans h1.size h2.size, fun k hk hl => (h2.block k (Nat.lt_of_lt_of_le hk h1.size) (by have := HGW.out; simp; omega)).trans (h1.block k hk hl)⟩)
        clear t0 t1 t2 t3 t4 t5 f0 f1 f2 f3 f4 f5 HT0 HT1 HT2 HT3 HT4 HT5 P8 hne
        go_wp2_with fail
        go_roundw
        case rel => exact ⟨k + 1, by omega, by go_num, Lib.hid (fun h => absurd h (by omega)), Lib.hid (fun _ => HEND.out _ rfl)⟩
        case measure => simp [intOf]; omega
    · have hkk : k = ms.length := by omega
      have HE := Lib.hid (HR.out (by omega))
      clear HR HW
      go_wp2_with fail
      exact bodyPost_end (results_none rfl _ _ _) rfl ⟨rfl, HE.out⟩
end Go.Proofs.YtplaohmdllindaaGreatDoor

/- code.copied: it makes memory of its own alone. -/
namespace Go.Proofs.YtplaohmdllindaaGreatDoor
open Go.RowKit

end Go.Proofs.YtplaohmdllindaaGreatDoor

/- code.Compile and Len. -/
namespace Go.Proofs.YtplaohmdllindaaGreatDoor
open Go.RowKit

end Go.Proofs.YtplaohmdllindaaGreatDoor

/- code.copied at one node without cases; Compile of such a message. -/
namespace Go.Proofs.YtplaohmdllindaaGreatDoor
open Go.RowKit

set_option maxHeartbeats 8000000 in
set_option maxRecDepth 100000 in
theorem copied1 (x : Nd) (A : Option Addr) (c : Nat) (ms : List Nd) (w : World) (hm : ms.length = 1) (hx : ms[0]? = some x) (hxc : casesOf x = []) (hN : NodesIn 1 w (.slice A ms.length c) ms) (hc : ms.length ≤ c) (hc2 : c ≤ 9223372036854775807) :
    Calls Tryz.prog 176 #[.slice A ms.length c] w fun e w' => (∃ A2 n2 c2, e = .returned (.slice A2 n2 c2) ∧ NodesFrom w.heap.size 1 w' (.slice A2 n2 c2) [Nd.mk x.kd x.t x.off []]) ∧ Below w.heap.size w w' := by
  have HN := Lib.hid hN
  have HX := Lib.hid hx
  have HXC := Lib.hid hxc
  have HLX := Lib.hid hm
  have hle : ms.length ≤ 1 := by omega
  have hge : 1 ≤ ms.length := by omega
  have HNX : Hid (x.t.size ≤ 140737488355328 ∧ (-9223372036854775808 ≤ x.off ∧ x.off ≤ 9223372036854775807) ∧ (-9223372036854775808 ≤ x.kd ∧ x.kd ≤ 9223372036854775807)) := Lib.hid (by
    obtain ⟨b, o, _, hat⟩ := hN.at (by omega)
    obtain ⟨z1, z2, z3, _⟩ := hat 0 x hx
    exact ⟨z1, z2, z3⟩)
  clear hN hx hxc hm
  go_enter Tryz.func176, Tryz.ntmps176
  go_wp2_with fail
  go_loopw [3, 11] (fun o i wr => ∃ (k : Nat) (Ao : Option Addr) (co : Nat) (lo : List (Vals 4)), k ≤ ms.length ∧ i = .int .i64 k ∧ o = .slice Ao lo.length co ∧ Hid (lo = List.replicate k (nodeQ x.kd x.t x.off none 0 0)) ∧ Hid (OwnsG kNodeQ wr w.heap.size (.slice Ao lo.length co) lo) ∧ Hid (Below w.heap.size w wr)) (fun _ i _ => ms.length - (intOf i).toNat)
  case atStart => exact ⟨0, none, 0, [], Nat.zero_le _, rfl, rfl, Lib.hid rfl, Lib.hid (OwnsG.nil _ _), Lib.hid (Below.refl _ _)⟩
  case round =>
    obtain ⟨k, Ao, co, lo, hk, rfl, rfl, HLO, HO, HB⟩ := hrel
    have sB := HB.out.size
    by_cases hlt : k < ms.length
    · have hk0 : k = 0 := by omega
      obtain ⟨b, o, rfl, hat⟩ := HN.out.at (by omega)
      obtain ⟨A2, cc, x1, x2, x3, hC, m0, m1, m2, m3⟩ := (hat k x (by rw [hk0]; exact HX.out)).cells
      replace m0 := carry HB.out m0
      replace m1 := carry HB.out m1
      replace m2 := carry HB.out m2
      replace m3 := carry HB.out m3
      have i0 : (0 : Int) ≤ (k : Int) := by omega
      have i1 : (k : Int) < (ms.length : Int) := by omega
      have i2 : (k : Int) ≤ (c : Int) := by omega
      have e1 : IntKind.i64.wrap ((k : Int) + 1) = (k : Int) + 1 := IntWalk.i64_in _ (by omega)
      have HC := Lib.hid hC
      have HKZ := Lib.hid hk0
      obtain ⟨Wy, hWy⟩ : ∃ Wy, Wy = (wr.alloc (.cells #[.int .i64 x.kd, .string x.t, .int .i64 x.off, .slice A2 x.cs.length cc] 51)).alloc (.cells #[.int .i64 x.kd, .string x.t, .int .i64 x.off, .slice none 0 0] 51) := ⟨_, rfl⟩
      have hby : Below wr.heap.size wr Wy := by rw [hWy]; exact belx
      have z0 : Wy.cell? ⟨wr.heap.size, 0, none⟩ = some (.int .i64 x.kd) := by rw [hWy]; go_simp
      have z1 : Wy.cell? ⟨wr.heap.size, 1, none⟩ = some (.string x.t) := by rw [hWy]; go_simp
      have z2 : Wy.cell? ⟨wr.heap.size, 2, none⟩ = some (.int .i64 x.off) := by rw [hWy]; go_simp
      have z3 : Wy.cell? ⟨wr.heap.size, 3, none⟩ = some (.slice A2 x.cs.length cc) := by rw [hWy]; go_simp
      have Y0 : Hid (Wy.cell? ⟨wr.heap.size + 1, 0, none⟩ = some (.int .i64 x.kd)) := Lib.hid (by rw [hWy]; go_simp)
      have Y1 : Hid (Wy.cell? ⟨wr.heap.size + 1, 1, none⟩ = some (.string x.t)) := Lib.hid (by rw [hWy]; go_simp)
      have Y2 : Hid (Wy.cell? ⟨wr.heap.size + 1, 2, none⟩ = some (.int .i64 x.off)) := Lib.hid (by rw [hWy]; go_simp)
      have Y3 : Hid (Wy.cell? ⟨wr.heap.size + 1, 3, none⟩ = some (.slice none 0 0)) := Lib.hid (by rw [hWy]; go_simp)
      have HO2 := Lib.hid (HO.out.below hby)
      have HB2 := Lib.hid (HB.out.trans (hby.mono sB))
      have HWY := Lib.hid hWy
      clear hby hC hat hWy hk0
      go_upto_region 6 with fail
      rw [← HWY.out]
      clear m0 m1 m2 m3 HWY
      generalize wr.heap.size + 1 = by' at *
      go_wp2_with fail
      refine (cases_any (P := NodesIn 0 w) w x A2 x.cs.length cc _ HC.out).mono ?_
      rintro e w5 ⟨A5, d5, rfl, y1, y2, y3, hC5, hb5⟩
      have HO5 := Lib.hid (HO2.out.below hb5)
      have HB5 := Lib.hid (HB2.out.trans (hb5.mono HB2.out.size))
      have q0 := carry hb5 Y0.out
      have q1 := carry hb5 Y1.out
      have q2 := carry hb5 Y2.out
      have q3 := carry hb5 Y3.out
      rw [HXC.out] at y1 y3 ⊢
      clear hb5 hC5 z0 z1 z2 z3 HC HO2 HB2 Y0 Y1 Y2 Y3 HO HB
      go_wp2_with fail
      go_loopw [25] (fun i wi => i = .int .i64 0 ∧ w5 = wi) (fun _ _ => 0)
      case atStart => exact ⟨rfl, rfl⟩
      case round =>
        obtain ⟨rfl, rfl⟩ := hrel
        obtain ⟨W6, hW6⟩ : ∃ W6, W6 = w5.alloc (.cells #[.int .i64 x.kd, .string x.t, .int .i64 x.off, .slice none 0 0] 51) := ⟨_, rfl⟩
        have b6 : Below w5.heap.size w5 W6 := by rw [hW6]; exact (Below.refl _ _).alloc (Nat.le_refl _) _
        have HX6 : Hid (∀ i u, (kNodeQ.cells (nodeQ x.kd x.t x.off none 0 0))[i]? = some u → W6.cell? ⟨w5.heap.size, i, none⟩ = some u) := Lib.hid (fun i u hu => by
          rw [hW6]
          match i, hu with
          | 0, hu => cases hu; go_simp
          | 1, hu => cases hu; go_simp
          | 2, hu => cases hu; go_simp
          | 3, hu => cases hu; go_simp)
        have HO6 := Lib.hid (HO5.out.below b6)
        have HS6 : Hid (w.heap.size ≤ W6.heap.size) := Lib.hid (Nat.le_trans HB5.out.size b6.size)
        have HB6 : Hid (Below w.heap.size w W6) := Lib.hid (HB5.out.trans (b6.mono HB5.out.size))
        have hll : lo.length = 0 := by rw [HLO.out, List.length_replicate]; exact HKZ.out
        have HL1 : Hid ((lo.length + 1) * kNodeQ.bytes ≤ 140737488355328) := Lib.hid (by show (lo.length + 1) * 56 ≤ _; omega)
        have HL2 : Hid (lo.length + 1 ≤ 9223372036854775807) := Lib.hid (by omega)
        have HW6 := Lib.hid hW6
        have HO6b := HO6
        have HLO2 : Hid (lo ++ [nodeQ x.kd x.t x.off none 0 0] = List.replicate (k + 1) (nodeQ x.kd x.t x.off none 0 0)) := Lib.hid (by rw [HLO.out, ← List.replicate_succ'])
        rw [hW6] at HO6 HX6 HS6
        clear hW6 b6 hll HO5
        go_wp2_with (at_builtin; refine wpList_append_gB (k := kNodeQ) rfl _ _ rfl (nodeQ x.kd x.t x.off none 0 0) rfl rfl HO6.out HX6.out HS6.out HL1.out HL2.out ?_; intro v' w8 ho hoff hfr; rw [← HW6.out] at hoff; obtain ⟨A9, c9, rfl, h91, h92, _, h93⟩ := ho.form; have HO8 := Lib.hid ho; have HB8 : Hid (Below w.heap.size w w8) := Lib.hid (HB6.out.trans (HO6b.out.grown hoff HB6.out.size)); clear ho hoff hfr h93)
        refine ⟨⟨k + 1, A9, c9, lo ++ [nodeQ x.kd x.t x.off none 0 0], by omega, by go_num, by simp, HLO2, HO8, HB8⟩, ?_⟩
        simp [intOf]; omega
    · obtain rfl : k = ms.length := by omega
      have HE : Hid (NodesFrom w.heap.size 1 wr (.slice Ao lo.length co) [Nd.mk x.kd x.t x.off []]) := Lib.hid (by
        have h := HO.out
        have hlo := HLO.out
        rw [HLX.out] at hlo
        refine nodes_of (f := 0) h (by rw [hlo]; rfl) (by simp) (fun j y hy => ?_)
        match j, hy with
        | 0, hy =>
          injection hy with hy
          subst hy
          exact ⟨HNX.out.1, HNX.out.2.1, HNX.out.2.2, none, 0, 0, by rw [hlo]; rfl, leaf⟩)
      go_wp2_with fail
      go_ret
      exact ⟨⟨_, _, _, rfl, HE.out⟩, HB.out⟩

end Go.Proofs.YtplaohmdllindaaGreatDoor

/- code.Compile at one node without cases. -/
namespace Go.Proofs.YtplaohmdllindaaGreatDoor
open Go.RowKit

/-- what Compile tells of one node -/
def CodeOut (w : World) (x : Nd) (e : Ending) (w' : World) : Prop := ∃ (g n1 c1 : Nat) (A2 : Option Addr) (n2 c2 : Nat), e = .returned (.tuple #[.agg #[.slice (some ⟨g, 0, none⟩) n1 c1, .slice A2 n2 c2], .nilIface]) ∧ n1 = 1 ∧ n1 ≤ c1 ∧ c1 ≤ 9223372036854775807 ∧ w.heap.size ≤ g ∧ g < w'.heap.size ∧ StepAt w' g 0 x ∧ NodesFrom w.heap.size 1 w' (.slice A2 n2 c2) [Nd.mk x.kd x.t x.off []]

set_option maxHeartbeats 2000000 in
theorem code_one (x : Nd) (A : Option Addr) (c : Nat) (ms : List Nd) (w : World) (hE : RuleEnv w) (hK : MKinds w) (hm : ms.length = 1) (hx : ms[0]? = some x) (hxc : casesOf x = []) (hN : NodesIn 1 w (.slice A ms.length c) ms) (h : msgP 1 ms = 0) :
    Calls Tryz.prog 110 #[.slice A ms.length c] w fun e w' => CodeOut w x e w' ∧ Below w.heap.size w w' := by
  obtain ⟨A', c', heq, hc, hc2, hl⟩ := hN.form
  have hcc : c = c' := by injection heq
  subst hcc
  have HE := Lib.hid hE
  have HK := Lib.hid hK
  have HN := Lib.hid hN
  have HP := Lib.hid h
  have K := Lib.hid (fun W (hb : Below w.heap.size w W) => msg_any 1 _ ms W (HE.out.below hb) (HK.out.below hb) (NodesIn.below hb 1 HN.out))
  have KA := Lib.hid (fun (p z : Nat) (W : World) (hb : Below w.heap.size w W) => code_add1 x p z A c ms W hm hx hxc (NodesIn.below hb 1 HN.out) hc hc2)
  have KC := Lib.hid (fun (W : World) (hb : Below w.heap.size w W) => copied1 x A c ms W hm hx hxc (NodesIn.below hb 1 HN.out) hc hc2)
  clear hE hK hN h heq hm hx hxc
  go_enter Tryz.func110, Tryz.ntmps110
  go_wp2_with fail
  refine (K.out _ belx).mono ?_
  rintro e w1 ⟨rfl, hb1⟩
  have hb0 : Below w.heap.size w (w.alloc (.cells #[.slice none 0 0, .slice none 0 0] 131)) := belx
  have HB1 := Lib.hid (hb0.trans (hb1.mono hb0.size))
  have E0 : errOf (msgP 1 ms) = .nilIface := by rw [HP.out]; rfl
  rw [E0]
  have c0 : w1.cell? ⟨w.heap.size, 0, none⟩ = some (.slice none 0 0) := carry hb1 (by go_simp)
  have c1 : w1.cell? ⟨w.heap.size, 1, none⟩ = some (.slice none 0 0) := carry hb1 (by go_simp)
  have f0 : TyAt w1 w.heap.size 131 := (TyAt.new _ _ _).below hb1
  have hs1 : w.heap.size < w1.heap.size := f0.lt
  have HF0 := Lib.hid f0
  have HC0 := Lib.hid c0
  have HC1 := Lib.hid c1
  obtain ⟨W1, hW1⟩ : ∃ W1, W1 = w1.alloc (.cells #[.slice none 0 0, .slice none 0 0] 131) := ⟨_, rfl⟩
  have b1 : Below w1.heap.size w1 W1 := by rw [hW1]; exact belx
  have hbW := HB1.out.trans (b1.mono HB1.out.size)
  have KA2 := Lib.hid (KA.out w1.heap.size 0 W1 hbW rfl (by rw [hW1]; go_simp) (by rw [hW1]; exact ⟨.slice none 0 0, by go_simp⟩) (by rw [hW1]; exact TyAt.new _ _ _))
  have HBW := Lib.hid hbW
  have HF1 := Lib.hid (HF0.out.below b1)
  have HC0' := Lib.hid (carry b1 c0)
  have HC1' := Lib.hid (carry b1 c1)
  have HS1 : Hid (w1.heap.size < W1.heap.size) := Lib.hid (by rw [hW1]; simp)
  clear hb0 hb1 E0 K f0 c0 c1 hbW b1 KA
  go_wp2_with fail
  rw [← hW1]
  clear hW1
  refine KA2.out.mono ?_
  rintro e w2 ⟨rfl, ⟨g, n1, c1, hgB, hp0, hn1, hn1c, hc19, hgt, hst⟩, hpT, ⟨u1, hp1⟩, hoff⟩
  have HGT := Lib.hid hgt
  have HGB : Hid (w.heap.size ≤ g) := Lib.hid (by have := HBW.out.size; omega)
  obtain ⟨A1, hA1⟩ : ∃ A1 : Option Addr, A1 = some ⟨g, 0, none⟩ := ⟨_, rfl⟩
  rw [← hA1] at hp0
  have HA1 := Lib.hid hA1
  clear hA1
  have hbw2 : Below w.heap.size w w2 := HBW.out.trans (hoff.toBelow (fun k hk => by simp only [List.mem_singleton] at hk; rw [hk]; exact HB1.out.size) HBW.out.size)
  have hr0 := hoff.cell HC0'.out (by simp; omega)
  have hr1 := hoff.cell HC1'.out (by simp; omega)
  have hrT := HF1.out.off hoff (by simp; omega)
  have HBW2 := Lib.hid hbw2
  have HP0 := Lib.hid hp0
  have HP1 := Lib.hid hp1
  have HPT := Lib.hid hpT
  have HR0 := Lib.hid hr0
  have HR1 := Lib.hid hr1
  have HRT := Lib.hid hrT
  have HST := Lib.hid hst
  have HNC : Hid (n1 = 1 ∧ n1 ≤ c1 ∧ c1 ≤ 9223372036854775807) := Lib.hid ⟨hn1, hn1c, hc19⟩
  clear hbw2 hp0 hp1 hpT hr0 hr1 hrT hst hoff hn1 hn1c hc19 hgt
  go_wp2_with fail
  refine (KC.out _ HBW2.out).mono ?_
  rintro e w3 ⟨⟨A4, n4, c4, rfl, hN4⟩, hb3⟩
  have HB3 := Lib.hid (HBW2.out.trans (hb3.mono HBW2.out.size))
  have p0 := carry hb3 HP0.out
  have p1 := carry hb3 HP1.out
  have pt := (HPT.out.below hb3).frozen 1
  have r0 := carry hb3 HR0.out
  have r1 := carry hb3 HR1.out
  have rt0 := (HRT.out.below hb3).frozen 0
  have rt1 := (HRT.out.below hb3).frozen 1
  have HST3 := Lib.hid (HST.out.below hb3)
  have HGT3 := Lib.hid (HGT.out.below hb3)
  have hs2 : w1.heap.size < w2.heap.size := HPT.out.lt
  have HN4 := Lib.hid hN4
  have hgp : TyAt w3 w1.heap.size 131 := HPT.out.below hb3
  have hgr : TyAt w3 w.heap.size 131 := HRT.out.below hb3
  have HG1 := Lib.hid hgp
  have HG2 := Lib.hid hgr
  have hne : ¬ w.heap.size = w1.heap.size := by omega
  have hne2 : ¬ w1.heap.size = w.heap.size := by omega
  clear hb3 KC hN4 hgp hgr
  go_wp2_with fail
  have q0 : ((((w3.setCell ⟨w1.heap.size, 1, none⟩ (.slice A4 n4 c4)).setCell ⟨w.heap.size, 0, none⟩ (.slice A1 n1 c1)).setCell ⟨w.heap.size, 1, none⟩ (.slice A4 n4 c4))).cell? ⟨w.heap.size, 0, none⟩ = some (.slice A1 n1 c1) := cell_other (cell_same (cell_other r0 (by first | (simp; done) | (simp; omega)))) (by simp)
  have q1 : ((((w3.setCell ⟨w1.heap.size, 1, none⟩ (.slice A4 n4 c4)).setCell ⟨w.heap.size, 0, none⟩ (.slice A1 n1 c1)).setCell ⟨w.heap.size, 1, none⟩ (.slice A4 n4 c4))).cell? ⟨w.heap.size, 1, none⟩ = some (.slice A4 n4 c4) := cell_same (cell_other (cell_other r1 (by first | (simp; done) | (simp; omega))) (by simp))
  have hof : Off [w1.heap.size, w.heap.size] w3 (((w3.setCell ⟨w1.heap.size, 1, none⟩ (.slice A4 n4 c4)).setCell ⟨w.heap.size, 0, none⟩ (.slice A1 n1 c1)).setCell ⟨w.heap.size, 1, none⟩ (.slice A4 n4 c4)) := (((Off.refl _ _).setCell _ _ (by simp)).setCell _ _ (by simp)).setCell _ _ (by simp)
  have g1 : g ≠ w1.heap.size := HGT3.out.ne HG1.out (by decide)
  have g2 : g ≠ w.heap.size := HGT3.out.ne HG2.out (by decide)
  refine bodyPost_ret (v := .tuple #[.agg #[.slice A1 n1 c1, .slice A4 n4 c4], .nilIface]) (by simp [results, Tryz.results110, go_sem, q0, q1]) rfl ?_
  refine ⟨⟨g, n1, c1, A4, n4, c4, by rw [HA1.out], HNC.out.1, HNC.out.2.1, HNC.out.2.2, HGB.out, by simpa using HGT3.out.lt, HST3.out.off hof (by simp [g1, g2]), (HN4.out.off hof (fun k hk => by simp only [List.mem_cons, List.not_mem_nil, or_false] at hk; omega)).mono (by omega)⟩, bel_set (bel_set (bel_set HB3.out HB1.out.size) (Nat.le_refl _)) (Nat.le_refl _)⟩
end Go.Proofs.YtplaohmdllindaaGreatDoor

/- msg.reader.message: one text; a text and a mark; one arg. -/
namespace Go.Proofs.YtplaohmdllindaaGreatDoor
open Go.RowKit

theorem message_endG (b r : Nat) (d : Nat) (u : FrameMode) (w : World) (hd : d ≤ 100) (hb : w.cell? ⟨b, 0, none⟩ = some (.pointer (some ⟨r, 0, none⟩))) (h1 : w.cell? ⟨r, 1, none⟩ = some (.int .i64 ((d + 1 : Nat) : Int))) (hf : w.frozen? ⟨r, 1, none⟩ = false) :
    CallsD Tryz.prog 66 #[.pointer (some ⟨b, 0, none⟩)] u w fun e u' w' => u' = u ∧ (e = .returned (.tuple #[]) ∧ w' = w.setCell ⟨r, 1, none⟩ (.int .i64 (d : Int))) := by
  have e1 : IntKind.i64.wrap (((d + 1 : Nat) : Int) - 1) = (d : Int) := by rw [IntWalk.i64_in _ (by omega)]; omega
  go_enter_d Tryz.func66, Tryz.ntmps66
  go_wp2_with fail
  exact bodyPost_end (results_none rfl _ _ _) rfl ⟨rfl, rfl⟩
theorem RdAt.deep {w : World} {r : Nat} {s : ByteArray} {d : Int} (h : RdAt w r s d) (d' : Int) : RdAt (w.setCell ⟨r, 1, none⟩ (.int .i64 d')) r s d' :=
  ⟨cell_other h.1 (by simp), cell_same h.2.1, by rw [World.frozen?_setCell]; exact h.2.2.1, by rw [World.frozen?_setCell]; exact h.2.2.2⟩
/-- where a message begins: one deeper, the reader's place in a box -/
structure MsgAt (w W : World) (r : Nat) (s : ByteArray) (d : Int) : Prop where
  rd : RdAt W r s d
  box : W.cell? ⟨w.heap.size, 0, none⟩ = some (.pointer (some ⟨r, 0, none⟩))
  off : Off [r] w W
theorem MsgAt.below {w W W' : World} {r : Nat} {s : ByteArray} {d : Int} (h : MsgAt w W r s d) (hb : Below W.heap.size W W') : MsgAt w W' r s d := ⟨h.rd.below hb, carry hb h.box, h.off.below hb h.off.size⟩
theorem MsgAt.set {w W : World} {r : Nat} {s : ByteArray} {d : Int} (h : MsgAt w W r s d) (hr : r < w.heap.size) (t : ByteArray) : MsgAt w (W.setCell ⟨r, 0, none⟩ (.string t)) r t d :=
  ⟨h.rd.set t, cell_other h.box (by have : r ≠ w.heap.size := by omega
                                    simp [this]), h.off.setCell _ _ (by simp)⟩
theorem MsgAt.drew {w W : World} {r : Nat} {s : ByteArray} {d : Int} (h : MsgAt w W r s d) : MsgAt w W.drew r s d := ⟨h.rd, h.box, h.off.drewN 1⟩
theorem MsgAt.keep {w W W' : World} {r : Nat} {s : ByteArray} {d : Int} {l : List Nat} (h : MsgAt w W r s d) (ho : Off l W W') (h1 : r ∉ l) (h2 : w.heap.size ∉ l) (h3 : ∀ k ∈ l, w.heap.size ≤ k := by simp [Value.ownBlock]) : MsgAt w W' r s d :=
  ⟨⟨ho.cell h.rd.1 h1, ho.cell h.rd.2.1 h1, (ho.frozen (lt_of_cell h.rd.1) h1).trans h.rd.2.2.1, (ho.frozen (lt_of_cell h.rd.1) h1).trans h.rd.2.2.2⟩, ho.cell h.box h2,
    ⟨ho.os.trans h.off.os, ho.tape.trans h.off.tape, ho.output.trans h.off.output, Nat.le_trans h.off.size ho.size, fun k hk hm => (ho.block k (Nat.lt_of_lt_of_le hk h.off.size) (fun hn => by have := h3 k hn; omega)).trans (h.off.block k hk hm)⟩⟩
theorem MsgAt.begin {w : World} {r : Nat} {s : ByteArray} {d : Nat} (h : RdAt w r s (d : Int)) : MsgAt w ((w.setCell ⟨r, 1, none⟩ (.int .i64 ((d + 1 : Nat) : Int))).alloc (.cells #[.pointer (some ⟨r, 0, none⟩)] 84)) r s ((d + 1 : Nat) : Int) := by
  have hb : Below (w.setCell ⟨r, 1, none⟩ (.int .i64 ((d + 1 : Nat) : Int))).heap.size (w.setCell ⟨r, 1, none⟩ (.int .i64 ((d + 1 : Nat) : Int))) ((w.setCell ⟨r, 1, none⟩ (.int .i64 ((d + 1 : Nat) : Int))).alloc (.cells #[.pointer (some ⟨r, 0, none⟩)] 84)) := (Below.refl _ _).alloc (Nat.le_refl _) _
  refine ⟨(h.deep _).below hb, ?_, ((Off.refl [r] w).setCell _ _ (by simp)).alloc _⟩
  have : (w.setCell ⟨r, 1, none⟩ (.int .i64 ((d + 1 : Nat) : Int))).heap.size = w.heap.size := by simp
  rw [← this]
  go_simp
theorem take_all (t : ByteArray) : (⟨(t.data.toList.take t.size).toArray⟩ : ByteArray) = t := by
  rw [List.take_of_length_le (by simp)]
set_option maxHeartbeats 4000000 in
/-- one text, to the end -/
theorem message_words (r : Nat) (t : ByteArray) (w : World) (h : RdAt w r t 0) (hbr : BareTo t false t.size) (hne : t.toList.isEmpty = false) (hz : t.size ≤ 1000000) :
    Calls Tryz.prog 26 #[.pointer (some ⟨r, 0, none⟩), .bool false] w fun e w' => ∃ v, e = .returned v ∧ OwnsG kNodeQ w' w.heap.size v [nodeQ 1 t 0 none 0 0] ∧ RdAt w' r ⟨#[]⟩ 0 ∧ Off [r] w w' := by
  have hmf : ∀ (fn : Fn) (first cap : Array Value) (w : World), (Instr.makeFunc fn first cap).run Tryz.prog w = .ok (.func fn first cap) w := fun _ _ _ _ => rfl
  have e1 : IntKind.i64.wrap ((0 : Int) + 1) = 1 := by decide
  have hlt := lt_of_cell h.1
  have hne1 : r ≠ w.heap.size := by omega
  have hM : MsgAt w ((w.setCell ⟨r, 1, none⟩ (.int .i64 1)).alloc (.cells #[.pointer (some ⟨r, 0, none⟩)] 84)) r t 1 := MsgAt.begin (d := 0) h
  obtain ⟨W2, hW2⟩ : ∃ W2, W2 = ((w.setCell ⟨r, 1, none⟩ (.int .i64 1)).alloc (.cells #[.pointer (some ⟨r, 0, none⟩)] 84)) := ⟨_, rfl⟩
  rw [← hW2] at hM
  have HM := Lib.hid hM
  have HW2 := Lib.hid hW2
  have HBR := Lib.hid hbr
  obtain ⟨a0, a1, a2, a3⟩ := h
  clear hM hW2 hbr
  go_enter_defers Tryz.func26, Tryz.ntmps26
  go_wp2_with fail
  rw [← HW2.out]
  clear a0 a1 a2 a3 HW2
  go_loopw [5] (fun o wr => o = .slice none 0 0 ∧ W2 = wr) (fun _ _ => 0)
  case atStart => exact ⟨rfl, rfl⟩
  case round =>
    obtain ⟨rfl, rfl⟩ := hrel
    obtain ⟨d0, d1, d2, d3⟩ := HM.out.rd
    have gx := HM.out.box
    go_wp2_with fail
    refine (bare_g t false t.size _ HBR.out (by omega)).mono ?_
    rintro e w1 ⟨rfl, hb⟩
    rw [take_all]
    have HM1 := Lib.hid (HM.out.below hb)
    clear hb d0 d1 d2 d3 gx
    obtain ⟨d0, d1, d2, d3⟩ := HM1.out.rd
    have gx := HM1.out.box
    go_wp2_with fail
    go_region
    have HM5 := Lib.hid ((HM1.out.set hlt ByteArray.empty).drew)
    clear d0 d1 d2 d3 gx
    obtain ⟨W5, hW5⟩ : ∃ W5, W5 = (w1.setCell ⟨r, 0, none⟩ (.string ByteArray.empty)).drew := ⟨_, rfl⟩
    rw [← hW5] at HM5 ⊢
    clear hW5
    obtain ⟨d0, d1, d2, d3⟩ := HM5.out.rd
    have gx := HM5.out.box
    have ls := lt_of_cell d0
    have lg := lt_of_cell gx
    have hba : Below W5.heap.size W5 (W5.alloc (.cells #[.int .i64 1, .string t, .int .i64 0, .slice none 0 0] 51)) := belx
    have HBA := Lib.hid hba
    have X0 : Hid (∀ i u, (kNodeQ.cells (nodeQ 1 t 0 none 0 0))[i]? = some u → (W5.alloc (.cells #[.int .i64 1, .string t, .int .i64 0, .slice none 0 0] 51)).cell? ⟨W5.heap.size, i, none⟩ = some u) := Lib.hid (fun i u hu => by
      match i, u, hu with
      | 0, _, hu => injection hu with hu; subst hu; go_simp
      | 1, _, hu => injection hu with hu; subst hu; go_simp
      | 2, _, hu => injection hu with hu; subst hu; go_simp
      | 3, _, hu => injection hu with hu; subst hu; go_simp)
    have HSZ : Hid (w.heap.size ≤ (W5.alloc (.cells #[.int .i64 1, .string t, .int .i64 0, .slice none 0 0] 51)).heap.size) := Lib.hid (Nat.le_trans HM5.out.off.size hba.size)
    clear hba
    go_wp2_with (at_builtin; refine wpList_append_gB (k := kNodeQ) rfl _ _ rfl (base := w.heap.size) (v := .slice none 0 0) (ts := []) (nodeQ 1 t 0 none 0 0) rfl rfl (OwnsG.nil _ _) X0.out HSZ.out (by decide) (by decide) ?_; intro v' w8 ho hoff hfr; have HM8 := Lib.hid ((HM5.out.below HBA.out).keep (W' := w8) hoff (by simp [Value.ownBlock]) (by simp [Value.ownBlock])); obtain ⟨d0, d1, d2, d3⟩ := HM8.out.rd; have gx := HM8.out.box; have HO := Lib.hid ho; obtain ⟨A9, c9, rfl, _⟩ := ho.form; clear ho hoff hfr)
    refine (cut_no r ByteArray.empty ⟨#[123]⟩ _ d0 (by decide)).mono ?_
    rintro e w6 ⟨rfl, rfl⟩
    go_wp2_with fail
    refine leaves_cons (f := 66) (args := #[.pointer (some ⟨w.heap.size, 0, none⟩)]) (by simp) (by simp [go_sem]) ?_
    refine (message_endG w.heap.size r 0 .returning _ (by omega) gx d1 d3).mono ?_
    rintro e u' w7 ⟨rfl, rfl, rfl⟩
    refine ⟨_, results_tmp rfl _ _ _, _, rfl, ?_, HM8.out.rd.deep 0, HM8.out.off.setCell _ _ (by simp)⟩
    exact HO.out.off ((Off.refl [r] _).setCell _ _ (by simp)) (fun g hg hm => by
      have := (HO.out.block g (by rw [hg]; simp)).1
      simp only [List.mem_singleton] at hm
      omega)
end Go.Proofs.YtplaohmdllindaaGreatDoor

/- msg.reader.message at a text and a mark. -/
namespace Go.Proofs.YtplaohmdllindaaGreatDoor
open Go.RowKit

end Go.Proofs.YtplaohmdllindaaGreatDoor
