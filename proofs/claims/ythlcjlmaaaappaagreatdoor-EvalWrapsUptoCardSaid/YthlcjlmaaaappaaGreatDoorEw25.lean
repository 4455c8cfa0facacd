/- NeedAll, WrapPlain, NeedOf, TyAt: texts put together. -/
import Derived.Test.YthlcjlmaaaappaaGreatDoorEw14
import Derived.Test.YthlcjlmaaaappaaGreatDoorEw24
import Derived.Test.YthlcjlmaaaappaaGreatDoorEw3
import Derived.Laws.Rows
set_option linter.unusedVariables false
set_option linter.unusedSimpArgs false
/- names' all; how many nodes msg.size tells. -/
namespace Go.Proofs.YthlcjlmaaaappaaGreatDoor
open Go.RowKit

theorem Off.trans2 {l m : List Nat} {a b c : World} (h : Off l a b) (k : Off m b c) (hm : ∀ i ∈ m, i ∈ l ∨ a.heap.size ≤ i) : Off l a c :=
  ⟨k.os.trans h.os, k.tape.trans h.tape, k.output.trans h.output, Nat.le_trans h.size k.size, fun i hi hl => (k.block i (Nat.lt_of_lt_of_le hi h.size) (fun hmi => by
    rcases hm i hmi with h1 | h1
    · exact hl h1
    · omega)).trans (h.block i hi hl)⟩
theorem NeedTo.trans {w w1 w2 : World} {p base : Nat} {sv sv1 : Value} {l : List Need} (hf : Fresh w sv sv1) (ho : Off (p :: sv.ownBlock.toList) w w1) (k : NeedTo w1 w2 p base sv1 l) : NeedTo w w2 p base sv l := by
  obtain ⟨sv2, h1, h2, h3⟩ := k
  refine ⟨sv2, h1, hf.trans h2 ho.size, ho.trans2 h3 fun i hi => ?_⟩
  rcases List.mem_cons.1 hi with rfl | hi
  · exact .inl (List.mem_cons_self ..)
  · rcases hf i hi with h | h
    · exact .inl (List.mem_cons_of_mem _ h)
    · exact .inr h
theorem NeedTo.below {w w1 w2 : World} {p base : Nat} {sv : Value} {l : List Need} (h : NeedTo w w1 p base sv l) (hb : Below w1.heap.size w1 w2) : NeedTo w w2 p base sv l := by
  obtain ⟨sv1, h1, h2, h3⟩ := h
  exact ⟨sv1, h1.below hb, h2, h3.below hb h3.size⟩
theorem NeedTo.start {w w1 w2 : World} {p base : Nat} {sv : Value} {l : List Need} (hb : Below w.heap.size w w1) (h : NeedTo w1 w2 p base sv l) : NeedTo w w2 p base sv l :=
  NeedTo.trans (Fresh.refl _ _) ((Off.refl _ _).below hb (Nat.le_refl _)) h
theorem NeedTo.from {w w1 w2 : World} {p base : Nat} {sv : Value} {l l1 : List Need} (h : NeedTo w w1 p base sv l1) (k : ∀ sv1, NeedsAt w1 p base l1 sv1 → NeedTo w1 w2 p base sv1 l) : NeedTo w w2 p base sv l := by
  obtain ⟨sv1, h1, h2, h3⟩ := h
  exact NeedTo.trans h2 h3 (k sv1 h1)
theorem NeedTo.toBelow {w w1 : World} {p base B : Nat} {sv : Value} {l l0 : List Need} (h : NeedTo w w1 p base sv l) (h0 : NeedsAt w p base l0 sv) (hp : B ≤ p) (hb : B ≤ base) (hw : B ≤ w.heap.size) : Below B w w1 := by
  obtain ⟨sv1, h1, h2, h3⟩ := h
  refine h3.toBelow (fun k hk => ?_) hw
  rcases List.mem_cons.1 hk with rfl | hk
  · exact hp
  · have := (h0.2.2.1.block k hk).1; omega

def foldC (f : Nat) (l : List Need) (cs : List (ByteArray × List Nd)) : List Need := cs.foldl (fun l c => allN f l c.2) l
def foldM (f : Nat) (l : List Need) (ms : List Nd) : List Need := ms.foldl (fun l x => foldC f (addN l x.kd x.t) (casesOf x)) l
theorem allN_succ (f : Nat) (l : List Need) (ms : List Nd) : allN (f + 1) l ms = foldM f l ms := rfl
def cntC (f : Nat) (cs : List (ByteArray × List Nd)) : Nat := (cs.map fun c => cntP f c.2).sum
theorem cntP_succ (f : Nat) (ms : List Nd) : cntP (f + 1) ms = ms.length + cntC f (flatC ms) := rfl
theorem cntC_append (f : Nat) (a b : List (ByteArray × List Nd)) : cntC f (a ++ b) = cntC f a + cntC f b := by unfold cntC; rw [List.map_append, List.sum_append]
theorem cntC_cons (f : Nat) (c : ByteArray × List Nd) (r : List (ByteArray × List Nd)) : cntC f (c :: r) = cntP f c.2 + cntC f r := by unfold cntC; rw [List.map_cons, List.sum_cons]
theorem allN_length : ∀ (f : Nat) (l : List Need) (ms : List Nd), (allN f l ms).length ≤ l.length + cntP f ms
  | 0, l, ms => by unfold allN; omega
  | f + 1, l, ms => by
    have hC : ∀ (cs : List (ByteArray × List Nd)) (l : List Need), (foldC f l cs).length ≤ l.length + cntC f cs := by
      intro cs
      induction cs with
      | nil => intro l; exact Nat.le_add_right _ _
      | cons c r ih =>
        intro l
        have h1 := allN_length f l c.2
        have h2 := ih (allN f l c.2)
        rw [cntC_cons]
        show (foldC f (allN f l c.2) r).length ≤ _
        omega
    rw [allN_succ, cntP_succ]
    have hM : ∀ (ms : List Nd) (l : List Need), (foldM f l ms).length ≤ l.length + (ms.length + cntC f (flatC ms)) := by
      intro ms
      induction ms with
      | nil => intro l; exact Nat.le_add_right _ _
      | cons x r ih =>
        intro l
        have h1 := hC (casesOf x) (addN l x.kd x.t)
        have h2 := addN_length l x.kd x.t
        have h3 := ih (foldC f (addN l x.kd x.t) (casesOf x))
        rw [flat_cons, cntC_append, List.length_cons]
        show (foldM f (foldC f (addN l x.kd x.t) (casesOf x)) r).length ≤ _
        omega
    exact hM ms l

/-- what msg.size tells of a message that is not too large -/
theorem runSz_cnt {g : List Nd → Nat × Bool} {f : Nat} (hg : ∀ b, (g b).2 = false → (g b).1 = cntP f b) : ∀ (cs : List (ByteArray × List Nd)) (n : Nat), (runSz g n cs).2 = false → (runSz g n cs).1 = n + cntC f cs ∧ n + cntC f cs ≤ 60 ∧ ∀ c ∈ cs, (g c.2).2 = false
  | [], n, h => by
    unfold runSz at h ⊢
    have : ¬ 60 < n := of_decide_eq_false h
    exact ⟨by simp [cntC], by simp [cntC]; omega, by simp⟩
  | c :: r, n, h => by
    unfold runSz at h ⊢
    split at h
    · cases h
    · rename_i hh
      rw [if_neg hh]
      have h0 : (g c.2).2 = false := by
        cases hq : (g c.2).2
        · rfl
        · exact absurd (by rw [hq]; rfl) hh
      obtain ⟨h1, h2, h3⟩ := runSz_cnt hg r _ h
      have h4 := hg c.2 h0
      rw [cntC_cons]
      refine ⟨by rw [h1, h4]; omega, by omega, fun d hd => ?_⟩
      rcases List.mem_cons.1 hd with rfl | hd
      · exact h0
      · exact h3 d hd
theorem size_cnt : ∀ (f : Nat) (ms : List Nd) (deep : Nat), (f = 0 → ms = []) → (sizeP f ms deep).2 = false → (sizeP f ms deep).1 = cntP f ms ∧ cntP f ms ≤ 60
  | 0, ms, deep, _, _ => ⟨rfl, Nat.zero_le _⟩
  | f + 1, ms, deep, _, h => by
    unfold sizeP at h ⊢
    split at h
    · cases h
    · rename_i hh
      rw [if_neg hh]
      obtain ⟨h1, h2, _⟩ := runSz_cnt (f := f) (fun b hb => by
        cases f with
        | zero => rfl
        | succ f => exact (size_cnt (f + 1) b (deep + 1) (fun h => by cases h) hb).1) (flatC ms) ms.length h
      exact ⟨h1, h2⟩
theorem msg_small {f : Nat} {ms : List Nd} (h : msgP f ms = 0) : cntP f ms ≤ 60 ∧ checkP f ms false = 0 := by
  unfold msgP at h
  cases hq : (sizeP f ms 0).2
  · rw [hq] at h
    rw [if_neg (by decide)] at h
    cases f with
    | zero => exact ⟨Nat.zero_le _, h⟩
    | succ f => exact ⟨(size_cnt (f + 1) ms 0 (fun h => by cases h) hq).2, h⟩
  · rw [hq, if_pos rfl] at h
    cases h

set_option maxHeartbeats 4000000 in
theorem need_all (W0 : World) (p base : Nat) (hp : W0.heap.size ≤ p) (hbase : W0.heap.size ≤ base) (f : Nat) : ∀ (v : Value) (ms : List Nd) (l : List Need) (sv : Value) (w : World), NodesIn f W0 v ms → Below W0.heap.size W0 w → NeedsAt w p base l sv → base ≤ w.heap.size → l.length + cntP f ms ≤ 1000000 →
      Calls Tryz.prog 90 #[.pointer (some ⟨p, 0, none⟩), v] w fun e w' => e = .returned (.tuple #[]) ∧ NeedTo w w' p base sv (allN f l ms) := by
  induction f with
  | zero =>
    intro v ms l sv w h hb hA hbw _
    obtain ⟨rfl, A, c, rfl, hc⟩ := h
    have HE : Hid (NeedTo w w p base sv (allN 0 l [])) := Lib.hid ⟨sv, hA, Fresh.refl _ _, Off.refl _ _⟩
    clear hA
    go_enter Tryz.func90, Tryz.ntmps90
    go_wp2_with fail
    go_loopw [10] (fun i wr => i = .int .i64 0 ∧ w = wr) (fun _ _ => 0)
    case atStart => exact ⟨rfl, rfl⟩
    case round =>
      obtain ⟨rfl, rfl⟩ := hrel
      go_wp2_with fail
      exact bodyPost_end (results_none rfl _ _ _) rfl ⟨rfl, HE.out⟩
  | succ f ih =>
    intro v ms l sv w hN hb hA hbw hcnt
    obtain ⟨A, c, rfl, hc, hc2, hl⟩ := hN.form
    have HN := Lib.hid hN
    have HB := Lib.hid hb
    have HA := Lib.hid hA
    have IH := Lib.hid ih
    rw [cntP_succ] at hcnt
    have HX : Hid (foldM f l (ms.drop 0) = allN (f + 1) l ms) := Lib.hid rfl
    generalize allN (f + 1) l ms = R at *
    have HS : Hid (NeedTo w w p base sv l) := Lib.hid ⟨sv, hA, Fresh.refl _ _, Off.refl _ _⟩
    have HCN : Hid (l.length + (ms.drop 0).length + cntC f (flatC (ms.drop 0)) ≤ 1000000) := Lib.hid (by rw [List.drop_zero]; omega)
    clear hN hb hA ih hcnt
    go_enter Tryz.func90, Tryz.ntmps90
    go_wp2_with fail
    go_loopw [10] (fun i wr => ∃ (k : Nat) (l' : List Need), k ≤ ms.length ∧ i = .int .i64 k ∧ Hid (NeedTo w wr p base sv l') ∧ Hid (foldM f l' (ms.drop k) = R) ∧ Hid (l'.length + (ms.drop k).length + cntC f (flatC (ms.drop k)) ≤ 1000000)) (fun i _ => ms.length - (intOf i).toNat)
    case atStart => exact ⟨0, l, Nat.zero_le _, rfl, HS, HX, HCN⟩
    case round =>
      obtain ⟨k, l', hk, rfl, HT, HR, HL⟩ := hrel
      by_cases hlt : k < ms.length
      · have hbr : Below W0.heap.size w _ := HT.out.toBelow HA.out hp hbase HB.out.size
        have hb0 := HB.out.trans hbr
        have HB1 := Lib.hid hb0
        obtain ⟨b, o, rfl, hat⟩ := HN.out.at (by omega)
        obtain ⟨x, hx⟩ : ∃ x, ms[k]? = some x := ⟨ms[k], List.getElem?_eq_getElem hlt⟩
        obtain ⟨A2, cc, x1, x2, x3, hC, n0, n1, n2, n3⟩ := (hat k x hx).cells
        replace n0 := carry hb0 n0
        replace n1 := carry hb0 n1
        replace n2 := carry hb0 n2
        replace n3 := carry hb0 n3
        obtain ⟨sv1, hA1, hF1, hO1⟩ := HT.out
        have sW := hO1.size
        have HF1 := Lib.hid hF1
        have HO1 := Lib.hid hO1
        have hst : foldM f l' (ms.drop k) = foldM f (foldC f (addN l' x.kd x.t) (casesOf x)) (ms.drop (k + 1)) := by rw [drop_at hx]; rfl
        rw [HR.out] at hst
        have hcn := HL.out
        have hadd := addN_length l' x.kd x.t
        rw [flat_drop hx, cntC_append, List.length_drop] at hcn
        have hb2 : Below wr.heap.size wr (wr.alloc (.cells #[.int .i64 x.kd, .string x.t, .int .i64 x.off, .slice A2 x.cs.length cc] 30)) := (Below.refl _ _).alloc (Nat.le_refl _) _
        have hA2 := hA1.below hb2
        have sb2 := hb2.size
        have K := Lib.hid (need_add p base x.kd x.off x.t A2 x.cs.length cc l' sv1 _ hA2 (by omega) (by omega))
        have HB2 := Lib.hid hb2
        have hnp : wr.heap.size ∉ p :: sv1.ownBlock.toList := fun hm => by
          rcases List.mem_cons.1 hm with e | hm
          · have := lt_of_cell hA1.1; omega
          · obtain ⟨_, cur, hc⟩ := hA1.2.2.1.block _ hm
            have := (Array.getElem?_eq_some_iff.1 hc).1
            omega
        have HNP := Lib.hid hnp
        have HA2 := Lib.hid hA2
        have HC := Lib.hid hC
        have HST := Lib.hid hst
        have HCN : Hid ((addN l' x.kd x.t).length + cntC f (casesOf x) + (ms.length - (k + 1)) + cntC f (flatC (ms.drop (k + 1))) ≤ 1000000) := Lib.hid (by omega)
        have i0 : (0 : Int) ≤ (k : Int) := by omega
        have i1 : (k : Int) < (ms.length : Int) := by omega
        have i2 : (k : Int) ≤ (c : Int) := by omega
        have e1 : IntKind.i64.wrap ((k : Int) + 1) = (k : Int) + 1 := IntWalk.i64_in _ (by omega)
        clear hbr hb0 hat hx hC hA1 hF1 hO1 hst hcn hadd hb2 hA2 sb2 hnp HR HL
        generalize addN l' x.kd x.t = l1 at *
        go_wp2_with fail
        refine K.out.mono ?_
        rintro e w2 ⟨rfl, hT2⟩
        have hO2 : Off (p :: sv1.ownBlock.toList) _ w2 := hT2.choose_spec.2.2
        have m0 := hO2.cell (show World.cell? _ ⟨wr.heap.size, 0, none⟩ = some (.int .i64 x.kd) by go_simp) HNP.out
        have m1 := hO2.cell (show World.cell? _ ⟨wr.heap.size, 1, none⟩ = some (.string x.t) by go_simp) HNP.out
        have m2 := hO2.cell (show World.cell? _ ⟨wr.heap.size, 2, none⟩ = some (.int .i64 x.off) by go_simp) HNP.out
        have m3 := hO2.cell (show World.cell? _ ⟨wr.heap.size, 3, none⟩ = some (.slice A2 x.cs.length cc) by go_simp) HNP.out
        have HT2 : Hid (NeedTo w w2 p base sv l1) := Lib.hid (NeedTo.trans HF1.out (HO1.out.below HB2.out sW) hT2)
        clear hT2 hO2 n0 n1 n2 n3 HA2 K
        go_wp2_with fail
        refine (cases_any (P := NodesIn f W0) W0 x A2 x.cs.length cc _ HC.out).mono ?_
        rintro e w3 ⟨A3, d3, rfl, y1, y2, y3, hC3, hb3⟩
        have HT3 := Lib.hid (HT2.out.below hb3)
        have HC3 := Lib.hid hC3
        generalize casesOf x = cs at *
        clear hb3 hC3 m0 m1 m2 m3 HC HT2
        go_wp2_with fail
        go_loopw [20] (fun i wi => ∃ (j : Nat) (l' : List Need), j ≤ cs.length ∧ i = .int .i64 j ∧ Hid (NeedTo w wi p base sv l') ∧ Hid (foldM f (foldC f l' (cs.drop j)) (ms.drop (k + 1)) = R) ∧ Hid (l'.length + cntC f (cs.drop j) + (ms.length - (k + 1)) + cntC f (flatC (ms.drop (k + 1))) ≤ 1000000)) (fun i _ => cs.length - (intOf i).toNat)
        case atStart => exact ⟨0, l1, Nat.zero_le _, rfl, HT3, Lib.hid HST.out.symm, HCN⟩
        case round =>
          obtain ⟨j, l2, hj, rfl, HT4, HR4, HL4⟩ := hrel
          by_cases hjt : j < cs.length
          · have hbr : Below W0.heap.size w _ := HT4.out.toBelow HA.out hp hbase HB.out.size
            have hb0 := HB.out.trans hbr
            obtain ⟨b2, o2, rfl, hcell⟩ := HC3.out.at (by omega)
            obtain ⟨xb, hx⟩ : ∃ x, cs[j]? = some x := ⟨cs[j], List.getElem?_eq_getElem hjt⟩
            obtain ⟨hxz, c0, vb, c1, hvb⟩ := hcell j xb hx
            obtain ⟨xk, body⟩ := xb
            simp only at c0 c1 hxz hvb
            obtain ⟨A4, d4, rfl, b1, b2, b3⟩ := hvb.form
            replace c0 := carry hb0 c0
            replace c1 := carry hb0 c1
            obtain ⟨sv4, hA4, hF4, hO4⟩ := HT4.out
            have sW4 := hO4.size
            have HF4 := Lib.hid hF4
            have HO4 := Lib.hid hO4
            have hst : foldC f l2 (cs.drop j) = foldC f (allN f l2 body) (cs.drop (j + 1)) := by rw [drop_at hx]; rfl
            have HST4 : Hid (foldM f (foldC f (allN f l2 body) (cs.drop (j + 1))) (ms.drop (k + 1)) = R) := Lib.hid (by rw [← hst]; exact HR4.out)
            have hcn := HL4.out
            have hadd := allN_length f l2 body
            rw [drop_at hx, cntC_cons] at hcn
            simp only at hcn
            have hb5 : Below wr.heap.size wr (wr.alloc (.cells #[.string xk, .slice A4 body.length d4] 33)) := (Below.refl _ _).alloc (Nat.le_refl _) _
            have sb5 := hb5.size
            have K := Lib.hid (IH.out _ body l2 sv4 _ hvb (hb0.trans (hb5.mono (by have := hb0.size; omega))) (hA4.below hb5) (by omega) (by omega))
            have HCN4 : Hid ((allN f l2 body).length + cntC f (cs.drop (j + 1)) + (ms.length - (k + 1)) + cntC f (flatC (ms.drop (k + 1))) ≤ 1000000) := Lib.hid (by omega)
            have HB5 := Lib.hid hb5
            have i0 : (0 : Int) ≤ (j : Int) := by omega
            have i1 : (j : Int) < (cs.length : Int) := by omega
            have i2 : (j : Int) ≤ (d3 : Int) := by omega
            have e1 : IntKind.i64.wrap ((j : Int) + 1) = (j : Int) + 1 := IntWalk.i64_in _ (by omega)
            clear hbr hb0 hcell hx hvb hA4 hF4 hO4 hst hcn hadd hb5 sb5 HR4 HL4
            go_wp2_with fail
            refine K.out.mono ?_
            rintro e w6 ⟨rfl, hT6⟩
            have HT6 : Hid (NeedTo w w6 p base sv (allN f l2 body)) := Lib.hid (NeedTo.trans HF4.out (HO4.out.below HB5.out sW4) hT6)
            clear hT6
            go_wp2_with fail
            go_roundw
            case rel => exact ⟨j + 1, _, by omega, by go_num, HT6, HST4, HCN4⟩
            case measure => simp [intOf]; omega
          · obtain rfl : j = cs.length := by omega
            have hr := HR4.out
            have hl4 := HL4.out
            rw [List.drop_of_length_le (Nat.le_refl _)] at hr hl4
            have HR5 : Hid (foldM f l2 (ms.drop (k + 1)) = R) := Lib.hid hr
            have HL5 : Hid (l2.length + (ms.drop (k + 1)).length + cntC f (flatC (ms.drop (k + 1))) ≤ 1000000) := Lib.hid (by rw [List.length_drop]; omega)
            clear hr hl4
            go_wp2_with fail
            go_roundw
            case rel => exact ⟨k + 1, l2, by omega, by go_num, HT4, HR5, HL5⟩
            case measure => simp [intOf]; omega
      · obtain rfl : k = ms.length := by omega
        have hr := HR.out
        rw [List.drop_of_length_le (Nat.le_refl _)] at hr
        have HE : Hid (NeedTo w _ p base sv R) := Lib.hid ((show l' = R from hr) ▸ HT.out)
        clear hr
        go_wp2_with fail
        exact bodyPost_end (results_none rfl _ _ _) rfl ⟨rfl, HE.out⟩
end Go.Proofs.YthlcjlmaaaappaaGreatDoor

/- A message within a Select: what it asks for, in plain terms. -/
namespace Go.Proofs.YthlcjlmaaaappaaGreatDoor

def namesOf (l : List Need) : List (List UInt8) := l.map fun n => n.name.toList
theorem hasN_iff (t : ByteArray) (n : Need) : hasN t n = true ↔ n.name.toList = t.toList := by unfold hasN; exact beq_iff_eq
theorem names_modify (l : List Need) (i : Nat) (kd : Int) : namesOf (l.modify i (flagN kd)) = namesOf l := by
  unfold namesOf
  apply List.ext_getElem?
  intro j
  rw [List.getElem?_map, List.getElem?_map, List.getElem?_modify]
  cases l[j]? with
  | none => rfl
  | some n => by_cases h : i = j <;> simp [h, flagN]
theorem mem_names {l : List Need} {t : ByteArray} : t.toList ∈ namesOf l ↔ ∃ (i : Nat) (n : Need), l[i]? = some n ∧ hasN t n = true := by
  unfold namesOf
  constructor
  · intro h
    obtain ⟨n, hn, he⟩ := List.mem_map.1 h
    obtain ⟨i, hi⟩ := List.mem_iff_getElem?.1 hn
    exact ⟨i, n, hi, (hasN_iff t n).2 he⟩
  · rintro ⟨i, n, h, he⟩
    exact List.mem_map.2 ⟨n, List.mem_of_getElem? h, (hasN_iff t n).1 he⟩
theorem names_grow (l : List Need) (t : ByteArray) : namesOf (growN l t).1 = if t.toList ∈ namesOf l then namesOf l else namesOf l ++ [t.toList] := by
  unfold growN
  cases h : l.findIdx? (hasN t) with
  | none =>
    rw [if_neg]
    · unfold namesOf; rw [List.map_append]; rfl
    · rw [mem_names]
      rintro ⟨i, n, hi, hn⟩
      have := List.findIdx?_eq_none_iff.1 h n (List.mem_of_getElem? hi)
      rw [hn] at this; cases this
  | some i =>
    obtain ⟨hi, h1, _⟩ := List.findIdx?_eq_some_iff_getElem.1 h
    rw [if_pos (mem_names.2 ⟨i, l[i], List.getElem?_eq_getElem hi, h1⟩)]
theorem names_add (l : List Need) (kd : Int) (t : ByteArray) : namesOf (addN l kd t) = if kd = 1 ∨ kd = 6 then namesOf l else if t.toList ∈ namesOf l then namesOf l else namesOf l ++ [t.toList] := by
  unfold addN
  split
  · rfl
  · rw [names_modify, names_grow]
def Uniq (l : List Need) : Prop := (namesOf l).Nodup
theorem uniq_add {l : List Need} (h : Uniq l) (kd : Int) (t : ByteArray) : Uniq (addN l kd t) := by
  unfold Uniq at *
  rw [names_add]
  split
  · exact h
  · split
    · exact h
    · rename_i h2
      rw [List.nodup_append]
      exact ⟨h, by simp, fun a ha b hb => by simp at hb; subst hb; exact fun e => h2 (e ▸ ha)⟩

theorem allN_rel {R : List Need → List Need → Prop} (h : ∀ l l' kd t, R l l' → R (addN l kd t) (addN l' kd t)) : ∀ (f : Nat) (ms : List Nd) (l l' : List Need), R l l' → R (allN f l ms) (allN f l' ms)
  | 0, _, _, _, hr => hr
  | f + 1, ms, l, l', hr => by
    have hC : ∀ (cs : List (ByteArray × List Nd)) (l l' : List Need), R l l' → R (foldC f l cs) (foldC f l' cs) := by
      intro cs
      induction cs with
      | nil => intro l l' hr; exact hr
      | cons c r ih => intro l l' hr; exact ih _ _ (allN_rel h f c.2 l l' hr)
    rw [allN_succ, allN_succ]
    have hM : ∀ (ms : List Nd) (l l' : List Need), R l l' → R (foldM f l ms) (foldM f l' ms) := by
      intro ms
      induction ms with
      | nil => intro l l' hr; exact hr
      | cons x r ih => intro l l' hr; exact ih _ _ (hC _ _ _ (h _ _ _ _ hr))
    exact hM ms l l' hr

/-- an element of a list of unlike names is known by its name -/
theorem uniq_at {l : List Need} (h : Uniq l) {i j : Nat} {a b : Need} (hi : l[i]? = some a) (hj : l[j]? = some b) (he : a.name.toList = b.name.toList) : i = j := by
  unfold Uniq namesOf at h
  have hil := (List.getElem?_eq_some_iff.1 hi).1
  have hjl := (List.getElem?_eq_some_iff.1 hj).1
  have hii : (l.map fun n => n.name.toList)[i]? = some a.name.toList := by rw [List.getElem?_map, hi]; rfl
  have hjj : (l.map fun n => n.name.toList)[j]? = some b.name.toList := by rw [List.getElem?_map, hj]; rfl
  exact (List.getElem?_inj (by rw [List.length_map]; exact hil) h).1 (by rw [hii, hjj, he])
/-- the element of a name, behind an addition -/
theorem mem_add {l : List Need} (hu : Uniq l) {kd : Int} {t : ByteArray} {n : Need} (h : n ∈ addN l kd t) :
    (n ∈ l ∧ (kd = 1 ∨ kd = 6 ∨ ¬ n.name.toList = t.toList)) ∨ (¬ (kd = 1 ∨ kd = 6) ∧ ∃ m, n = flagN kd m ∧ m.name.toList = t.toList ∧ (m ∈ l ∨ ((∀ x ∈ l, ¬ x.name.toList = t.toList) ∧ m = ⟨t, false, false⟩))) := by
  unfold addN at h
  split at h
  · rename_i hk
    exact .inl ⟨h, hk.elim .inl fun h => .inr (.inl h)⟩
  · rename_i hk
    obtain ⟨j, hj⟩ := List.mem_iff_getElem?.1 h
    rw [List.getElem?_modify] at hj
    cases hf : l.findIdx? (hasN t) with
    | none =>
      have hg : growN l t = (l ++ [Need.mk t false false], l.length) := by unfold growN; rw [hf]
      rw [hg] at hj
      simp only at hj
      have hno : ∀ x ∈ l, ¬ x.name.toList = t.toList := fun x hx he => by
        have := List.findIdx?_eq_none_iff.1 hf x hx
        rw [(hasN_iff t x).2 he] at this; cases this
      by_cases hjl : j = l.length
      · subst hjl
        simp at hj
        exact .inr ⟨hk, _, hj.symm, rfl, .inr ⟨hno, rfl⟩⟩
      · have hlt : j < l.length := by
          rcases Nat.lt_or_ge j l.length with h | h
          · exact h
          · rw [List.getElem?_append_right h] at hj
            have : ([Need.mk t false false] : List Need)[j - l.length]? = none := List.getElem?_eq_none (by simp; omega)
            rw [this] at hj
            simp at hj
        rw [List.getElem?_append_left hlt] at hj
        have hne : ¬ l.length = j := fun e => hjl e.symm
        simp [hne, hlt] at hj
        have hm : n ∈ l := hj ▸ List.getElem_mem _
        exact .inl ⟨hm, .inr (.inr (hno n hm))⟩
    | some i =>
      have hg : growN l t = (l, i) := by unfold growN; rw [hf]
      rw [hg] at hj
      simp only at hj
      obtain ⟨hi, h1, h2⟩ := List.findIdx?_eq_some_iff_getElem.1 hf
      by_cases hij : i = j
      · subst hij
        rw [List.getElem?_eq_getElem hi] at hj
        simp at hj
        exact .inr ⟨hk, l[i], hj.symm, (hasN_iff t _).1 h1, .inl (List.getElem_mem _)⟩
      · cases hlj : l[j]? with
        | none => rw [hlj] at hj; simp at hj
        | some m =>
          rw [hlj] at hj
          simp [hij] at hj
          subst hj
          refine .inl ⟨List.mem_of_getElem? hlj, .inr (.inr fun he => hij ?_)⟩
          exact uniq_at hu (List.getElem?_eq_getElem hi) hlj (((hasN_iff t _).1 h1).trans he.symm)
/-- what is there stays there -/
theorem add_mem {l : List Need} {kd : Int} {t : ByteArray} {n : Need} (h : n ∈ l) (hu : Uniq l) : (kd = 1 ∨ kd = 6 ∨ ¬ n.name.toList = t.toList → n ∈ addN l kd t) ∧ (¬ (kd = 1 ∨ kd = 6) → n.name.toList = t.toList → flagN kd n ∈ addN l kd t) := by
  obtain ⟨j, hj⟩ := List.mem_iff_getElem?.1 h
  have hjl := (List.getElem?_eq_some_iff.1 hj).1
  unfold addN
  constructor
  · intro hk
    split
    · exact h
    · rename_i hk2
      have hne : ¬ n.name.toList = t.toList := by
        rcases hk with h1 | h1 | h1
        · exact absurd (.inl h1) hk2
        · exact absurd (.inr h1) hk2
        · exact h1
      apply List.mem_of_getElem? (i := j)
      rw [List.getElem?_modify]
      cases hf : l.findIdx? (hasN t) with
      | none =>
        have hg : growN l t = (l ++ [Need.mk t false false], l.length) := by unfold growN; rw [hf]
        rw [hg]
        simp only
        rw [List.getElem?_append_left hjl, hj]
        have : ¬ l.length = j := by omega
        simp [this]
      | some i =>
        have hg : growN l t = (l, i) := by unfold growN; rw [hf]
        rw [hg]
        simp only
        obtain ⟨hi, h1, _⟩ := List.findIdx?_eq_some_iff_getElem.1 hf
        have hij : ¬ i = j := fun e => by
          subst e
          have : l[i] = n := (List.getElem?_eq_some_iff.1 hj).2
          rw [this] at h1
          exact hne ((hasN_iff t n).1 h1)
        rw [hj]
        simp [hij]
  · intro hk he
    rw [if_neg hk]
    cases hf : l.findIdx? (hasN t) with
    | none =>
      have := List.findIdx?_eq_none_iff.1 hf n h
      rw [(hasN_iff t n).2 he] at this; cases this
    | some i =>
      have hg : growN l t = (l, i) := by unfold growN; rw [hf]
      rw [hg]
      simp only
      obtain ⟨hi, h1, _⟩ := List.findIdx?_eq_some_iff_getElem.1 hf
      have hij : i = j := uniq_at hu (List.getElem?_eq_getElem hi) hj (((hasN_iff t _).1 h1).trans he.symm)
      subst hij
      apply List.mem_of_getElem? (i := i)
      rw [List.getElem?_modify, hj]
      simp
theorem add_new {l : List Need} {kd : Int} {t : ByteArray} (hk : ¬ (kd = 1 ∨ kd = 6)) (hno : ∀ x ∈ l, ¬ x.name.toList = t.toList) : flagN kd ⟨t, false, false⟩ ∈ addN l kd t := by
  unfold addN
  rw [if_neg hk]
  have hf : l.findIdx? (hasN t) = none := by
    rw [List.findIdx?_eq_none_iff]
    intro x hx
    cases h : hasN t x
    · rfl
    · exact absurd ((hasN_iff t x).1 h) (hno x hx)
  have hg : growN l t = (l ++ [Need.mk t false false], l.length) := by unfold growN; rw [hf]
  rw [hg]
  simp only
  apply List.mem_of_getElem? (i := l.length)
  rw [List.getElem?_modify]
  simp

/-- whatever the one asks for the other asks for too -/
def Sim (l l' : List Need) : Prop := Uniq l ∧ Uniq l' ∧ ∀ n ∈ l, ∃ n' ∈ l', n'.name.toList = n.name.toList ∧ (n.num = true → n'.num = true) ∧ (n.text = true → n'.text = true)
theorem flag_mono {kd : Int} {n n' : Need} (h1 : n.num = true → n'.num = true) (h2 : n.text = true → n'.text = true) : ((flagN kd n).num = true → (flagN kd n').num = true) ∧ ((flagN kd n).text = true → (flagN kd n').text = true) := by
  unfold flagN
  simp only [Bool.or_eq_true]
  exact ⟨fun h => h.imp h1 id, fun h => h.imp h2 id⟩
theorem sim_add {l l' : List Need} (h : Sim l l') (kd : Int) (t : ByteArray) : Sim (addN l kd t) (addN l' kd t) := by
  obtain ⟨hu, hu', hs⟩ := h
  refine ⟨uniq_add hu _ _, uniq_add hu' _ _, fun n hn => ?_⟩
  rcases mem_add hu hn with ⟨hm, hk⟩ | ⟨hk, m, rfl, hmn, hm⟩
  · obtain ⟨n', hn', e1, e2, e3⟩ := hs n hm
    by_cases hk2 : kd = 1 ∨ kd = 6 ∨ ¬ n'.name.toList = t.toList
    · exact ⟨n', (add_mem hn' hu').1 hk2, e1, e2, e3⟩
    · rw [e1] at hk2; exact absurd hk hk2
  · rcases hm with hm | ⟨hno, rfl⟩
    · obtain ⟨n', hn', e1, e2, e3⟩ := hs m hm
      have := flag_mono (kd := kd) e2 e3
      exact ⟨_, (add_mem hn' hu').2 hk (e1.trans hmn), e1, this.1, this.2⟩
    · by_cases hex : ∃ x ∈ l', x.name.toList = t.toList
      · obtain ⟨x, hx, hxe⟩ := hex
        have := flag_mono (kd := kd) (n := ⟨t, false, false⟩) (n' := x) (fun h => by cases h) (fun h => by cases h)
        exact ⟨_, (add_mem hx hu').2 hk hxe, hxe, this.1, this.2⟩
      · exact ⟨_, add_new hk (fun x hx he => hex ⟨x, hx, he⟩), rfl, id, id⟩
theorem sim_both {l l' : List Need} (h : Sim l l') (hb : l.any (fun n => n.num && n.text) = true) : l'.any (fun n => n.num && n.text) = true := by
  obtain ⟨n, hn, hf⟩ := List.any_eq_true.1 hb
  obtain ⟨n', hn', _, e2, e3⟩ := h.2.2 n hn
  rw [Bool.and_eq_true] at hf
  exact List.any_eq_true.2 ⟨n', hn', by rw [e2 hf.1, e3 hf.2]; rfl⟩

theorem add_cons {e : Need} {l : List Need} {kd : Int} {t : ByteArray} (h : ¬ e.name.toList = t.toList) : addN (e :: l) kd t = e :: addN l kd t := by
  unfold addN
  split
  · rfl
  · have hf : hasN t e = false := by
      cases hq : hasN t e
      · rfl
      · exact absurd ((hasN_iff t e).1 hq) h
    have hg : growN (e :: l) t = (e :: (growN l t).1, (growN l t).2 + 1) := by
      unfold growN
      rw [List.findIdx?_cons, hf]
      cases l.findIdx? (hasN t) with
      | none => rfl
      | some i => rfl
    rw [hg]
    rfl
/-- one more ahead, if its name is not asked for -/
theorem all_cons (e : Need) (f : Nat) (ms : List Nd) (h : ¬ e.name.toList ∈ namesOf (allN f [] ms)) : allN f [e] ms = e :: allN f [] ms := by
  have := allN_rel (R := fun l l' => e.name.toList ∈ namesOf l ∨ l' = e :: l) (fun l l' kd t hr => by
    rcases hr with hr | rfl
    · left
      rw [names_add]
      split
      · exact hr
      · split
        · exact hr
        · exact List.mem_append_left _ hr
    · by_cases hk : kd = 1 ∨ kd = 6
      · right
        unfold addN; rw [if_pos hk, if_pos hk]
      · by_cases he : e.name.toList = t.toList
        · left
          rw [names_add, if_neg hk, he]
          split
          · assumption
          · exact List.mem_append_right _ (List.mem_singleton.2 rfl)
        · exact .inr (add_cons he)) f ms [] [e] (.inr rfl)
  exact this.resolve_left h

/-- within a Select -/
def wrapS (name : ByteArray) (ms : List Nd) : List Nd := [.mk 5 name 0 [(otherS, ms)]]
theorem wrap_all (name : ByteArray) (f : Nat) (ms : List Nd) : allN (f + 1) [] (wrapS name ms) = allN f [⟨name, false, true⟩] ms := rfl

theorem runSz_fine {g : List Nd → Nat × Bool} {f : Nat} : ∀ (cs : List (ByteArray × List Nd)) (n : Nat), (∀ c ∈ cs, (g c.2).2 = false ∧ (g c.2).1 = cntP f c.2) → n + cntC f cs ≤ 60 → (runSz g n cs).2 = false
  | [], n, _, h => by unfold runSz; exact decide_eq_false (by simp [cntC] at h; omega)
  | c :: r, n, h, h2 => by
    obtain ⟨h3, h4⟩ := h c (List.mem_cons_self ..)
    rw [cntC_cons] at h2
    unfold runSz
    rw [h3, h4, decide_eq_false (by omega), if_neg (by decide)]
    exact runSz_fine r _ (fun d hd => h d (List.mem_cons_of_mem _ hd)) (by omega)
theorem size_up : ∀ (f : Nat) (ms : List Nd) (d : Nat), (sizeP f ms (d + 1)).2 = false → (sizeP f ms d).2 = false
  | 0, _, _, _ => rfl
  | f + 1, ms, d, h => by
    unfold sizeP at h ⊢
    split at h
    · cases h
    · rename_i hh
      rw [if_neg (by omega)]
      obtain ⟨_, h2, h3⟩ := runSz_cnt (f := f) (fun b hb => by
        cases f with
        | zero => rfl
        | succ f => exact (size_cnt (f + 1) b (d + 1 + 1) (fun h => by cases h) hb).1) (flatC ms) ms.length h
      refine runSz_fine (f := f) _ _ (fun c hc => ?_) h2
      have h4 := size_up f c.2 (d + 1) (h3 c hc)
      refine ⟨h4, ?_⟩
      cases f with
      | zero => rfl
      | succ f => exact (size_cnt (f + 1) c.2 (d + 1) (fun h => by cases h) h4).1

theorem wrap_size (name : ByteArray) (f : Nat) (ms : List Nd) (d : Nat) (hd : d < 6) : sizeP (f + 1) (wrapS name ms) d = if (sizeP f ms (d + 1)).2 || decide (60 < 1 + (sizeP f ms (d + 1)).1) then (1 + (sizeP f ms (d + 1)).1, true) else (1 + (sizeP f ms (d + 1)).1, decide (60 < 1 + (sizeP f ms (d + 1)).1)) := by
  conv => { lhs; unfold sizeP }
  rw [if_neg (by omega)]
  rfl
theorem key_other (kd : Int) : keyB kd otherS = true := by
  unfold keyB
  split
  · decide +kernel
  · rw [show Lib.containsS kinds6 otherS = true by rw [Lib.containsS_iff]; exact List.mem_of_getElem? (i := 5) rfl]
    rfl
theorem cases_other (g : List Nd → Bool → Int) (kd : Int) (mark : Bool) (ms : List Nd) : casesP g kd mark [] [(otherS, ms)] = g ms (mark || decide (kd = 4)) := by
  have h1 : Lib.containsS [] otherS = false := rfl
  have h2 : Lib.containsS [otherS] otherS = true := by rw [Lib.containsS_iff]; exact List.mem_singleton.2 rfl
  unfold casesP
  rw [if_pos (key_other kd)]
  simp only [h1, Bool.false_eq_true, if_false]
  split
  · rename_i h
    rw [h]
    unfold casesP
    rw [List.nil_append, if_pos h2]
  · rfl
theorem wrap_check (name : ByteArray) (f : Nat) (ms : List Nd) (mark : Bool) (h : checkP (f + 1) (wrapS name ms) mark = 0) : checkP f ms mark = 0 ∧ nameB name.data.toList = true := by
  have h1 : checkP (f + 1) (wrapS name ms) mark = if nodeP (checkP f) none (.mk 5 name 0 [(otherS, ms)]) mark = 0 then 0 else nodeP (checkP f) none (.mk 5 name 0 [(otherS, ms)]) mark := rfl
  have h2 : nodeP (checkP f) none (.mk 5 name 0 [(otherS, ms)]) mark = if nameB name.data.toList then casesP (checkP f) 5 mark [] [(otherS, ms)] else 3 := rfl
  rw [h1] at h
  have h3 : nodeP (checkP f) none (.mk 5 name 0 [(otherS, ms)]) mark = 0 := by
    split at h
    · assumption
    · exact h
  rw [h2] at h3
  split at h3
  · rename_i hn
    rw [cases_other] at h3
    have : (mark || decide ((5 : Int) = 4)) = mark := by simp
    rw [this] at h3
    exact ⟨h3, hn⟩
  · cases h3
theorem wrap_msg (name : ByteArray) (f : Nat) (ms : List Nd) (h : msgP (f + 1) (wrapS name ms) = 0) : msgP f ms = 0 := by
  unfold msgP at h ⊢
  split at h
  · cases h
  · rename_i hs
    have hs2 : (sizeP (f + 1) (wrapS name ms) 0).2 = false := by
      cases hq : (sizeP (f + 1) (wrapS name ms) 0).2
      · rfl
      · exact absurd hq hs
    rw [wrap_size _ _ _ _ (by decide)] at hs2
    have h1 : (sizeP f ms 1).2 = false := by
      split at hs2
      · cases hs2
      · rename_i hh
        cases hq : (sizeP f ms (0 + 1)).2
        · rfl
        · rw [hq] at hh; exact absurd rfl hh
    rw [size_up f ms 0 h1, if_neg (by decide)]
    exact (wrap_check name f ms false h).1
/-- a fault within is a fault without -/
theorem wrap_names (name : ByteArray) (f : Nat) (ms : List Nd) (h : ¬ namesP f ms = 0) : ¬ namesP (f + 1) (wrapS name ms) = 0 := by
  intro h0
  unfold namesP at h h0
  split at h0
  · rename_i hm
    rw [if_pos (wrap_msg name f ms hm)] at h
    split at h
    · rename_i hb
      have hs : Sim (allN f [] ms) (allN f [⟨name, false, true⟩] ms) := allN_rel (R := Sim) (fun l l' kd t hr => sim_add hr kd t) f ms [] _ ⟨List.nodup_nil, by simp [Uniq, namesOf], fun n hn => by cases hn⟩
      have := sim_both hs hb
      rw [wrap_all, if_pos this] at h0
      cases h0
    · exact h rfl
  · rename_i hm
    exact hm h0
end Go.Proofs.YthlcjlmaaaappaaGreatDoor

/- names.of, names.Of. -/
namespace Go.Proofs.YthlcjlmaaaappaaGreatDoor
open Go.RowKit

def bothN (n : Need) : Bool := n.num && n.text
theorem of_is (n : Need) (w : World) :
    Calls Tryz.prog 92 #[.agg #[.string n.name, .bool n.num, .bool n.text]] w fun e w' => e = .returned (.bool (bothN n)) ∧ Below w.heap.size w w' := by
  obtain ⟨t, a, b⟩ := n
  cases a
  · have HD : Hid (bothN ⟨t, false, b⟩ = false) := Lib.hid rfl
    simp only
    go_enter Tryz.func92, Tryz.ntmps92
    go_wp2_with fail
    go_ret
    exact ⟨ret_bool HD.out.symm, (by (repeat (first | with_reducible exact Below.refl _ _ | with_reducible refine bel_set ?_ ?_ | with_reducible refine bel_alloc ?_ ?_ | with_reducible refine Below.drew ?_ | with_reducible refine bel_drewN _ ?_ | with_reducible refine bel_call ?_ (by assumption) ?_)); all_goals (first | (simp; done) | omega | (simp; omega)))⟩
  · have HD : Hid (bothN ⟨t, true, b⟩ = b) := Lib.hid rfl
    simp only
    go_enter Tryz.func92, Tryz.ntmps92
    go_wp2_with fail
    go_ret
    exact ⟨ret_bool HD.out.symm, (by (repeat (first | with_reducible exact Below.refl _ _ | with_reducible refine bel_set ?_ ?_ | with_reducible refine bel_alloc ?_ ?_ | with_reducible refine Below.drew ?_ | with_reducible refine bel_drewN _ ?_ | with_reducible refine bel_call ?_ (by assumption) ?_)); all_goals (first | (simp; done) | omega | (simp; omega)))⟩

set_option maxHeartbeats 1000000 in
theorem index_both (A : Option Addr) (c : Nat) (l : List Need) (w : World) (hL : NeedsIn w A l) (hc : l.length ≤ c) (hc2 : c ≤ 9223372036854775807) :
    Calls Tryz.prog 119 #[.slice A l.length c, .func (Fn.func 92) #[] #[]] w fun e w' => (∃ i : Int, e = .returned (.int .i64 i) ∧ decide (0 ≤ i) = l.any bothN) ∧ Below w.heap.size w w' := by
  have HL := Lib.hid hL
  clear hL
  go_enter Tryz.func119, Tryz.ntmps119
  go_wp2_with fail
  go_loopw [8] (fun i wr => ∃ k : Nat, k ≤ l.length ∧ i = .int .i64 k ∧ Hid (∀ y ∈ l.take k, bothN y = false) ∧ Hid (Below w.heap.size w wr)) (fun i _ => l.length - (intOf i).toNat)
  case atStart => exact ⟨0, Nat.zero_le _, rfl, Lib.hid (by simp), Lib.hid (Below.refl _ _)⟩
  case round =>
    obtain ⟨k, hk, rfl, HF, HB⟩ := hrel
    by_cases hlt : k < l.length
    · obtain ⟨b, o, rfl, hat⟩ := (HL.out.below HB.out).at (by omega)
      obtain ⟨x, hx⟩ : ∃ x, l[k]? = some x := ⟨l[k], List.getElem?_eq_getElem hlt⟩
      obtain ⟨n0, n1, n2⟩ := hat k x hx
      have sB := HB.out.size
      have i0 : (0 : Int) ≤ (k : Int) := by omega
      have i1 : (k : Int) < (l.length : Int) := by omega
      have i2 : (k : Int) ≤ (c : Int) := by omega
      have e1 : IntKind.i64.wrap ((k : Int) + 1) = (k : Int) + 1 := IntWalk.i64_in _ (by omega)
      have K := Lib.hid (of_is x wr)
      have HX := Lib.hid hx
      clear hat hx
      cases hq : bothN x
      · rw [hq] at K
        have HF2 : Hid (∀ y ∈ l.take (k + 1), bothN y = false) := Lib.hid fun y hy => by
          rw [List.take_add_one, HX.out, Option.toList_some, List.mem_append, List.mem_singleton] at hy
          rcases hy with hy | rfl
          · exact HF.out y hy
          · exact hq
        clear hq
        go_wp2_with fail
        refine K.out.mono ?_
        rintro e w1 ⟨rfl, hb1⟩
        have HB1 := Lib.hid (HB.out.trans (hb1.mono sB))
        clear hb1
        go_wp2_with fail
        go_roundw
        case rel => exact ⟨k + 1, by omega, by go_num, HF2, HB1⟩
        case measure => simp [intOf]; omega
      · rw [hq] at K
        have HD : Hid (l.any bothN = true) := Lib.hid (List.any_eq_true.2 ⟨x, List.mem_of_getElem? HX.out, hq⟩)
        clear hq
        go_wp2_with fail
        refine K.out.mono ?_
        rintro e w1 ⟨rfl, hb1⟩
        have HB1 := Lib.hid (HB.out.trans (hb1.mono sB))
        clear hb1
        go_wp2_with fail
        go_ret
        refine ⟨⟨(k : Int), rfl, ?_⟩, HB1.out⟩
        rw [HD.out]
        exact decide_eq_true (by omega)
    · obtain rfl : k = l.length := by omega
      have HD : Hid (l.any bothN = false) := Lib.hid (by
        rw [List.any_eq_false]
        intro x hx
        have := HF.out x (by rw [List.take_length]; exact hx)
        rw [this]; decide)
      go_wp2_with fail
      go_ret
      refine ⟨⟨-1, rfl, ?_⟩, HB.out⟩
      rw [HD.out]
      rfl
theorem any_both (A : Option Addr) (c : Nat) (l : List Need) (w : World) (hL : NeedsIn w A l) (hc : l.length ≤ c) (hc2 : c ≤ 9223372036854775807) :
    Calls Tryz.prog 91 #[.slice A l.length c, .func (Fn.func 92) #[] #[]] w fun e w' => e = .returned (.bool (l.any bothN)) ∧ Below w.heap.size w w' := by
  have K := Lib.hid (index_both A c l w hL hc hc2)
  clear hL
  generalize l.any bothN = T at *
  go_enter Tryz.func91, Tryz.ntmps91
  go_wp2_with fail
  refine K.out.mono ?_
  rintro e w1 ⟨⟨i, rfl, hi⟩, hb1⟩
  have HI := Lib.hid hi
  clear hi
  go_wp2_with fail
  go_ret
  exact ⟨ret_bool HI.out, hb1⟩

/-- names.of where nothing is wrong -/
theorem names_of_ok (f : Nat) (v : Value) (ms : List Nd) (w : World) (hE : RuleEnv w) (hK : MKinds w) (hN : NodesIn f w v ms) (h : namesP f ms = 0) :
    Calls Tryz.prog 59 #[v] w fun e w' => (∃ A c, e = .returned (.tuple #[.slice A (allN f [] ms).length c, .nilIface]) ∧ (allN f [] ms).length ≤ c ∧ c ≤ 9223372036854775807 ∧ NeedsIn w' A (allN f [] ms)) ∧ Below w.heap.size w w' := by
  have hm : msgP f ms = 0 := by
    unfold namesP at h
    split at h
    · rename_i h1; exact h1
    · exact h
  have hany : (allN f [] ms).any bothN = false := by
    unfold namesP at h
    rw [if_pos hm] at h
    cases hq : (allN f [] ms).any bothN
    · rfl
    · rw [show (allN f [] ms).any (fun n => n.num && n.text) = true from hq] at h
      cases h
  have KM := Lib.hid (msg_any f v ms w hE hK hN)
  rw [hm] at KM
  have hcnt := (msg_small hm).1
  have HNK := Lib.hid (fun (W : World) (p : Nat) (sv : Value) (hb : Below w.heap.size w W) (hp : w.heap.size ≤ p) (hA : NeedsAt W p w.heap.size [] sv) => need_all w p w.heap.size hp (Nat.le_refl _) f v ms [] sv W hN hb hA hb.size (by simp; omega))
  obtain ⟨A, c, rfl, _, _, _⟩ := hN.form
  have E0 : Hid (errOf 0 = .nilIface) := Lib.hid rfl
  rw [E0.out] at KM
  have HANY := Lib.hid hany
  clear hE hK hN h hm hcnt hany
  generalize allN f [] ms = L at *
  go_enter Tryz.func59, Tryz.ntmps59
  go_wp2_with fail
  refine KM.out.mono ?_
  rintro e w1 ⟨rfl, hb1⟩
  have s1 := hb1.size
  have HB1 := Lib.hid hb1
  clear hb1
  go_wp2_with fail
  have hb2 : Below w.heap.size w (w1.alloc (.cells #[.slice none 0 0] 120)) := HB1.out.alloc s1 _
  have hA : NeedsAt (w1.alloc (.cells #[.slice none 0 0] 120)) w1.heap.size w.heap.size [] (.slice none 0 0) := ⟨by go_simp, by go_simp, OwnsG.nil _ _, by simp [Value.ownBlock]⟩
  refine (HNK.out _ w1.heap.size _ hb2 s1 hA).mono ?_
  rintro e w2 ⟨rfl, hT⟩
  have HB2 := Lib.hid (hb2.trans (hT.toBelow hA s1 (Nat.le_refl _) hb2.size))
  obtain ⟨sv, ⟨p0, p1, hO, _⟩, _, _⟩ := hT
  obtain ⟨A2, c2, rfl, g1, g2, hin⟩ := needs_of hO
  have KA := Lib.hid (any_both A2 c2 L w2 hin g1 g2)
  rw [HANY.out] at KA
  have HIN := Lib.hid hin
  have P0 := Lib.hid p0
  clear hb2 hA hO hin p1
  go_wp2_with fail
  refine KA.out.mono ?_
  rintro e w3 ⟨rfl, hb3⟩
  have s2 := HB2.out.size
  have HB3 := Lib.hid (HB2.out.trans (hb3.mono s2))
  have q0 := carry hb3 P0.out
  have HIN3 := Lib.hid (HIN.out.below hb3)
  clear hb3 p0
  go_wp2_with fail
  go_ret2
  exact ⟨⟨A2, c2, rfl, g1, g2, HIN3.out⟩, HB3.out⟩
/-- names.of where something is wrong -/
theorem names_of_no (f : Nat) (v : Value) (ms : List Nd) (w : World) (hE : RuleEnv w) (hK : MKinds w) (hN : NodesIn f w v ms) (h : ¬ namesP f ms = 0) :
    Calls Tryz.prog 59 #[v] w fun e w' => e = .returned (.tuple #[.slice none 0 0, errT (namesP f ms)]) ∧ Below w.heap.size w w' := by
  have KM := Lib.hid (msg_any f v ms w hE hK hN)
  by_cases hm : msgP f ms = 0
  · rw [hm] at KM
    have hany : (allN f [] ms).any bothN = true := by
      unfold namesP at h
      rw [if_pos hm] at h
      cases hq : (allN f [] ms).any bothN
      · rw [show (allN f [] ms).any (fun n => n.num && n.text) = false from hq] at h
        exact absurd rfl h
      · rfl
    have h7 : namesP f ms = 7 := by
      unfold namesP
      rw [if_pos hm, show (allN f [] ms).any (fun n => n.num && n.text) = true from hany]
      rfl
    rw [h7]
    have hcnt := (msg_small hm).1
    have HNK := Lib.hid (fun (W : World) (p : Nat) (sv : Value) (hb : Below w.heap.size w W) (hp : w.heap.size ≤ p) (hA : NeedsAt W p w.heap.size [] sv) => need_all w p w.heap.size hp (Nat.le_refl _) f v ms [] sv W hN hb hA hb.size (by simp; omega))
    obtain ⟨A, c, rfl, _, _, _⟩ := hN.form
    have E0 : Hid (errOf 0 = .nilIface) := Lib.hid rfl
    rw [E0.out] at KM
    have HANY := Lib.hid hany
    clear hE hK hN h hm hcnt hany h7
    generalize allN f [] ms = L at *
    go_enter Tryz.func59, Tryz.ntmps59
    go_wp2_with fail
    refine KM.out.mono ?_
    rintro e w1 ⟨rfl, hb1⟩
    have s1 := hb1.size
    have HB1 := Lib.hid hb1
    clear hb1
    go_wp2_with fail
    have hb2 : Below w.heap.size w (w1.alloc (.cells #[.slice none 0 0] 120)) := HB1.out.alloc s1 _
    have hA : NeedsAt (w1.alloc (.cells #[.slice none 0 0] 120)) w1.heap.size w.heap.size [] (.slice none 0 0) := ⟨by go_simp, by go_simp, OwnsG.nil _ _, by simp [Value.ownBlock]⟩
    refine (HNK.out _ w1.heap.size _ hb2 s1 hA).mono ?_
    rintro e w2 ⟨rfl, hT⟩
    have HB2 := Lib.hid (hb2.trans (hT.toBelow hA s1 (Nat.le_refl _) hb2.size))
    obtain ⟨sv, ⟨p0, p1, hO, _⟩, _, _⟩ := hT
    obtain ⟨A2, c2, rfl, g1, g2, hin⟩ := needs_of hO
    have KA := Lib.hid (any_both A2 c2 L w2 hin g1 g2)
    rw [HANY.out] at KA
    clear hb2 hA hO hin p1
    go_wp2_with fail
    refine KA.out.mono ?_
    rintro e w3 ⟨rfl, hb3⟩
    have s2 := HB2.out.size
    have HB3 := Lib.hid (HB2.out.trans (hb3.mono s2))
    clear hb3 p0
    go_wp2_with fail
    go_ret2
    exact ⟨rfl, HB3.out⟩
  · have hnp : namesP f ms = msgP f ms := if_neg hm
    rw [hnp]
    have E0 : errOf (msgP f ms) = errT (msgP f ms) := if_neg hm
    rw [E0] at KM
    obtain ⟨A, c, rfl, _, _, _⟩ := hN.form
    clear hE hK hN h hm hnp E0
    generalize msgP f ms = E at *
    go_enter Tryz.func59, Tryz.ntmps59
    go_wp2_with fail
    refine KM.out.mono ?_
    rintro e w1 ⟨rfl, hb1⟩
    go_wp2_with fail
    go_ret2
    exact ⟨rfl, hb1⟩
end Go.Proofs.YthlcjlmaaaappaaGreatDoor

/- Blocks and their types: what keeps a row apart from another one. -/
namespace Go.Proofs.YthlcjlmaaaappaaGreatDoor
open Go.RowKit

/-- block b holds things of type t -/
def TyAt (w : World) (b : Nat) (t : TypeId) : Prop := ∃ cur, w.heap[b]? = some (.cells cur t (0, 0))
theorem TyAt.lt {w : World} {b : Nat} {t : TypeId} (h : TyAt w b t) : b < w.heap.size := by
  obtain ⟨cur, h⟩ := h
  exact (Array.getElem?_eq_some_iff.1 h).1
theorem TyAt.off {w w' : World} {b : Nat} {t : TypeId} {m : List Nat} (h : TyAt w b t) (hm : Off m w w') (hb : b ∉ m) : TyAt w' b t := by
  have hl := h.lt
  obtain ⟨cur, h⟩ := h
  exact ⟨cur, (hm.block b hl hb).trans h⟩
theorem TyAt.below {w w' : World} {b : Nat} {t : TypeId} (h : TyAt w b t) (hb : Below w.heap.size w w') : TyAt w' b t := by
  have hl := h.lt
  obtain ⟨cur, h⟩ := h
  exact ⟨cur, (hb.block b hl).trans h⟩
theorem TyAt.set {w : World} {b : Nat} {t : TypeId} (h : TyAt w b t) (g j : Nat) (u : Value) : TyAt (w.setCell ⟨g, j, none⟩ u) b t := by
  have hl := h.lt
  obtain ⟨cur, h⟩ := h
  by_cases e : b = g
  · subst e
    exact ⟨_, heap_setCell_same w b j cur t u h⟩
  · exact ⟨cur, (heap_setCell_other w ⟨g, j, none⟩ b u (fun e' => e (by simpa using e'))).trans h⟩
theorem TyAt.new (w : World) (cur : Array Value) (t : TypeId) : TyAt (w.alloc (.cells cur t)) w.heap.size t := ⟨cur, Go.heap_alloc_new w _⟩
theorem TyAt.frozen {w : World} {b : Nat} {t : TypeId} (h : TyAt w b t) (j : Nat) : w.frozen? ⟨b, j, none⟩ = false := by
  obtain ⟨cur, h⟩ := h
  exact frozen_of_row w b j cur t h
theorem TyAt.not {α : Type} {k : Kind α} {w : World} {b base : Nat} {t : TypeId} {v : Value} {ts : List α} (h : TyAt w b t) (ho : OwnsG k w base v ts) (ht : t ≠ k.e) : b ∉ v.ownBlock.toList := by
  intro hm
  obtain ⟨cur, h⟩ := h
  obtain ⟨_, cur', h'⟩ := ho.block b hm
  rw [h] at h'
  injection h' with h'
  injection h' with _ h2 _
  exact ht h2
theorem TyAt.ne {w : World} {b b' : Nat} {t t' : TypeId} (h : TyAt w b t) (h' : TyAt w b' t') (ht : t ≠ t') : b ≠ b' := by
  rintro rfl
  obtain ⟨cur, h⟩ := h
  obtain ⟨cur', h'⟩ := h'
  rw [h] at h'
  injection h' with h'
  injection h' with _ h2 _
  exact ht h2
theorem OwnsG.ty {α : Type} {k : Kind α} {w : World} {base : Nat} {v : Value} {ts : List α} (h : OwnsG k w base v ts) : ∀ g ∈ v.ownBlock.toList, TyAt w g k.e := fun g hg => (h.block g hg).2
/-- rows of unlike types lie apart -/
theorem OwnsG.apart {α β : Type} {k : Kind α} {k' : Kind β} {w : World} {base base' : Nat} {v v' : Value} {ts : List α} {ts' : List β} (h : OwnsG k w base v ts) (h' : OwnsG k' w base' v' ts') (ht : k.e ≠ k'.e) : ∀ g, v.ownBlock = some g → g ∉ v'.ownBlock.toList :=
  fun g hg => (h.ty g (by simp [hg])).not h' ht
end Go.Proofs.YthlcjlmaaaappaaGreatDoor
