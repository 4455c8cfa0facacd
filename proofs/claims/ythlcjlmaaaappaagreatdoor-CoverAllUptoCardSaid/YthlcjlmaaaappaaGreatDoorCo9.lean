/- NeedAll, TyAt: texts put together. -/
import Derived.Test.YthlcjlmaaaappaaGreatDoorCo7
import Derived.Test.YthlcjlmaaaappaaGreatDoorCo8
import Derived.Test.YthlcjlmaaaappaaGreatDoorCo2
import Derived.Laws.Rows
set_option linter.unusedVariables false
set_option linter.unusedSimpArgs false
/- names' all; how many nodes msg.size tells. -/
namespace Go.Proofs.YthlcjlmaaaappaaGreatDoor
open Go.RowKit

theorem Off.trans2 {l m : List Nat} {a b c : World} (h : Off l a b) (k : Off m b c) (hm : ∀ i ∈ m, i ∈ l ∨ a.heap.size ≤ i) : Off l a c :=
  ⟨k.os.trans h.os, k.tape.trans h.tape, k.output.trans h.output, Nat.le_trans h.size k.size, fun i hi hl => (k.block i (Nat.lt_of_lt_of_le hi h.size) (fun hmi => by
    rcases hm i hmi with h1 | h1
    · exact hl h1
    · omega)).trans (h.block i hi hl)⟩
theorem NeedTo.trans {w w1 w2 : World} {p base : Nat} {sv sv1 : Value} {l : List Need} (hf : Fresh w sv sv1) (ho : Off (p :: sv.ownBlock.toList) w w1) (k : NeedTo w1 w2 p base sv1 l) : NeedTo w w2 p base sv l := by
  obtain ⟨sv2, h1, h2, h3⟩ := k
  refine ⟨sv2, h1, hf.trans h2 ho.size, ho.trans2 h3 fun i hi => ?_⟩
  rcases List.mem_cons.1 hi with rfl | hi
  · exact .inl (List.mem_cons_self ..)
  · rcases hf i hi with h | h
    · exact .inl (List.mem_cons_of_mem _ h)
    · exact .inr h
theorem NeedTo.below {w w1 w2 : World} {p base : Nat} {sv : Value} {l : List Need} (h : NeedTo w w1 p base sv l) (hb : Below w1.heap.size w1 w2) : NeedTo w w2 p base sv l := by
  obtain ⟨sv1, h1, h2, h3⟩ := h
  exact ⟨sv1, h1.below hb, h2, h3.below hb h3.size⟩
theorem NeedTo.start {w w1 w2 : World} {p base : Nat} {sv : Value} {l : List Need} (hb : Below w.heap.size w w1) (h : NeedTo w1 w2 p base sv l) : NeedTo w w2 p base sv l :=
  NeedTo.trans (Fresh.refl _ _) ((Off.refl _ _).below hb (Nat.le_refl _)) h
theorem NeedTo.from {w w1 w2 : World} {p base : Nat} {sv : Value} {l l1 : List Need} (h : NeedTo w w1 p base sv l1) (k : ∀ sv1, NeedsAt w1 p base l1 sv1 → NeedTo w1 w2 p base sv1 l) : NeedTo w w2 p base sv l := by
  obtain ⟨sv1, h1, h2, h3⟩ := h
  exact NeedTo.trans h2 h3 (k sv1 h1)
theorem NeedTo.toBelow {w w1 : World} {p base B : Nat} {sv : Value} {l l0 : List Need} (h : NeedTo w w1 p base sv l) (h0 : NeedsAt w p base l0 sv) (hp : B ≤ p) (hb : B ≤ base) (hw : B ≤ w.heap.size) : Below B w w1 := by
  obtain ⟨sv1, h1, h2, h3⟩ := h
  refine h3.toBelow (fun k hk => ?_) hw
  rcases List.mem_cons.1 hk with rfl | hk
  · exact hp
  · have := (h0.2.2.1.block k hk).1; omega

def foldC (f : Nat) (l : List Need) (cs : List (ByteArray × List Nd)) : List Need := cs.foldl (fun l c => allN f l c.2) l
def foldM (f : Nat) (l : List Need) (ms : List Nd) : List Need := ms.foldl (fun l x => foldC f (addN l x.kd x.t) (casesOf x)) l
theorem allN_succ (f : Nat) (l : List Need) (ms : List Nd) : allN (f + 1) l ms = foldM f l ms := rfl
def cntC (f : Nat) (cs : List (ByteArray × List Nd)) : Nat := (cs.map fun c => cntP f c.2).sum
theorem cntP_succ (f : Nat) (ms : List Nd) : cntP (f + 1) ms = ms.length + cntC f (flatC ms) := rfl
theorem cntC_append (f : Nat) (a b : List (ByteArray × List Nd)) : cntC f (a ++ b) = cntC f a + cntC f b := by unfold cntC; rw [List.map_append, List.sum_append]
theorem cntC_cons (f : Nat) (c : ByteArray × List Nd) (r : List (ByteArray × List Nd)) : cntC f (c :: r) = cntP f c.2 + cntC f r := by unfold cntC; rw [List.map_cons, List.sum_cons]
theorem allN_length : ∀ (f : Nat) (l : List Need) (ms : List Nd), (allN f l ms).length ≤ l.length + cntP f ms
  | 0, l, ms => by unfold allN; omega
  | f + 1, l, ms => by
    have hC : ∀ (cs : List (ByteArray × List Nd)) (l : List Need), (foldC f l cs).length ≤ l.length + cntC f cs := by
      intro cs
      induction cs with
      | nil => intro l; exact Nat.le_add_right _ _
      | cons c r ih =>
        intro l
        have h1 := allN_length f l c.2
        have h2 := ih (allN f l c.2)
        rw [cntC_cons]
        show (foldC f (allN f l c.2) r).length ≤ _
        omega
    rw [allN_succ, cntP_succ]
    have hM : ∀ (ms : List Nd) (l : List Need), (foldM f l ms).length ≤ l.length + (ms.length + cntC f (flatC ms)) := by
      intro ms
      induction ms with
      | nil => intro l; exact Nat.le_add_right _ _
      | cons x r ih =>
        intro l
        have h1 := hC (casesOf x) (addN l x.kd x.t)
        have h2 := addN_length l x.kd x.t
        have h3 := ih (foldC f (addN l x.kd x.t) (casesOf x))
        rw [flat_cons, cntC_append, List.length_cons]
        show (foldM f (foldC f (addN l x.kd x.t) (casesOf x)) r).length ≤ _
        omega
    exact hM ms l

/-- what msg.size tells of a message that is not too large -/
theorem runSz_cnt {g : List Nd → Nat × Bool} {f : Nat} (hg : ∀ b, (g b).2 = false → (g b).1 = cntP f b) : ∀ (cs : List (ByteArray × List Nd)) (n : Nat), (runSz g n cs).2 = false → (runSz g n cs).1 = n + cntC f cs ∧ n + cntC f cs ≤ 60 ∧ ∀ c ∈ cs, (g c.2).2 = false
  | [], n, h => by
    unfold runSz at h ⊢
    have : ¬ 60 < n := of_decide_eq_false h
    exact ⟨by simp [cntC], by simp [cntC]; omega, by simp⟩
  | c :: r, n, h => by
    unfold runSz at h ⊢
    split at h
    · cases h
    · rename_i hh
      rw [if_neg hh]
      have h0 : (g c.2).2 = false := by
        cases hq : (g c.2).2
        · rfl
        · exact absurd (by rw [hq]; rfl) hh
      obtain ⟨h1, h2, h3⟩ := runSz_cnt hg r _ h
      have h4 := hg c.2 h0
      rw [cntC_cons]
      refine ⟨by rw [h1, h4]; omega, by omega, fun d hd => ?_⟩
      rcases List.mem_cons.1 hd with rfl | hd
      · exact h0
      · exact h3 d hd
theorem size_cnt : ∀ (f : Nat) (ms : List Nd) (deep : Nat), (f = 0 → ms = []) → (sizeP f ms deep).2 = false → (sizeP f ms deep).1 = cntP f ms ∧ cntP f ms ≤ 60
  | 0, ms, deep, _, _ => ⟨rfl, Nat.zero_le _⟩
  | f + 1, ms, deep, _, h => by
    unfold sizeP at h ⊢
    split at h
    · cases h
    · rename_i hh
      rw [if_neg hh]
      obtain ⟨h1, h2, _⟩ := runSz_cnt (f := f) (fun b hb => by
        cases f with
        | zero => rfl
        | succ f => exact (size_cnt (f + 1) b (deep + 1) (fun h => by cases h) hb).1) (flatC ms) ms.length h
      exact ⟨h1, h2⟩
theorem msg_small {f : Nat} {ms : List Nd} (h : msgP f ms = 0) : cntP f ms ≤ 60 ∧ checkP f ms false = 0 := by
  unfold msgP at h
  cases hq : (sizeP f ms 0).2
  · rw [hq] at h
    rw [if_neg (by decide)] at h
    cases f with
    | zero => exact ⟨Nat.zero_le _, h⟩
    | succ f => exact ⟨(size_cnt (f + 1) ms 0 (fun h => by cases h) hq).2, h⟩
  · rw [hq, if_pos rfl] at h
    cases h

set_option maxHeartbeats 4000000 in
theorem need_all (W0 : World) (p base : Nat) (hp : W0.heap.size ≤ p) (hbase : W0.heap.size ≤ base) (f : Nat) : ∀ (v : Value) (ms : List Nd) (l : List Need) (sv : Value) (w : World), NodesIn f W0 v ms → Below W0.heap.size W0 w → NeedsAt w p base l sv → base ≤ w.heap.size → l.length + cntP f ms ≤ 1000000 →
      Calls Tryz.prog 90 #[.pointer (some ⟨p, 0, none⟩), v] w fun e w' => e = .returned (.tuple #[]) ∧ NeedTo w w' p base sv (allN f l ms) := by
  induction f with
  | zero =>
    intro v ms l sv w h hb hA hbw _
    obtain ⟨rfl, A, c, rfl, hc⟩ := h
    have HE : Hid (NeedTo w w p base sv (allN 0 l [])) := Lib.hid ⟨sv, hA, Fresh.refl _ _, Off.refl _ _⟩
    clear hA
    go_enter Tryz.func90, Tryz.ntmps90
    go_wp2_with fail
    go_loopw [10] (fun i wr => i = .int .i64 0 ∧ w = wr) (fun _ _ => 0)
    case atStart => exact ⟨rfl, rfl⟩
    case round =>
      obtain ⟨rfl, rfl⟩ := hrel
      go_wp2_with fail
      exact bodyPost_end (results_none rfl _ _ _) rfl ⟨rfl, HE.out⟩
  | succ f ih =>
    intro v ms l sv w hN hb hA hbw hcnt
    obtain ⟨A, c, rfl, hc, hc2, hl⟩ := hN.form
    have HN := Lib.hid hN
    have HB := Lib.hid hb
    have HA := Lib.hid hA
    have IH := Lib.hid ih
    rw [cntP_succ] at hcnt
    have HX : Hid (foldM f l (ms.drop 0) = allN (f + 1) l ms) := Lib.hid rfl
    generalize allN (f + 1) l ms = R at *
    have HS : Hid (NeedTo w w p base sv l) := Lib.hid ⟨sv, hA, Fresh.refl _ _, Off.refl _ _⟩
    have HCN : Hid (l.length + (ms.drop 0).length + cntC f (flatC (ms.drop 0)) ≤ 1000000) := Lib.hid (by rw [List.drop_zero]; omega)
    clear hN hb hA ih hcnt
    go_enter Tryz.func90, Tryz.ntmps90
    go_wp2_with fail
    go_loopw [10] (fun i wr => ∃ (k : Nat) (l' : List Need), k ≤ ms.length ∧ i = .int .i64 k ∧ Hid (NeedTo w wr p base sv l') ∧ Hid (foldM f l' (ms.drop k) = R) ∧ Hid (l'.length + (ms.drop k).length + cntC f (flatC (ms.drop k)) ≤ 1000000)) (fun i _ => ms.length - (intOf i).toNat)
    case atStart => exact ⟨0, l, Nat.zero_le _, rfl, HS, HX, HCN⟩
    case round =>
      obtain ⟨k, l', hk, rfl, HT, HR, HL⟩ := hrel
      by_cases hlt : k < ms.length
      · have hbr : Below W0.heap.size w _ := HT.out.toBelow HA.out hp hbase HB.out.size
        have hb0 := HB.out.trans hbr
        have HB1 := Lib.hid hb0
        obtain ⟨b, o, rfl, hat⟩ := HN.out.at (by omega)
        obtain ⟨x, hx⟩ : ∃ x, ms[k]? = some x := ⟨ms[k], List.getElem?_eq_getElem hlt⟩
        obtain ⟨A2, cc, x1, x2, x3, hC, n0, n1, n2, n3⟩ := (hat k x hx).cells
        replace n0 := carry hb0 n0
        replace n1 := carry hb0 n1
        replace n2 := carry hb0 n2
        replace n3 := carry hb0 n3
        obtain ⟨sv1, hA1, hF1, hO1⟩ := HT.out
        have sW := hO1.size
        have HF1 := Lib.hid hF1
        have HO1 := Lib.hid hO1
        have hst : foldM f l' (ms.drop k) = foldM f (foldC f (addN l' x.kd x.t) (casesOf x)) (ms.drop (k + 1)) := by rw [drop_at hx]; rfl
        rw [HR.out] at hst
        have hcn := HL.out
        have hadd := addN_length l' x.kd x.t
        rw [flat_drop hx, cntC_append, List.length_drop] at hcn
        have hb2 : Below wr.heap.size wr (wr.alloc (.cells #[.int .i64 x.kd, .string x.t, .int .i64 x.off, .slice A2 x.cs.length cc] 30)) := (Below.refl _ _).alloc (Nat.le_refl _) _
        have hA2 := hA1.below hb2
        have sb2 := hb2.size
        have K := Lib.hid (need_add p base x.kd x.off x.t A2 x.cs.length cc l' sv1 _ hA2 (by omega) (by omega))
        have HB2 := Lib.hid hb2
        have hnp : wr.heap.size ∉ p :: sv1.ownBlock.toList := fun hm => by
          rcases List.mem_cons.1 hm with e | hm
          · have := lt_of_cell hA1.1; omega
          · obtain ⟨_, cur, hc⟩ := hA1.2.2.1.block _ hm
            have := (Array.getElem?_eq_some_iff.1 hc).1
            omega
        have HNP := Lib.hid hnp
        have HA2 := Lib.hid hA2
        have HC := Lib.hid hC
        have HST := Lib.hid hst
        have HCN : Hid ((addN l' x.kd x.t).length + cntC f (casesOf x) + (ms.length - (k + 1)) + cntC f (flatC (ms.drop (k + 1))) ≤ 1000000) := Lib.hid (by omega)
        have i0 : (0 : Int) ≤ (k : Int) := by omega
        have i1 : (k : Int) < (ms.length : Int) := by omega
        have i2 : (k : Int) ≤ (c : Int) := by omega
        have e1 : IntKind.i64.wrap ((k : Int) + 1) = (k : Int) + 1 := IntWalk.i64_in _ (by omega)
        clear hbr hb0 hat hx hC hA1 hF1 hO1 hst hcn hadd hb2 hA2 sb2 hnp HR HL
        generalize addN l' x.kd x.t = l1 at *
        go_wp2_with fail
        refine K.out.mono ?_
        rintro e w2 ⟨rfl, hT2⟩
        have hO2 : Off (p :: sv1.ownBlock.toList) _ w2 := hT2.choose_spec.2.2
        have m0 := hO2.cell (show World.cell? _ ⟨wr.heap.size, 0, none⟩ = some (.int .i64 x.kd) by go_simp) HNP.out
        have m1 := hO2.cell (show World.cell? _ ⟨wr.heap.size, 1, none⟩ = some (.string x.t) by go_simp) HNP.out
        have m2 := hO2.cell (show World.cell? _ ⟨wr.heap.size, 2, none⟩ = some (.int .i64 x.off) by go_simp) HNP.out
        have m3 := hO2.cell (show World.cell? _ ⟨wr.heap.size, 3, none⟩ = some (.slice A2 x.cs.length cc) by go_simp) HNP.out
        have HT2 : Hid (NeedTo w w2 p base sv l1) := Lib.hid (NeedTo.trans HF1.out (HO1.out.below HB2.out sW) hT2)
        clear hT2 hO2 n0 n1 n2 n3 HA2 K
        go_wp2_with fail
        refine (cases_any (P := NodesIn f W0) W0 x A2 x.cs.length cc _ HC.out).mono ?_
        rintro e w3 ⟨A3, d3, rfl, y1, y2, y3, hC3, hb3⟩
        have HT3 := Lib.hid (HT2.out.below hb3)
        have HC3 := Lib.hid hC3
        generalize casesOf x = cs at *
        clear hb3 hC3 m0 m1 m2 m3 HC HT2
        go_wp2_with fail
        go_loopw [20] (fun i wi => ∃ (j : Nat) (l' : List Need), j ≤ cs.length ∧ i = .int .i64 j ∧ Hid (NeedTo w wi p base sv l') ∧ Hid (foldM f (foldC f l' (cs.drop j)) (ms.drop (k + 1)) = R) ∧ Hid (l'.length + cntC f (cs.drop j) + (ms.length - (k + 1)) + cntC f (flatC (ms.drop (k + 1))) ≤ 1000000)) (fun i _ => cs.length - (intOf i).toNat)
        case atStart => exact ⟨0, l1, Nat.zero_le _, rfl, HT3, Lib.hid HST.out.symm, HCN⟩
        case round =>
          obtain ⟨j, l2, hj, rfl, HT4, HR4, HL4⟩ := hrel
          by_cases hjt : j < cs.length
          · have hbr : Below W0.heap.size w _ := HT4.out.toBelow HA.out hp hbase HB.out.size
            have hb0 := HB.out.trans hbr
            obtain ⟨b2, o2, rfl, hcell⟩ := HC3.out.at (by omega)
            obtain ⟨xb, hx⟩ : ∃ x, cs[j]? = some x := ⟨cs[j], List.getElem?_eq_getElem hjt⟩
            obtain ⟨hxz, c0, vb, c1, hvb⟩ := hcell j xb hx
            obtain ⟨xk, body⟩ := xb
            simp only at c0 c1 hxz hvb
            obtain ⟨A4, d4, rfl, b1, b2, b3⟩ := hvb.form
            replace c0 := carry hb0 c0
            replace c1 := carry hb0 c1
            obtain ⟨sv4, hA4, hF4, hO4⟩ := HT4.out
            have sW4 := hO4.size
            have HF4 := Lib.hid hF4
            have HO4 := Lib.hid hO4
            have hst : foldC f l2 (cs.drop j) = foldC f (allN f l2 body) (cs.drop (j + 1)) := by rw [drop_at hx]; rfl
            have HST4 : Hid (foldM f (foldC f (allN f l2 body) (cs.drop (j + 1))) (ms.drop (k + 1)) = R) := Lib.hid (by rw [← hst]; exact HR4.out)
            have hcn := HL4.out
            have hadd := allN_length f l2 body
            rw [drop_at hx, cntC_cons] at hcn
            simp only at hcn
            have hb5 : Below wr.heap.size wr (wr.alloc (.cells #[.string xk, .slice A4 body.length d4] 33)) := (Below.refl _ _).alloc (Nat.le_refl _) _
            have sb5 := hb5.size
            have K := Lib.hid (IH.out _ body l2 sv4 _ hvb (hb0.trans (hb5.mono (by have := hb0.size; omega))) (hA4.below hb5) (by omega) (by omega))
            have HCN4 : Hid ((allN f l2 body).length + cntC f (cs.drop (j + 1)) + (ms.length - (k + 1)) + cntC f (flatC (ms.drop (k + 1))) ≤ 1000000) := Lib.hid (by omega)
            have HB5 := Lib.hid hb5
            have i0 : (0 : Int) ≤ (j : Int) := by omega
            have i1 : (j : Int) < (cs.length : Int) := by omega
            have i2 : (j : Int) ≤ (d3 : Int) := by omega
            have e1 : IntKind.i64.wrap ((j : Int) + 1) = (j : Int) + 1 := IntWalk.i64_in _ (by omega)
            clear hbr hb0 hcell hx hvb hA4 hF4 hO4 hst hcn hadd hb5 sb5 HR4 HL4
            go_wp2_with fail
            refine K.out.mono ?_
            rintro e w6 ⟨rfl, hT6⟩
            have HT6 : Hid (NeedTo w w6 p base sv (allN f l2 body)) := Lib.hid (NeedTo.trans HF4.out (HO4.out.below HB5.out sW4) hT6)
            clear hT6
            go_wp2_with fail
            go_roundw
            case rel => exact ⟨j + 1, _, by omega, by go_num, HT6, HST4, HCN4⟩
            case measure => simp [intOf]; omega
          · obtain rfl : j = cs.length := by omega
            have hr := HR4.out
            have hl4 := HL4.out
            rw [List.drop_of_length_le (Nat.le_refl _)] at hr hl4
            have HR5 : Hid (foldM f l2 (ms.drop (k + 1)) = R) := Lib.hid hr
            have HL5 : Hid (l2.length + (ms.drop (k + 1)).length + cntC f (flatC (ms.drop (k + 1))) ≤ 1000000) := Lib.hid (by rw [List.length_drop]; omega)
            clear hr hl4
            go_wp2_with fail
            go_roundw
            case rel => exact ⟨k + 1, l2, by omega, by go_num, HT4, HR5, HL5⟩
            case measure => simp [intOf]; omega
      · obtain rfl : k = ms.length := by omega
        have hr := HR.out
        rw [List.drop_of_length_le (Nat.le_refl _)] at hr
        have HE : Hid (NeedTo w _ p base sv R) := Lib.hid ((show l' = R from hr) ▸ HT.out)
        clear hr
        go_wp2_with fail
        exact bodyPost_end (results_none rfl _ _ _) rfl ⟨rfl, HE.out⟩
end Go.Proofs.YthlcjlmaaaappaaGreatDoor

/- Blocks and their types: what keeps a row apart from another one. -/
namespace Go.Proofs.YthlcjlmaaaappaaGreatDoor
open Go.RowKit

/-- block b holds things of type t -/
def TyAt (w : World) (b : Nat) (t : TypeId) : Prop := ∃ cur, w.heap[b]? = some (.cells cur t (0, 0))
theorem TyAt.lt {w : World} {b : Nat} {t : TypeId} (h : TyAt w b t) : b < w.heap.size := by
  obtain ⟨cur, h⟩ := h
  exact (Array.getElem?_eq_some_iff.1 h).1
theorem TyAt.off {w w' : World} {b : Nat} {t : TypeId} {m : List Nat} (h : TyAt w b t) (hm : Off m w w') (hb : b ∉ m) : TyAt w' b t := by
  have hl := h.lt
  obtain ⟨cur, h⟩ := h
  exact ⟨cur, (hm.block b hl hb).trans h⟩
theorem TyAt.below {w w' : World} {b : Nat} {t : TypeId} (h : TyAt w b t) (hb : Below w.heap.size w w') : TyAt w' b t := by
  have hl := h.lt
  obtain ⟨cur, h⟩ := h
  exact ⟨cur, (hb.block b hl).trans h⟩
theorem TyAt.set {w : World} {b : Nat} {t : TypeId} (h : TyAt w b t) (g j : Nat) (u : Value) : TyAt (w.setCell ⟨g, j, none⟩ u) b t := by
  have hl := h.lt
  obtain ⟨cur, h⟩ := h
  by_cases e : b = g
  · subst e
    exact ⟨_, heap_setCell_same w b j cur t u h⟩
  · exact ⟨cur, (heap_setCell_other w ⟨g, j, none⟩ b u (fun e' => e (by simpa using e'))).trans h⟩
theorem TyAt.new (w : World) (cur : Array Value) (t : TypeId) : TyAt (w.alloc (.cells cur t)) w.heap.size t := ⟨cur, Go.heap_alloc_new w _⟩
theorem TyAt.frozen {w : World} {b : Nat} {t : TypeId} (h : TyAt w b t) (j : Nat) : w.frozen? ⟨b, j, none⟩ = false := by
  obtain ⟨cur, h⟩ := h
  exact frozen_of_row w b j cur t h
theorem TyAt.not {α : Type} {k : Kind α} {w : World} {b base : Nat} {t : TypeId} {v : Value} {ts : List α} (h : TyAt w b t) (ho : OwnsG k w base v ts) (ht : t ≠ k.e) : b ∉ v.ownBlock.toList := by
  intro hm
  obtain ⟨cur, h⟩ := h
  obtain ⟨_, cur', h'⟩ := ho.block b hm
  rw [h] at h'
  injection h' with h'
  injection h' with _ h2 _
  exact ht h2
theorem TyAt.ne {w : World} {b b' : Nat} {t t' : TypeId} (h : TyAt w b t) (h' : TyAt w b' t') (ht : t ≠ t') : b ≠ b' := by
  rintro rfl
  obtain ⟨cur, h⟩ := h
  obtain ⟨cur', h'⟩ := h'
  rw [h] at h'
  injection h' with h'
  injection h' with _ h2 _
  exact ht h2
theorem OwnsG.ty {α : Type} {k : Kind α} {w : World} {base : Nat} {v : Value} {ts : List α} (h : OwnsG k w base v ts) : ∀ g ∈ v.ownBlock.toList, TyAt w g k.e := fun g hg => (h.block g hg).2
/-- rows of unlike types lie apart -/
theorem OwnsG.apart {α β : Type} {k : Kind α} {k' : Kind β} {w : World} {base base' : Nat} {v v' : Value} {ts : List α} {ts' : List β} (h : OwnsG k w base v ts) (h' : OwnsG k' w base' v' ts') (ht : k.e ≠ k'.e) : ∀ g, v.ownBlock = some g → g ∉ v'.ownBlock.toList :=
  fun g hg => (h.ty g (by simp [hg])).not h' ht
end Go.Proofs.YthlcjlmaaaappaaGreatDoor
