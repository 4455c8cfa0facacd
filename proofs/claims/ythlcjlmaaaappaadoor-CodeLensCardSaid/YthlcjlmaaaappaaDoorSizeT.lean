/- msg.Cases, msg.size at every message. -/
import Derived.Test.YthlcjlmaaaappaaDoorTree
namespace Go.Proofs.YthlcjlmaaaappaaDoor
open Go.RowKit

theorem NdAt.cells {P : Value → List Nd → Prop} {w : World} {b o : Nat} {x : Nd} (h : NdAt P w b o x) : ∃ A c, x.cs.length ≤ c ∧ c ≤ 9223372036854775807 ∧ x.cs.length ≤ 3518437208800 ∧ CasesN P w (.slice A x.cs.length c) x.cs ∧
    w.cell? ⟨b, o, none⟩ = some (.int .i64 x.kd) ∧ w.cell? ⟨b, o + 1, none⟩ = some (.string x.t) ∧ w.cell? ⟨b, o + 2, none⟩ = some (.int .i64 x.off) ∧ w.cell? ⟨b, o + 3, none⟩ = some (.slice A x.cs.length c) := by
  obtain ⟨h1, h2, h3, h4, h5, h6, vc, h7, h8⟩ := h
  obtain ⟨A, c, rfl, k2, k3, k4⟩ := h8.form
  exact ⟨A, c, k2, k3, k4, h8, h4, h5, h6, h7⟩

theorem cases_yes (x : Nd) (A : Option Addr) (n c : Nat) (w : World) (hk : x.kd = 4 ∨ x.kd = 5) :
    Calls Tryd.prog 16 #[nodeV x.kd x.t x.off A n c] w fun e w' => e = .returned (.slice A n c) ∧ Below w.heap.size w w' := msg_cases x.kd x.off x.t A n c w hk
theorem cases_no (x : Nd) (A : Option Addr) (n c : Nat) (w : World) (hk : ¬ (x.kd = 4 ∨ x.kd = 5)) :
    Calls Tryd.prog 16 #[nodeV x.kd x.t x.off A n c] w fun e w' => e = .returned (.slice none 0 0) ∧ Below w.heap.size w w' := by
  unfold nodeV
  have k4 : (x.kd == 4) = false := by rw [beq_eq_false_iff_ne]; exact fun h => hk (.inl h)
  have k5 : (x.kd == 5) = false := by rw [beq_eq_false_iff_ne]; exact fun h => hk (.inr h)
  generalize x.kd = kd at *
  clear hk
  go_enter Tryd.func16, Tryd.ntmps16
  go_wp2_with fail
  go_ret
  exact ⟨rfl, (by (repeat (first | with_reducible exact Below.refl _ _ | with_reducible refine bel_set ?_ ?_ | with_reducible refine bel_alloc ?_ ?_ | with_reducible refine Below.drew ?_ | with_reducible refine bel_drewN _ ?_ | with_reducible refine bel_call ?_ (by assumption) ?_)); all_goals (first | (simp; done) | omega | (simp; omega)))⟩
/-- msg.Cases at a node: a row of casesOf -/
theorem cases_any {P : Value → List Nd → Prop} (W0 : World) (x : Nd) (A : Option Addr) (n c : Nat) (w : World) (h : CasesN P W0 (.slice A n c) x.cs) :
    Calls Tryd.prog 16 #[nodeV x.kd x.t x.off A n c] w fun e w' => ∃ A' c', e = .returned (.slice A' (casesOf x).length c') ∧ (casesOf x).length ≤ c' ∧ c' ≤ 9223372036854775807 ∧ (casesOf x).length ≤ 3518437208800 ∧ CasesN P W0 (.slice A' (casesOf x).length c') (casesOf x) ∧ Below w.heap.size w w' := by
  by_cases hk : x.kd = 4 ∨ x.kd = 5
  · refine (cases_yes x A n c w hk).mono ?_
    rintro e w' ⟨rfl, hb⟩
    have e1 : casesOf x = x.cs := if_pos hk
    obtain ⟨A', c', e2, h2, h3, h4⟩ := h.form
    rw [e1]
    rw [e2] at h
    exact ⟨A', c', by rw [e2], h2, h3, h4, h, hb⟩
  · refine (cases_no x A n c w hk).mono ?_
    rintro e w' ⟨rfl, hb⟩
    have e1 : casesOf x = [] := if_neg hk
    rw [e1]
    exact ⟨none, 0, rfl, Nat.le_refl _, Nat.zero_le _, Nat.zero_le _, ⟨none, 0, rfl, Nat.le_refl _, Nat.zero_le _, Nat.zero_le _, .inl rfl⟩, hb⟩

theorem runSz_le {g : List Nd → Nat × Bool} {K : Nat} : ∀ (cs : List (ByteArray × List Nd)) (n : Nat), (∀ c ∈ cs, (g c.2).1 ≤ K) → (runSz g n cs).1 ≤ max n 60 + K
  | [], n, _ => by unfold runSz; omega
  | c :: r, n, h => by
    have h1 := h c (List.mem_cons_self ..)
    unfold runSz
    split
    · show n + (g c.2).1 ≤ _; omega
    · rename_i hh
      have h2 : ¬ 60 < n + (g c.2).1 := fun hc => hh (by rw [decide_eq_true hc, Bool.or_true])
      have := runSz_le r (n + (g c.2).1) fun c hc => h c (List.mem_cons_of_mem _ hc)
      omega
theorem mem_casesOf {x : Nd} {c : ByteArray × List Nd} (h : c ∈ casesOf x) : c ∈ x.cs := by
  unfold casesOf at h
  split at h
  · exact h
  · cases h
/-- a body that is told by msg.Cases lies there too -/
theorem NodesIn.body {w : World} {f : Nat} {v : Value} {ms : List Nd} (h : NodesIn (f + 1) w v ms) {c : ByteArray × List Nd} (hc : c ∈ flatC ms) : ∃ vb, NodesIn f w vb c.2 := by
  obtain ⟨x, hx, hcx⟩ := List.mem_flatMap.1 hc
  obtain ⟨A, cc, rfl, _, _, _⟩ := h.form
  obtain ⟨b, o, rfl, hat⟩ := h.at (List.length_pos_of_mem hx)
  obtain ⟨j, hj⟩ := List.mem_iff_getElem?.1 hx
  obtain ⟨A, cc, _, _, _, hC, _⟩ := (hat j x hj).cells
  have hm := mem_casesOf hcx
  obtain ⟨b2, o2, _, hat2⟩ := hC.at (List.length_pos_of_mem hm)
  obtain ⟨i, hi⟩ := List.mem_iff_getElem?.1 hm
  obtain ⟨_, _, vb, _, hv⟩ := hat2 i c hi
  exact ⟨vb, hv⟩
theorem size_le {w : World} : ∀ (f : Nat) (v : Value) (ms : List Nd) (deep : Nat), deep ≤ 6 → NodesIn f w v ms → (sizeP f ms deep).1 ≤ 7000000000060 * (7 - deep)
  | 0, _, _, _, _, _ => Nat.zero_le _
  | f + 1, v, ms, deep, hd, h => by
    obtain ⟨_, _, _, _, _, hl⟩ := h.form
    unfold sizeP
    split
    · exact Nat.zero_le _
    · rename_i hh
      by_cases h6 : deep = 6
      · have : ms = [] := List.length_eq_zero_iff.1 (by omega)
        subst this
        simp [flatC, runSz]
      · have := runSz_le (g := fun b => sizeP f b (deep + 1)) (K := 7000000000060 * (7 - (deep + 1))) (flatC ms) ms.length fun c hc => by
          obtain ⟨vb, hv⟩ := h.body hc
          exact size_le f vb c.2 (deep + 1) (by omega) hv
        omega

theorem size_none (A : Option Addr) (c deep : Nat) (w : World) (hc : c ≤ 9223372036854775807) :
    Calls Tryd.prog 14 #[.slice A 0 c, .int .i64 deep] w fun e w' => e = .returned (.tuple #[.int .i64 0, .bool false]) ∧ Below w.heap.size w w' := by
  rcases Nat.lt_or_ge deep 6 with hd | hd
  · have i6 : ¬ (6 : Int) ≤ (deep : Int) := by omega
    clear hd
    go_enter Tryd.func14, Tryd.ntmps14
    go_wp2_with fail
    go_loopw [6, 24] (fun nv i wr => i = .int .i64 0 ∧ nv = .int .i64 0 ∧ w = wr) (fun _ _ _ => 0)
    case atStart => exact ⟨rfl, rfl, rfl⟩
    case round =>
      obtain ⟨rfl, rfl, rfl⟩ := hrel
      go_wp2_with fail
      go_ret2
      exact ⟨rfl, (by (repeat (first | with_reducible exact Below.refl _ _ | with_reducible refine bel_set ?_ ?_ | with_reducible refine bel_alloc ?_ ?_ | with_reducible refine Below.drew ?_ | with_reducible refine bel_drewN _ ?_ | with_reducible refine bel_call ?_ (by assumption) ?_)); all_goals (first | (simp; done) | omega | (simp; omega)))⟩
  · have i6 : (6 : Int) ≤ (deep : Int) := by omega
    clear hd
    go_enter Tryd.func14, Tryd.ntmps14
    go_wp2_with fail
    go_loopw [6, 24] (fun nv i wr => i = .int .i64 0 ∧ nv = .int .i64 0 ∧ w = wr) (fun _ _ _ => 0)
    case atStart => exact ⟨rfl, rfl, rfl⟩
    case round =>
      obtain ⟨rfl, rfl, rfl⟩ := hrel
      go_wp2_with fail
      go_ret2
      exact ⟨rfl, (by (repeat (first | with_reducible exact Below.refl _ _ | with_reducible refine bel_set ?_ ?_ | with_reducible refine bel_alloc ?_ ?_ | with_reducible refine Below.drew ?_ | with_reducible refine bel_drewN _ ?_ | with_reducible refine bel_call ?_ (by assumption) ?_)); all_goals (first | (simp; done) | omega | (simp; omega)))⟩

theorem flat_cons (x : Nd) (r : List Nd) : flatC (x :: r) = casesOf x ++ flatC r := by unfold flatC; simp
theorem flat_drop {ms : List Nd} {k : Nat} {x : Nd} (h : ms[k]? = some x) : flatC (ms.drop k) = casesOf x ++ flatC (ms.drop (k + 1)) := by
  have hlt : k < ms.length := (List.getElem?_eq_some_iff.1 h).1
  rw [List.drop_eq_getElem_cons hlt, show ms[k] = x from (List.getElem?_eq_some_iff.1 h).2, flat_cons]
theorem drop_at {α : Type} {l : List α} {j : Nat} {x : α} (h : l[j]? = some x) : l.drop j = x :: l.drop (j + 1) := by
  have hlt : j < l.length := (List.getElem?_eq_some_iff.1 h).1
  rw [List.drop_eq_getElem_cons hlt, show l[j] = x from (List.getElem?_eq_some_iff.1 h).2]

set_option maxHeartbeats 4000000 in
theorem size_any (f : Nat) : ∀ (v : Value) (ms : List Nd) (deep : Nat) (w : World), deep ≤ 6 → NodesIn f w v ms →
    Calls Tryd.prog 14 #[v, .int .i64 deep] w fun e w' => e = .returned (.tuple #[.int .i64 ((sizeP f ms deep).1 : Int), .bool (sizeP f ms deep).2]) ∧ Below w.heap.size w w' := by
  induction f with
  | zero =>
    intro v ms deep w _ h
    obtain ⟨rfl, A, c, rfl, hc⟩ := h
    exact size_none A c deep w hc
  | succ f ih =>
    intro v ms deep w hd hN
    by_cases h0 : ms.length = 0
    · obtain rfl := List.length_eq_zero_iff.1 h0
      obtain ⟨A, c, rfl, _, hc, _⟩ := hN.form
      have e0 : sizeP (f + 1) [] deep = (0, false) := by unfold sizeP; rw [if_neg (by simp)]; rfl
      rw [e0]
      exact size_none A c deep w hc
    · by_cases h6 : deep = 6
      · subst h6
        have e0 : sizeP (f + 1) ms 6 = (0, true) := by unfold sizeP; rw [if_pos ⟨Nat.le_refl _, by omega⟩]
        rw [e0]
        obtain ⟨A, c, rfl, _, hc, _⟩ := hN.form
        have i1 : (0 : Int) < (ms.length : Int) := by omega
        have i2 : 0 < ms.length := by omega
        clear hN e0 ih
        go_enter Tryd.func14, Tryd.ntmps14
        go_wp2_with fail
        go_ret2
        exact ⟨rfl, (by (repeat (first | with_reducible exact Below.refl _ _ | with_reducible refine bel_set ?_ ?_ | with_reducible refine bel_alloc ?_ ?_ | with_reducible refine Below.drew ?_ | with_reducible refine bel_drewN _ ?_ | with_reducible refine bel_call ?_ (by assumption) ?_)); all_goals (first | (simp; done) | omega | (simp; omega)))⟩
      · have e0 : sizeP (f + 1) ms deep = runSz (fun b => sizeP f b (deep + 1)) ms.length (flatC (ms.drop 0)) := by rw [List.drop_zero]; conv => { lhs; unfold sizeP }; rw [if_neg (by omega)]
        obtain ⟨A, c, rfl, hc, hc2, hl⟩ := hN.form
        have HN := Lib.hid hN
        have HR : Hid (runSz (fun b => sizeP f b (deep + 1)) ms.length (flatC (ms.drop 0)) = sizeP (f + 1) ms deep) := Lib.hid e0.symm
        have ed1 : (((deep + 1 : Nat) : Int)) = (deep : Int) + 1 := by omega
        have IH := Lib.hid (fun v ms w h => ih v ms (deep + 1) w (by omega) h)
        simp only [ed1] at IH
        have HLE := Lib.hid (fun (w : World) (v : Value) (ms : List Nd) (h : NodesIn f w v ms) => size_le f v ms (deep + 1) (by omega) h)
        have i6 : ¬ (6 : Int) ≤ (deep : Int) := by omega
        have d6 : deep < 6 := by omega
        clear ed1
        generalize sizeP (f + 1) ms deep = R at *
        generalize hg : (fun b => sizeP f b (deep + 1)) = g at *
        have IG : ∀ b, sizeP f b (deep + 1) = g b := fun b => by rw [← hg]
        have HG := Lib.hid IG
        clear hN e0 ih hg IG h0
        go_enter Tryd.func14, Tryd.ntmps14
        go_wp2_with fail
        go_loopw [6, 24] (fun nv i wr => ∃ k n : Nat, k ≤ ms.length ∧ n ≤ 7000000000060 ∧ i = .int .i64 k ∧ nv = .int .i64 n ∧ Hid (runSz g n (flatC (ms.drop k)) = R) ∧ Hid (Below w.heap.size w wr)) (fun _ i _ => ms.length - (intOf i).toNat)
        case atStart => exact ⟨0, ms.length, by omega, by omega, rfl, rfl, HR, Lib.hid (Below.refl _ _)⟩
        case round =>
          obtain ⟨k, n, hk, hn, rfl, rfl, HR, HB⟩ := hrel
          by_cases hlt : k < ms.length
          · obtain ⟨b, o, rfl, hat⟩ := (NodesIn.below HB.out _ HN.out).at (by omega)
            obtain ⟨x, hx⟩ : ∃ x, ms[k]? = some x := ⟨ms[k], List.getElem?_eq_getElem hlt⟩
            obtain ⟨A, cc, x1, x2, x3, hC, n0, n1, n2, n3⟩ := (hat k x hx).cells
            have HC := Lib.hid hC
            have HF := Lib.hid (flat_drop hx)
            have sB := HB.out.size
            have i0 : (0 : Int) ≤ (k : Int) := by omega
            have i1 : (k : Int) < (ms.length : Int) := by omega
            have i2 : (k : Int) ≤ (c : Int) := by omega
            clear hat hC hx
            go_wp2_with fail
            refine (cases_any (P := NodesIn f wr) wr x A x.cs.length cc _ HC.out).mono ?_
            rintro e w1 ⟨A1, d1, rfl, y1, y2, y3, hC1, hb1⟩
            have HB1 : Hid (Below w.heap.size w w1) := Lib.hid (HB.out.trans (by
              refine Below.trans ?_ (hb1.mono ?_)
              · exact (by (repeat (first | with_reducible exact Below.refl _ _ | with_reducible refine bel_set ?_ ?_ | with_reducible refine bel_alloc ?_ ?_ | with_reducible refine Below.drew ?_ | with_reducible refine bel_drewN _ ?_ | with_reducible refine bel_call ?_ (by assumption) ?_)); all_goals (first | (simp; done) | omega | (simp; omega)))
              · simp; omega))
            have HBr : Hid (Below wr.heap.size wr w1) := Lib.hid (by
              refine Below.trans ?_ (hb1.mono ?_)
              · exact (by (repeat (first | with_reducible exact Below.refl _ _ | with_reducible refine bel_set ?_ ?_ | with_reducible refine bel_alloc ?_ ?_ | with_reducible refine Below.drew ?_ | with_reducible refine bel_drewN _ ?_ | with_reducible refine bel_call ?_ (by assumption) ?_)); all_goals (first | (simp; done) | omega | (simp; omega)))
              · simp)
            have HC1 := Lib.hid (hC1.mono HBr.out fun _ _ h => NodesIn.below HBr.out f h)
            rw [HF.out] at HR
            generalize casesOf x = cs at *
            clear hb1 hC1 n0 n1 n2 n3 HC HBr
            go_wp2_with fail
            go_loopw [6, 31] (fun nv i wr => ∃ j n : Nat, j ≤ cs.length ∧ n ≤ 7000000000060 ∧ i = .int .i64 j ∧ nv = .int .i64 n ∧ Hid (runSz g n (cs.drop j ++ flatC (ms.drop (k + 1))) = R) ∧ Hid (Below w1.heap.size w1 wr)) (fun _ i _ => cs.length - (intOf i).toNat)
            case atStart => exact ⟨0, n, Nat.zero_le _, hn, rfl, rfl, HR, Lib.hid (Below.refl _ _)⟩
            case round =>
              obtain ⟨j, n, hj, hn, rfl, rfl, HR, HB2⟩ := hrel
              by_cases hjt : j < cs.length
              · obtain ⟨b2, o2, rfl, hcell⟩ := (HC1.out.mono HB2.out fun v ms => NodesIn.below HB2.out f).at (by omega)
                obtain ⟨xb, hx⟩ : ∃ x, cs[j]? = some x := ⟨cs[j], List.getElem?_eq_getElem hjt⟩
                obtain ⟨hxz, c0, vb, c1, hvb⟩ := hcell j xb hx
                obtain ⟨xk, body⟩ := xb
                simp only at c0 c1 hxz hvb
                obtain ⟨A2, cc2, rfl, b1, b2, b3⟩ := hvb.form
                have hle := HLE.out _ _ _ hvb
                have hstep := HR.out
                rw [drop_at hx, List.cons_append, runSz] at hstep
                simp only at hstep
                rw [← HG.out body] at hstep
                have HVB := Lib.hid (fun (W : World) (hb : Below wr.heap.size wr W) => IH.out _ _ W (NodesIn.below hb f hvb))
                obtain ⟨K, T, hKT⟩ : ∃ K T, sizeP f body (deep + 1) = (K, T) := ⟨_, _, rfl⟩
                rw [hKT] at hstep hle
                simp only [hKT] at HVB
                simp only at hstep hle
                have i0 : (0 : Int) ≤ (j : Int) := by omega
                have i1 : (j : Int) < (cs.length : Int) := by omega
                have i2 : (j : Int) ≤ (d1 : Int) := by omega
                have e1 : IntKind.i64.wrap ((j : Int) + 1) = (j : Int) + 1 := IntWalk.i64_in _ (by omega)
                have e3 : IntKind.i64.wrap ((n : Int) + (K : Int)) = ((n + K : Nat) : Int) := by rw [IntWalk.i64_in _ (by omega)]; rfl
                have HS := Lib.hid hstep
                have sB1 := HB1.out.size
                have sB2 := HB2.out.size
                clear hcell hx hvb hstep hKT
                go_wp2_with fail
                refine (HVB.out _ ((Below.refl _ _).alloc (Nat.le_refl _) _)).mono ?_
                rintro e w2 ⟨rfl, hb2⟩
                have HB3 : Hid (Below w1.heap.size w1 w2) := Lib.hid (HB2.out.trans (by
                  refine Below.trans ?_ (hb2.mono ?_)
                  · exact (by (repeat (first | with_reducible exact Below.refl _ _ | with_reducible refine bel_set ?_ ?_ | with_reducible refine bel_alloc ?_ ?_ | with_reducible refine Below.drew ?_ | with_reducible refine bel_drewN _ ?_ | with_reducible refine bel_call ?_ (by assumption) ?_)); all_goals (first | (simp; done) | omega | (simp; omega)))
                  · simp; omega))
                clear hb2 c0 c1
                cases T
                · have hs := HS.out
                  rw [Bool.false_or] at hs
                  by_cases h60 : 60 < n + K
                  · rw [decide_eq_true h60, if_pos rfl] at hs
                    have HS2 := Lib.hid hs
                    have i60 : (60 : Int) < (n : Int) + (K : Int) := by omega
                    clear hs HS
                    go_wp2_with fail
                    go_ret2
                    rw [← HS2.out]
                    exact ⟨by simp, HB1.out.trans (HB3.out.mono sB1)⟩
                  · rw [decide_eq_false h60, if_neg (by decide)] at hs
                    have HS2 := Lib.hid hs
                    have i60 : ¬ (60 : Int) < (n : Int) + (K : Int) := by omega
                    clear hs HS
                    go_wp2_with fail
                    go_roundw
                    case rel => exact ⟨j + 1, n + K, by omega, by omega, by go_num, by go_num, HS2, HB3⟩
                    case measure => simp [intOf]; omega
                · have hs := HS.out
                  rw [Bool.true_or, if_pos rfl] at hs
                  have HS2 := Lib.hid hs
                  clear hs HS
                  go_wp2_with fail
                  go_ret2
                  rw [← HS2.out]
                  exact ⟨by simp, HB1.out.trans (HB3.out.mono sB1)⟩
              · obtain rfl : j = cs.length := by omega
                have hr := HR.out
                rw [List.drop_of_length_le (Nat.le_refl _), List.nil_append] at hr
                have HR2 := Lib.hid hr
                have sB1 := HB1.out.size
                clear hr
                go_wp2_with fail
                go_roundw
                case rel => exact ⟨k + 1, n, by omega, hn, by go_num, rfl, HR2, Lib.hid (HB1.out.trans (HB2.out.mono sB1))⟩
                case measure => simp [intOf]; omega
          · obtain rfl : k = ms.length := by omega
            have hr := HR.out
            rw [List.drop_of_length_le (Nat.le_refl _)] at hr
            have HR2 : Hid (R = (n, decide (60 < n))) := Lib.hid (by rw [← hr]; rfl)
            clear hr
            by_cases h60 : 60 < n
            · have i60 : (60 : Int) < (n : Int) := by omega
              rw [decide_eq_true h60] at HR2
              go_wp2_with fail
              go_ret2
              rw [HR2.out]
              exact ⟨rfl, HB.out⟩
            · have i60 : ¬ (60 : Int) < (n : Int) := by omega
              rw [decide_eq_false h60] at HR2
              go_wp2_with fail
              go_ret2
              rw [HR2.out]
              exact ⟨rfl, HB.out⟩
end Go.Proofs.YthlcjlmaaaappaaDoor
