/- code.copied: it makes memory of its own alone. -/
import Derived.Test.YthlcjlmaaaappaaDoorNodeRows
namespace Go.Proofs.YthlcjlmaaaappaaDoor
open Go.RowKit

/-- the copy of a node so far -/
def CopyAt (w wi : World) (by' : Nat) (x : Nd) (j : Nat) : Prop :=
  Below w.heap.size w wi ∧ TyAt wi by' 32 ∧ w.heap.size ≤ by' ∧ wi.cell? ⟨by', 0, none⟩ = some (.int .i64 x.kd) ∧ wi.cell? ⟨by', 1, none⟩ = some (.string x.t) ∧ wi.cell? ⟨by', 2, none⟩ = some (.int .i64 x.off) ∧
    ∃ (A : Option Addr) (c : Nat) (l : List (Vals 2)), wi.cell? ⟨by', 3, none⟩ = some (.slice A l.length c) ∧ OwnsG kCaseQ wi w.heap.size (.slice A l.length c) l ∧ l.length ≤ j
theorem CopyAt.below {w wi wx : World} {by' : Nat} {x : Nd} {j : Nat} (h : CopyAt w wi by' x j) (hb : Below wi.heap.size wi wx) : CopyAt w wx by' x j := by
  obtain ⟨a1, a2, a3, a4, a5, a6, A, c, l, b1, b2, b3⟩ := h
  exact ⟨a1.trans (hb.mono a1.size), a2.below hb, a3, carry hb a4, carry hb a5, carry hb a6, A, c, l, carry hb b1, b2.below hb, b3⟩
theorem CopyAt.keyed {w wi w3 : World} {by' : Nat} {x : Nd} {j : Nat} {A A' : Option Addr} {c c' : Nat} {l : List (Vals 2)} {t : Vals 2} (h : CopyAt w wi by' x j) (hc : wi.cell? ⟨by', 3, none⟩ = some (.slice A l.length c)) (ho : OwnsG kCaseQ wi w.heap.size (.slice A l.length c) l) (hl : l.length ≤ j)
    (hoff : Off (Value.slice A l.length c).ownBlock.toList wi w3) (ho' : OwnsG kCaseQ w3 w.heap.size (.slice A' (l ++ [t]).length c') (l ++ [t])) : CopyAt w (w3.setCell ⟨by', 3, none⟩ (.slice A' (l ++ [t]).length c')) by' x (j + 1) := by
  obtain ⟨a1, a2, a3, a4, a5, a6, _⟩ := h
  have n1 := a2.not ho (by decide)
  have a2' := a2.off hoff n1
  have hs : Off [by'] w3 (w3.setCell ⟨by', 3, none⟩ (.slice A' (l ++ [t]).length c')) := (Off.refl _ _).setCell _ _ (by simp)
  refine ⟨bel_set (a1.trans (ho.grown hoff a1.size)) a3, a2'.set _ _ _, a3, cell_other (hoff.cell a4 n1) (by simp), cell_other (hoff.cell a5 n1) (by simp), cell_other (hoff.cell a6 n1) (by simp), A', c', l ++ [t], cell_same (hoff.cell hc n1), ho'.off hs (fun g hg hm => ?_), by simp; omega⟩
  simp only [List.mem_singleton] at hm
  subst hm
  exact (ho'.ty _ (by rw [hg]; simp)).ne a2' (by decide) rfl

set_option maxHeartbeats 20000000 in
theorem code_copied (f : Nat) : ∀ (v : Value) (ms : List Nd) (w : World), NodesIn f w v ms → cntP f ms ≤ 1000000 →
      Calls Tryd.prog 12 #[v] w fun e w' => (∃ A n c, e = .returned (.slice A n c)) ∧ Below w.heap.size w w' := by
  induction f with
  | zero =>
    intro v ms w h _
    obtain ⟨rfl, A, c, rfl, hc⟩ := h
    go_enter Tryd.func12, Tryd.ntmps12
    go_wp2_with fail
    go_loopw [3, 11] (fun o i wr => o = .slice none 0 0 ∧ i = .int .i64 0 ∧ w = wr) (fun _ _ _ => 0)
    case atStart => exact ⟨rfl, rfl, rfl⟩
    case round =>
      obtain ⟨rfl, rfl, rfl⟩ := hrel
      go_wp2_with fail
      go_ret
      exact ⟨⟨_, _, _, rfl⟩, (by (repeat (first | with_reducible exact Below.refl _ _ | with_reducible refine bel_set ?_ ?_ | with_reducible refine bel_alloc ?_ ?_ | with_reducible refine Below.drew ?_ | with_reducible refine bel_drewN _ ?_ | with_reducible refine bel_call ?_ (by assumption) ?_)); all_goals (first | (simp; done) | omega | (simp; omega)))⟩
  | succ f ih =>
    intro v ms w hN hcnt
    obtain ⟨A, c, rfl, hc, hc2, hl⟩ := hN.form
    have HN := Lib.hid hN
    have IH := Lib.hid ih
    rw [cntP_succ] at hcnt
    have HCN : Hid ((ms.drop 0).length + cntC f (flatC (ms.drop 0)) ≤ 1000000) := Lib.hid (by rw [List.drop_zero]; omega)
    clear hN ih
    go_enter Tryd.func12, Tryd.ntmps12
    go_wp2_with fail
    go_loopw [3, 11] (fun o i wr => ∃ (k : Nat) (A : Option Addr) (c : Nat) (l : List (Vals 4)), k ≤ ms.length ∧ i = .int .i64 k ∧ o = .slice A l.length c ∧ l.length ≤ k ∧ Hid (OwnsG kNodeQ wr w.heap.size (.slice A l.length c) l) ∧ Hid (Below w.heap.size w wr) ∧ Hid ((ms.drop k).length + cntC f (flatC (ms.drop k)) ≤ 1000000)) (fun _ i _ => ms.length - (intOf i).toNat)
    case atStart => exact ⟨0, none, 0, [], Nat.zero_le _, rfl, rfl, Nat.le_refl _, Lib.hid (OwnsG.nil _ _), Lib.hid (Below.refl _ _), HCN⟩
    case round =>
      obtain ⟨k, Ao, co, lo, hk, rfl, rfl, hlo, HO, HB, HL⟩ := hrel
      have sB := HB.out.size
      by_cases hlt : k < ms.length
      · obtain ⟨b, o, rfl, hat⟩ := HN.out.at (by omega)
        obtain ⟨x, hx⟩ : ∃ x, ms[k]? = some x := ⟨ms[k], List.getElem?_eq_getElem hlt⟩
        obtain ⟨A2, cc, x1, x2, x3, hC, m0, m1, m2, m3⟩ := (hat k x hx).cells
        replace m0 := carry HB.out m0
        replace m1 := carry HB.out m1
        replace m2 := carry HB.out m2
        replace m3 := carry HB.out m3
        have hcn := HL.out
        rw [flat_drop hx, cntC_append, List.length_drop] at hcn
        have HCN : Hid (cntC f (casesOf x) + ((ms.drop (k + 1)).length + cntC f (flatC (ms.drop (k + 1)))) ≤ 1000000) := Lib.hid (by rw [List.length_drop]; omega)
        have i0 : (0 : Int) ≤ (k : Int) := by omega
        have i1 : (k : Int) < (ms.length : Int) := by omega
        have i2 : (k : Int) ≤ (c : Int) := by omega
        have e1 : IntKind.i64.wrap ((k : Int) + 1) = (k : Int) + 1 := IntWalk.i64_in _ (by omega)
        have HC := Lib.hid hC
        obtain ⟨Wy, hWy⟩ : ∃ Wy, Wy = (wr.alloc (.cells #[.int .i64 x.kd, .string x.t, .int .i64 x.off, .slice A2 x.cs.length cc] 32)).alloc (.cells #[.int .i64 x.kd, .string x.t, .int .i64 x.off, .slice none 0 0] 32) := ⟨_, rfl⟩
        have hby : Below wr.heap.size wr Wy := by rw [hWy]; exact (by (repeat (first | with_reducible exact Below.refl _ _ | with_reducible refine bel_set ?_ ?_ | with_reducible refine bel_alloc ?_ ?_ | with_reducible refine Below.drew ?_ | with_reducible refine bel_drewN _ ?_ | with_reducible refine bel_call ?_ (by assumption) ?_)); all_goals (first | (simp; done) | omega | (simp; omega)))
        have hcy : CopyAt w Wy (wr.heap.size + 1) x 0 := by
          refine ⟨HB.out.trans (hby.mono sB), ?_, by omega, by rw [hWy]; go_simp, by rw [hWy]; go_simp, by rw [hWy]; go_simp, none, 0, [], by rw [hWy]; go_simp, OwnsG.nil _ _, Nat.le_refl _⟩
          rw [hWy]
          have := TyAt.new (wr.alloc (.cells #[.int .i64 x.kd, .string x.t, .int .i64 x.off, .slice A2 x.cs.length cc] 32)) #[.int .i64 x.kd, .string x.t, .int .i64 x.off, .slice none 0 0] 32
          simpa using this
        have z0 : Wy.cell? ⟨wr.heap.size, 0, none⟩ = some (.int .i64 x.kd) := by rw [hWy]; go_simp
        have z1 : Wy.cell? ⟨wr.heap.size, 1, none⟩ = some (.string x.t) := by rw [hWy]; go_simp
        have z2 : Wy.cell? ⟨wr.heap.size, 2, none⟩ = some (.int .i64 x.off) := by rw [hWy]; go_simp
        have z3 : Wy.cell? ⟨wr.heap.size, 3, none⟩ = some (.slice A2 x.cs.length cc) := by rw [hWy]; go_simp
        have HCY := Lib.hid hcy
        have HO2 := Lib.hid (HO.out.below hby)
        have HWY := Lib.hid hWy
        have HBYO : Hid (wr.heap.size + 1 ∉ (Value.slice Ao lo.length co).ownBlock.toList) := Lib.hid (fun hm => by have := (HO.out.ty _ hm).lt; omega)
        clear hby hcy hC hat hx hcn hWy
        go_upto_region 6 with fail
        rw [← HWY.out]
        clear m0 m1 m2 m3 HWY
        generalize wr.heap.size + 1 = by' at *
        go_wp2_with fail
        refine (cases_any (P := NodesIn f w) w x A2 x.cs.length cc _ HC.out).mono ?_
        rintro e w5 ⟨A5, d5, rfl, y1, y2, y3, hC5, hb5⟩
        have HCY5 := Lib.hid (HCY.out.below hb5)
        have HO5 := Lib.hid (HO2.out.below hb5)
        have HC5 := Lib.hid hC5
        clear hb5 hC5 z0 z1 z2 z3 HC HCY HO2
        generalize casesOf x = cs at *
        go_wp2_with fail
        go_loopw [25] (fun i wi => ∃ j : Nat, j ≤ cs.length ∧ i = .int .i64 j ∧ Hid (CopyAt w wi by' x j) ∧ Hid (OwnsG kNodeQ wi w.heap.size (.slice Ao lo.length co) lo)) (fun i _ => cs.length - (intOf i).toNat)
        case atStart => exact ⟨0, Nat.zero_le _, rfl, HCY5, HO5⟩
        case round =>
          obtain ⟨j, hj, rfl, HCY, HOI⟩ := hrel
          by_cases hjt : j < cs.length
          · obtain ⟨hb0, hty, hnew, b0, b1, b2, A6, c6, l6, b3, hO6, hl6⟩ := HCY.out
            obtain ⟨b2', o2, rfl, hcell⟩ := HC5.out.at (by omega)
            obtain ⟨xb, hx⟩ : ∃ x, cs[j]? = some x := ⟨cs[j], List.getElem?_eq_getElem hjt⟩
            obtain ⟨hxz, g0, vb, g1, hvb⟩ := hcell j xb hx
            obtain ⟨xk, body⟩ := xb
            simp only at g0 g1 hxz hvb
            obtain ⟨A8, d8, rfl, v1, v2, v3⟩ := hvb.form
            replace g0 := carry hb0 g0
            replace g1 := carry hb0 g1
            have hcb : cntP f body ≤ 1000000 := by
              have h1 := HCN.out
              have h2 : cntP f body ≤ cntC f cs := by
                rw [show cs = cs.take j ++ cs.drop j from (List.take_append_drop _ _).symm, cntC_append, drop_at hx, cntC_cons]
                simp only
                omega
              omega
            have i3 : (0 : Int) ≤ (j : Int) := by omega
            have i4 : (j : Int) < (cs.length : Int) := by omega
            have i5 : (j : Int) ≤ (d5 : Int) := by omega
            have e2 : IntKind.i64.wrap ((j : Int) + 1) = (j : Int) + 1 := IntWalk.i64_in _ (by omega)
            obtain ⟨W6, hW6⟩ : ∃ W6, W6 = wr.alloc (.cells #[.string xk, .slice A8 body.length d8] 35) := ⟨_, rfl⟩
            have b6 : Below wr.heap.size wr W6 := by rw [hW6]; exact (Below.refl _ _).alloc (Nat.le_refl _) _
            have s6 := b6.size
            have hbw6 : Below w.heap.size w W6 := hb0.trans (b6.mono hb0.size)
            have K := Lib.hid (IH.out _ body W6.drew (NodesIn.below hbw6.drew f hvb) hcb)
            have hW6' := hW6
            have HCY6 := Lib.hid (HCY.out.below b6.drew)
            have HOI6 := Lib.hid (HOI.out.below b6.drew)
            have HO6 := Lib.hid (hO6.below b6.drew)
            have c36 := carry b6 b3
            have HC36 : Hid (W6.drew.cell? ⟨by', 3, none⟩ = some (.slice A6 l6.length c6)) := Lib.hid c36
            have q0 : W6.cell? ⟨wr.heap.size, 0, none⟩ = some (.string xk) := by rw [hW6]; go_simp
            have q1 : W6.cell? ⟨wr.heap.size, 1, none⟩ = some (.slice A8 body.length d8) := by rw [hW6]; go_simp
            have HQ0 : Hid (W6.drew.cell? ⟨wr.heap.size, 0, none⟩ = some (.string xk)) := Lib.hid q0
            have HQ1 : Hid (W6.drew.cell? ⟨wr.heap.size, 1, none⟩ = some (.slice A8 body.length d8)) := Lib.hid q1
            have HL1 : Hid ((l6.length + 1) * kCaseQ.bytes ≤ 140737488355328) := Lib.hid (by show (l6.length + 1) * 40 ≤ _; omega)
            have HL2 : Hid (l6.length + 1 ≤ 9223372036854775807) := Lib.hid (by omega)
            have HW6 := Lib.hid hW6
            have HLJ := Lib.hid hl6
            have hyw := hty.lt
            have hyne : ¬ by' = wr.heap.size := by omega
            have hyne2 : ¬ wr.heap.size = by' := by omega
            clear hyw
            have HBN : Hid (wr.heap.size ∉ (Value.slice A6 l6.length c6).ownBlock.toList) := Lib.hid (fun hm => by have := (hO6.ty _ hm).lt; omega)
            clear hb0 hty hnew b0 b1 b2 b3 hO6 hcell hx hvb b6 s6 hbw6 hW6 hW6' HCY HOI hcb
            go_upto_region 9 with fail
            rw [← HW6.out]
            clear g0 g1 HW6
            have HBX : Hid (∀ (w7 : World) (A7 : Option Addr) (n7 c7 : Nat), Below W6.drew.heap.size W6.drew w7 → OwnsG kCaseQ (w7.alloc (.cells #[.string xk, .slice A7 n7 c7] 35)) w.heap.size (.slice A6 l6.length c6) l6 ∧
                (∀ i u, (kCaseQ.cells (caseQ xk A7 n7 c7))[i]? = some u → (w7.alloc (.cells #[.string xk, .slice A7 n7 c7] 35)).cell? ⟨w7.heap.size, i, none⟩ = some u) ∧ w.heap.size ≤ (w7.alloc (.cells #[.string xk, .slice A7 n7 c7] 35)).heap.size ∧
                CopyAt w (w7.alloc (.cells #[.string xk, .slice A7 n7 c7] 35)) by' x j ∧ OwnsG kNodeQ (w7.alloc (.cells #[.string xk, .slice A7 n7 c7] 35)) w.heap.size (.slice Ao lo.length co) lo ∧ (w7.alloc (.cells #[.string xk, .slice A7 n7 c7] 35)).cell? ⟨by', 3, none⟩ = some (.slice A6 l6.length c6) ∧ (w7.alloc (.cells #[.string xk, .slice A7 n7 c7] 35)).cell? ⟨wr.heap.size, 0, none⟩ = some (.string xk) ∧ (w7.alloc (.cells #[.string xk, .slice A7 n7 c7] 35)).cell? ⟨wr.heap.size, 1, none⟩ = some (.slice A8 body.length d8)) := Lib.hid (fun w7 A7 n7 c7 hb => by
              have h1 : Below w7.heap.size w7 (w7.alloc (.cells #[.string xk, .slice A7 n7 c7] 35)) := (Below.refl _ _).alloc (Nat.le_refl _) _
              have h2 := (HCY6.out.below hb).below h1
              refine ⟨(HO6.out.below hb).below h1, fun i u hu => ?_, h2.1.size, h2, (HOI6.out.below hb).below h1, carry h1 (carry hb HC36.out), carry h1 (carry hb HQ0.out), carry h1 (carry hb HQ1.out)⟩
              match i, hu with
              | 0, hu => cases hu; go_simp
              | 1, hu => cases hu; go_simp)
            go_region_law (first
                | (go_simp; go_at_call 12; with_reducible refine K.out.mono ?_; rintro e w7 ⟨⟨A7, n7, c7, rfl⟩, hb7⟩; have r3 := carry hb7 HC36.out; have r0 := carry hb7 HQ0.out; have r1 := carry hb7 HQ1.out; have HH := Lib.hid (HBX.out w7 A7 n7 c7 hb7); have r3x := HH.out.2.2.2.2.2.1; clear hb7)
                | (apply step_append_gB (k := kCaseQ) (s := .tmp 30) (x := .tmp 37) (t := caseQ xk _ _ _) (hown := HH.out.1) (hc := HH.out.2.1) (hb := HH.out.2.2.1) (hn := HL1.out) (hn2 := HL2.out); (any_goals rfl); intro v' w8 ho hoff hfr; obtain ⟨A9, c9, rfl, _⟩ := ho.form; have r0' := hoff.cell HH.out.2.2.2.2.2.2.1 HBN.out; have r1' := hoff.cell HH.out.2.2.2.2.2.2.2 HBN.out; have t3 := hoff.cell HH.out.2.2.2.2.2.1 (HH.out.2.2.2.1.2.1.not HH.out.1 (by decide)); have f3 := (HH.out.2.2.2.1.2.1.off hoff (HH.out.2.2.2.1.2.1.not HH.out.1 (by decide))).frozen 3; have HC9 := Lib.hid (CopyAt.keyed HH.out.2.2.2.1 HH.out.2.2.2.2.2.1 HH.out.1 HLJ.out hoff ho); have HN9 := Lib.hid (HH.out.2.2.2.2.1.off hoff (HH.out.2.2.2.2.1.apart HH.out.1 (by decide))); clear ho hfr hoff))
            all_goals (rw [List.length_append, List.length_singleton] at HC9)
            all_goals (have HN10 : Hid (OwnsG kNodeQ _ w.heap.size (.slice Ao lo.length co) lo) := Lib.hid (HN9.out.off ((Off.refl _ _).setCell ⟨by', 3, none⟩ (.slice A9 (l6.length + 1) c9) (List.mem_singleton.2 rfl)) (fun g hg hm => HBYO.out (by simp only [List.mem_singleton] at hm; subst hm; simp [hg]))))
            all_goals (clear HH HBX K HN9)
            all_goals (go_wp2_with fail; go_roundw; (case rel => exact ⟨j + 1, by omega, by go_num, HC9, HN10⟩); (case measure => simp [intOf]; omega))
          · obtain rfl : j = cs.length := by omega
            obtain ⟨hb0, hty, hnew, b0, b1, b2, A6, c6, l6, b3, hO6, hl6⟩ := HCY.out
            obtain ⟨W6, hW6⟩ : ∃ W6, W6 = wr.alloc (.cells #[.int .i64 x.kd, .string x.t, .int .i64 x.off, .slice A6 l6.length c6] 32) := ⟨_, rfl⟩
            have b6 : Below wr.heap.size wr W6 := by rw [hW6]; exact (Below.refl _ _).alloc (Nat.le_refl _) _
            have HX6 : Hid (∀ i u, (kNodeQ.cells (nodeQ x.kd x.t x.off A6 l6.length c6))[i]? = some u → W6.cell? ⟨wr.heap.size, i, none⟩ = some u) := Lib.hid (fun i u hu => by
              rw [hW6]
              match i, hu with
              | 0, hu => cases hu; go_simp
              | 1, hu => cases hu; go_simp
              | 2, hu => cases hu; go_simp
              | 3, hu => cases hu; go_simp)
            have HO6 := Lib.hid (HOI.out.below b6)
            have HS6 : Hid (w.heap.size ≤ W6.heap.size) := Lib.hid (Nat.le_trans hb0.size b6.size)
            have HB6 : Hid (Below w.heap.size w W6) := Lib.hid (hb0.trans (b6.mono hb0.size))
            have hk6 : k < 1000000 := by omega
            have HL1 : Hid ((lo.length + 1) * kNodeQ.bytes ≤ 140737488355328) := Lib.hid (by show (lo.length + 1) * 56 ≤ _; omega)
            have HL2 : Hid (lo.length + 1 ≤ 9223372036854775807) := Lib.hid (by omega)
            have HW6 := Lib.hid hW6
            have HLO := Lib.hid hlo
            have HO6b := HO6
            rw [hW6] at HO6 HX6 HS6
            clear hb0 hty hnew hW6 hO6 hl6 b6 HCY HOI
            go_wp2_with (at_builtin; refine wpList_append_gB (k := kNodeQ) rfl _ _ rfl (nodeQ x.kd x.t x.off A6 l6.length c6) rfl rfl HO6.out HX6.out HS6.out HL1.out HL2.out ?_; intro v' w8 ho hoff hfr; rw [← HW6.out] at hoff; obtain ⟨A9, c9, rfl, h91, h92, _, h93⟩ := ho.form; have HO8 := Lib.hid ho; have HB8 : Hid (Below w.heap.size w w8) := Lib.hid (HB6.out.trans (HO6b.out.grown hoff HB6.out.size)); clear ho hoff hfr h93)
            have hcn := HCN.out
            refine ⟨⟨k + 1, A9, c9, lo ++ [nodeQ x.kd x.t x.off A6 l6.length c6], by omega, by go_num, by simp, by simp; omega, HO8, HB8, Lib.hid (by omega)⟩, ?_⟩
            simp [intOf]; omega
      · obtain rfl : k = ms.length := by omega
        go_wp2_with fail
        go_ret
        exact ⟨⟨_, _, _, rfl⟩, HB.out⟩
end Go.Proofs.YthlcjlmaaaappaaDoor
