/- code.Compile and Len. -/
import Derived.Test.YthlcjlmaaaappaaDoorCodeAdd
import Derived.Test.YthlcjlmaaaappaaDoorCodeCopied
import Derived.Test.YthlcjlmaaaappaaDoorCheckT
namespace Go.Proofs.YthlcjlmaaaappaaDoor
open Go.RowKit

theorem code_len (A A2 : Option Addr) (n c n2 c2 : Nat) (w : World) :
    Calls Tryd.prog 6 #[.agg #[.slice A n c, .slice A2 n2 c2]] w fun e w' => e = .returned (.int .i64 n) ∧ Below w.heap.size w w' := by
  go_enter Tryd.func6, Tryd.ntmps6
  go_wp2_with fail
  go_ret
  exact ⟨rfl, (by (repeat (first | with_reducible exact Below.refl _ _ | with_reducible refine bel_set ?_ ?_ | with_reducible refine bel_alloc ?_ ?_ | with_reducible refine Below.drew ?_ | with_reducible refine bel_drewN _ ?_ | with_reducible refine bel_call ?_ (by assumption) ?_)); all_goals (first | (simp; done) | omega | (simp; omega)))⟩

set_option maxHeartbeats 4000000 in
theorem code_no (f : Nat) (v : Value) (ms : List Nd) (w : World) (hE : RuleEnv w) (hK : MKinds w) (hN : NodesIn f w v ms) (h : msgP f ms ≠ 0) :
    Calls Tryd.prog 5 #[v] w fun e w' => e = .returned (.tuple #[.agg #[.slice none 0 0, .slice none 0 0], errT (msgP f ms)]) ∧ Below w.heap.size w w' := by
  obtain ⟨A, c, rfl, hc, hc2, hl⟩ := hN.form
  have HE := Lib.hid hE
  have HK := Lib.hid hK
  have HN := Lib.hid hN
  have HP := Lib.hid h
  have K := Lib.hid (fun W (hb : Below w.heap.size w W) => msg_any f _ ms W (HE.out.below hb) (HK.out.below hb) (NodesIn.below hb f HN.out))
  generalize msgP f ms = E at *
  clear hE hK hN h
  go_enter Tryd.func5, Tryd.ntmps5
  go_wp2_with fail
  refine (K.out _ (by (repeat (first | with_reducible exact Below.refl _ _ | with_reducible refine bel_set ?_ ?_ | with_reducible refine bel_alloc ?_ ?_ | with_reducible refine Below.drew ?_ | with_reducible refine bel_drewN _ ?_ | with_reducible refine bel_call ?_ (by assumption) ?_)); all_goals (first | (simp; done) | omega | (simp; omega)))).mono ?_
  rintro e w1 ⟨rfl, hb1⟩
  have hb0 : Below w.heap.size w (w.alloc (.cells #[.slice none 0 0, .slice none 0 0] 25)) := (by (repeat (first | with_reducible exact Below.refl _ _ | with_reducible refine bel_set ?_ ?_ | with_reducible refine bel_alloc ?_ ?_ | with_reducible refine Below.drew ?_ | with_reducible refine bel_drewN _ ?_ | with_reducible refine bel_call ?_ (by assumption) ?_)); all_goals (first | (simp; done) | omega | (simp; omega)))
  have HB1 := Lib.hid (hb0.trans (hb1.mono hb0.size))
  have E0 : errOf E = errT E := if_neg HP.out
  rw [E0]
  have c0 : w1.cell? ⟨w.heap.size, 0, none⟩ = some (.slice none 0 0) := carry hb1 (by go_simp)
  have c1 : w1.cell? ⟨w.heap.size, 1, none⟩ = some (.slice none 0 0) := carry hb1 (by go_simp)
  have f0 : TyAt w1 w.heap.size 25 := (TyAt.new _ _ _).below hb1
  have f1 := f0.frozen 0
  have f2 := f0.frozen 1
  clear hb0 hb1 E0 K
  go_wp2_with fail
  exact bodyPost_ret (v := .tuple #[.agg #[.slice none 0 0, .slice none 0 0], errT E]) (by simp [results, Tryd.results5, go_sem, c0, c1]) rfl ⟨rfl, bel_set (bel_set HB1.out (Nat.le_refl _)) (Nat.le_refl _)⟩

set_option maxHeartbeats 4000000 in
theorem code_ok (f : Nat) (v : Value) (ms : List Nd) (w : World) (hE : RuleEnv w) (hK : MKinds w) (hN : NodesIn f w v ms) (h : msgP f ms = 0) :
    Calls Tryd.prog 5 #[v] w fun e w' => (∃ A c A2 n2 c2, e = .returned (.tuple #[.agg #[.slice A (cntP f ms) c, .slice A2 n2 c2], .nilIface])) ∧ Below w.heap.size w w' := by
  obtain ⟨A, c, rfl, hc, hc2, hl⟩ := hN.form
  have HE := Lib.hid hE
  have HK := Lib.hid hK
  have HN := Lib.hid hN
  have HP := Lib.hid h
  have K := Lib.hid (fun W (hb : Below w.heap.size w W) => msg_any f _ ms W (HE.out.below hb) (HK.out.below hb) (NodesIn.below hb f HN.out))
  clear hE hK hN h
  go_enter Tryd.func5, Tryd.ntmps5
  go_wp2_with fail
  refine (K.out _ (by (repeat (first | with_reducible exact Below.refl _ _ | with_reducible refine bel_set ?_ ?_ | with_reducible refine bel_alloc ?_ ?_ | with_reducible refine Below.drew ?_ | with_reducible refine bel_drewN _ ?_ | with_reducible refine bel_call ?_ (by assumption) ?_)); all_goals (first | (simp; done) | omega | (simp; omega)))).mono ?_
  rintro e w1 ⟨rfl, hb1⟩
  have hb0 : Below w.heap.size w (w.alloc (.cells #[.slice none 0 0, .slice none 0 0] 25)) := (by (repeat (first | with_reducible exact Below.refl _ _ | with_reducible refine bel_set ?_ ?_ | with_reducible refine bel_alloc ?_ ?_ | with_reducible refine Below.drew ?_ | with_reducible refine bel_drewN _ ?_ | with_reducible refine bel_call ?_ (by assumption) ?_)); all_goals (first | (simp; done) | omega | (simp; omega)))
  have HB1 := Lib.hid (hb0.trans (hb1.mono hb0.size))
  have E0 : errOf (msgP f ms) = .nilIface := by rw [HP.out]; rfl
  rw [E0]
  have c0 : w1.cell? ⟨w.heap.size, 0, none⟩ = some (.slice none 0 0) := carry hb1 (by go_simp)
  have c1 : w1.cell? ⟨w.heap.size, 1, none⟩ = some (.slice none 0 0) := carry hb1 (by go_simp)
  have f0 : TyAt w1 w.heap.size 25 := (TyAt.new _ _ _).below hb1
  have hs1 : w.heap.size < w1.heap.size := f0.lt
  have hcn : cntP f ms ≤ 60 := (msg_small HP.out).1
  have HCN := Lib.hid hcn
  have HF0 := Lib.hid f0
  have HC0 := Lib.hid c0
  have HC1 := Lib.hid c1
  obtain ⟨W1, hW1⟩ : ∃ W1, W1 = w1.alloc (.cells #[.slice none 0 0, .slice none 0 0] 25) := ⟨_, rfl⟩
  have b1 : Below w1.heap.size w1 W1 := by rw [hW1]; exact (by (repeat (first | with_reducible exact Below.refl _ _ | with_reducible refine bel_set ?_ ?_ | with_reducible refine bel_alloc ?_ ?_ | with_reducible refine Below.drew ?_ | with_reducible refine bel_drewN _ ?_ | with_reducible refine bel_call ?_ (by assumption) ?_)); all_goals (first | (simp; done) | omega | (simp; omega)))
  have hbW := HB1.out.trans (b1.mono HB1.out.size)
  have hA : CodeAt W1 w1.heap.size w.heap.size 0 (.slice none 0 0) := ⟨⟨by rw [hW1]; go_simp, .slice none 0 0, by rw [hW1]; go_simp⟩, by rw [hW1]; exact TyAt.new _ _ _, [], rfl, OwnsG.nil _ _⟩
  have KA := Lib.hid (code_add w w1.heap.size w.heap.size HB1.out.size (Nat.le_refl _) f _ ms 0 _ W1 HN.out hbW hA (Nat.le_trans HB1.out.size b1.size) (by omega))
  have HA := Lib.hid hA
  have HBW := Lib.hid hbW
  have HF1 := Lib.hid (HF0.out.below b1)
  have HC0' := Lib.hid (carry b1 c0)
  have HC1' := Lib.hid (carry b1 c1)
  have HS1 : Hid (w1.heap.size < W1.heap.size) := Lib.hid (by rw [hW1]; simp)
  rw [Nat.zero_add] at KA
  clear hb0 hb1 E0 K f0 c0 c1 hcn hbW hA b1
  go_wp2_with fail
  rw [← hW1]
  clear hW1
  refine KA.out.mono ?_
  rintro e w2 ⟨rfl, hct⟩
  have hb2 : Below w1.heap.size W1 w2 := by
    obtain ⟨_, _, _, h3⟩ := hct
    exact h3.toBelow (by simp [Value.ownBlock]) (Nat.le_of_lt HS1.out)
  have hbw2 := HBW.out.trans (hct.toBelow HA.out HB1.out.size (Nat.le_refl _) HBW.out.size)
  obtain ⟨sv, ⟨⟨hp0, u1, hp1⟩, hpT, hst⟩, hfr, hoff⟩ := hct
  obtain ⟨A3, c3, rfl, h31, h32, h33⟩ := hst.form
  have hr0 := hoff.cell HC0'.out (by simp [Value.ownBlock]; omega)
  have hr1 := hoff.cell HC1'.out (by simp [Value.ownBlock]; omega)
  have hrT := HF1.out.off hoff (by simp [Value.ownBlock]; omega)
  have K3 := Lib.hid (code_copied f _ ms w2 (NodesIn.below hbw2 f HN.out) (by have := HCN.out; omega))
  have HBW2 := Lib.hid hbw2
  have HP0 := Lib.hid hp0
  have HP1 := Lib.hid hp1
  have HPT := Lib.hid hpT
  have HR0 := Lib.hid hr0
  have HR1 := Lib.hid hr1
  have HRT := Lib.hid hrT
  clear hbw2 hp0 hp1 hpT hr0 hr1 hrT hst hfr hoff h33 hb2
  go_wp2_with fail
  refine K3.out.mono ?_
  rintro e w3 ⟨⟨A4, n4, c4, rfl⟩, hb3⟩
  have HB3 := Lib.hid (HBW2.out.trans (hb3.mono HBW2.out.size))
  have p0 := carry hb3 HP0.out
  have p1 := carry hb3 HP1.out
  have pt := (HPT.out.below hb3).frozen 1
  have r0 := carry hb3 HR0.out
  have r1 := carry hb3 HR1.out
  have rt0 := (HRT.out.below hb3).frozen 0
  have rt1 := (HRT.out.below hb3).frozen 1
  have hne : ¬ w.heap.size = w1.heap.size := by omega
  have hne2 : ¬ w1.heap.size = w.heap.size := by omega
  clear hb3 K3
  go_wp2_with fail
  have q0 : ((((w3.setCell ⟨w1.heap.size, 1, none⟩ (.slice A4 n4 c4)).setCell ⟨w.heap.size, 0, none⟩ (.slice A3 (cntP f ms) c3)).setCell ⟨w.heap.size, 1, none⟩ (.slice A4 n4 c4))).cell? ⟨w.heap.size, 0, none⟩ = some (.slice A3 (cntP f ms) c3) := cell_other (cell_same (cell_other r0 (by first | (simp; done) | (simp; omega)))) (by simp)
  have q1 : ((((w3.setCell ⟨w1.heap.size, 1, none⟩ (.slice A4 n4 c4)).setCell ⟨w.heap.size, 0, none⟩ (.slice A3 (cntP f ms) c3)).setCell ⟨w.heap.size, 1, none⟩ (.slice A4 n4 c4))).cell? ⟨w.heap.size, 1, none⟩ = some (.slice A4 n4 c4) := cell_same (cell_other (cell_other r1 (by first | (simp; done) | (simp; omega))) (by simp))
  exact bodyPost_ret (v := .tuple #[.agg #[.slice A3 (cntP f ms) c3, .slice A4 n4 c4], .nilIface]) (by simp [results, Tryd.results5, go_sem, q0, q1]) rfl ⟨⟨_, _, _, _, _, rfl⟩, bel_set (bel_set (bel_set HB3.out HB1.out.size) (Nat.le_refl _)) (Nat.le_refl _)⟩
end Go.Proofs.YthlcjlmaaaappaaDoor
