/- nout.Format of a number with nothing behind the point. -/
import Derived.Test.YtdpdnanjanceeaaDoorNoutParts
import Derived.Test.YtdpdnanjanceeaaDoorTagParse
import Derived.Laws.IdiomStrings
namespace Go.Proofs.YtdpdnanjanceeaaDoor
open Go.RowKit

def zeros (k : Nat) : ByteArray := ⟨(Lib.repeatL [48] k).toArray⟩
theorem zeros_size (k : Nat) : (zeros k).size = k := by show (Lib.repeatL [48] k).length = k; rw [Lib.repeatL_length]; simp
def noutText (neg : Bool) (p T : ByteArray) (f : Nat) (q : ByteArray) : ByteArray :=
  ⟨((if neg = true then [45] else []) ++ p.data.toList ++ T.data.toList ++ (if f = 0 then [] else 46 :: Lib.repeatL [48] f) ++ q.data.toList).toArray⟩

theorem conv46 (w : World) : (convert 108 9 (.slice (some ⟨w.heap.size, 0, none⟩) 1 1)).run Tryd.prog (w.alloc (.cells #[.int .u8 46] 5)) = .ok (.string ⟨#[46]⟩) (w.alloc (.cells #[.int .u8 46] 5)) := by
  refine run_convert_bytes_back _ 108 9 5 _ 1 [46] Tryd.underlying108 Tryd.underlying5 Tryd.underlying9 (fun j hj => ?_)
  have h0 : j = 0 := by simp at hj; omega
  subst h0
  rw [Go.WideShapes.add_plain, World.cell?_alloc_at _ _ _ _ rfl]
  rfl

/-- The three boxes lie as they lay. -/
def Fr (w : World) (p q : ByteArray) (a f xf g g2 n : Int) (W : World) : Prop :=
  ((W.cell? ⟨w.heap.size, 0, none⟩ = some (.string p) ∧ W.cell? ⟨w.heap.size, 1, none⟩ = some (.string q)) ∧ (W.cell? ⟨w.heap.size, 2, none⟩ = some (.int .i64 a) ∧ W.cell? ⟨w.heap.size, 3, none⟩ = some (.int .i64 f)) ∧
    (W.cell? ⟨w.heap.size, 4, none⟩ = some (.int .i64 xf) ∧ W.cell? ⟨w.heap.size, 5, none⟩ = some (.int .i64 g) ∧ W.cell? ⟨w.heap.size, 6, none⟩ = some (.int .i64 g2))) ∧
  (W.cell? ⟨w.heap.size + 1, 0, none⟩ = some (.int .u8 46) ∧ W.cell? ⟨w.heap.size + 1, 1, none⟩ = some (.int .u8 44)) ∧
  (W.cell? ⟨w.heap.size + 2, 0, none⟩ = some (.int .i64 n) ∧ W.cell? ⟨w.heap.size + 2, 1, none⟩ = some (.int .i64 0)) ∧
  (W.frozen? ⟨w.heap.size + 2, 0, none⟩ = false ∧ W.frozen? ⟨w.heap.size + 2, 1, none⟩ = false) ∧ w.heap.size + 3 ≤ W.heap.size ∧ Below w.heap.size w W

theorem Fr.step {w W W' : World} {p q : ByteArray} {a f xf g g2 n : Int} (h : Fr w p q a f xf g g2 n W) (hb : Below W.heap.size W W') : Fr w p q a f xf g g2 n W' := by
  obtain ⟨⟨⟨h0, h1⟩, ⟨h2, h3⟩, h4, h5, h6⟩, ⟨k0, k1⟩, ⟨d0, d1⟩, ⟨f0, f1⟩, hs, hB⟩ := h
  exact ⟨⟨⟨carry hb h0, carry hb h1⟩, ⟨carry hb h2, carry hb h3⟩, carry hb h4, carry hb h5, carry hb h6⟩, ⟨carry hb k0, carry hb k1⟩, ⟨carry hb d0, carry hb d1⟩, ⟨carryF hb (by omega) f0, carryF hb (by omega) f1⟩, Nat.le_trans hs hb.size, hB.trans (hb.mono (by omega))⟩

theorem Fr.start (w : World) (p q : ByteArray) (a f xf g g2 n : Int) : Fr w p q a f xf g g2 n (((w.alloc (.cells #[.string p, .string q, .int .i64 a, .int .i64 f, .int .i64 xf, .int .i64 g, .int .i64 g2] 65)).alloc (.cells #[.int .u8 46, .int .u8 44] 61)).alloc (.cells #[.int .i64 n, .int .i64 0] 67)) := by
  refine ⟨⟨⟨?_, ?_⟩, ⟨?_, ?_⟩, ?_, ?_, ?_⟩, ⟨?_, ?_⟩, ⟨?_, ?_⟩, ⟨?_, ?_⟩, ?_, ?_⟩
  all_goals (first | (go_simp; done) | (simp; done) | exact (by (repeat (first | with_reducible exact Below.refl _ _ | with_reducible refine bel_set ?_ ?_ | with_reducible refine bel_alloc ?_ ?_ | with_reducible refine Below.drew ?_ | with_reducible refine bel_drewN _ ?_ | with_reducible refine bel_call ?_ (by assumption) ?_)); all_goals (first | (simp; done) | omega | (simp; omega))))

theorem Fr.store {w W : World} {p q : ByteArray} {a f xf g g2 n : Int} (h : Fr w p q a f xf g g2 n W) : Fr w p q a f xf g g2 n ((W.setCell ⟨w.heap.size + 2, 0, none⟩ (.int .i64 n)).setCell ⟨w.heap.size + 2, 1, none⟩ (.int .i64 0)) := by
  obtain ⟨⟨⟨h0, h1⟩, ⟨h2, h3⟩, h4, h5, h6⟩, ⟨k0, k1⟩, ⟨d0, d1⟩, ⟨f0, f1⟩, hs, hB⟩ := h
  refine ⟨⟨⟨?_, ?_⟩, ⟨?_, ?_⟩, ?_, ?_, ?_⟩, ⟨?_, ?_⟩, ⟨?_, ?_⟩, ⟨?_, ?_⟩, ?_, ?_⟩
  all_goals (first | (go_simp; done) | (simp; omega) | exact (by (repeat (first | with_reducible exact Below.refl _ _ | with_reducible refine bel_set ?_ ?_ | with_reducible refine bel_alloc ?_ ?_ | with_reducible refine Below.drew ?_ | with_reducible refine bel_drewN _ ?_ | with_reducible refine bel_call ?_ (by assumption) ?_)); all_goals (first | (simp; done) | omega | (simp; omega))))

theorem add_let (x y : ByteArray) (h : x.size + y.size ≤ 100000) : ∃ z : ByteArray, z = x ++ y ∧ ∀ W : World, (Op.stringOp .add x y).run Tryd.prog W = .ok (.string z) W :=
  ⟨x ++ y, rfl, fun W => run_string_add_sum W _ _ (by omega)⟩
theorem Fr.bel {w W : World} {p q : ByteArray} {a f xf g g2 n : Int} (h : Fr w p q a f xf g g2 n W) : Below w.heap.size w W := h.2.2.2.2.2

set_option maxHeartbeats 4000000 in
set_option maxRecDepth 100000 in
theorem nout_format (p q : ByteArray) (a f : Nat) (xf g g2 n : Int) (TX D T : ByteArray) (neg : Bool) (k : Nat) (hk : k = a - D.size) (w : World) (hM : MaxL w) (hp : p.size ≤ 5) (hq : q.size ≤ 5) (hE : patErr p q a f xf g g2 = 0) (ha : a ≤ 9) (hf : f ≤ 6) (hx : 0 ≤ xf) (hn : decOk n 0)
    (hT : ∀ W : World, Below w.heap.size w W → Calls Tryd.prog 61 #[decV n 0] W fun e w' => e = .returned (.string TX) ∧ Below W.heap.size W w') (hTX : TX.size ≤ 20)
    (hcut : Lib.cut TX.data.toList [46] = (TX.data.toList, [], false)) (htp : Lib.trimPrefix TX.data.toList [45] = D.data.toList) (hpf : Lib.hasPrefix TX.data.toList [45] = neg) (hD : D.size ≤ 20)
    (hG : ∀ W : World, Calls Tryd.prog 25 #[.string (zeros k ++ D), .int .i64 g, .int .i64 g2, .int .u8 44] W fun e w' => e = .returned (.tuple #[.string T, .nilIface]) ∧ Below W.heap.size W w') (hTs : T.size ≤ 200) :
    Calls Tryd.prog 24 #[patV p q a f xf g g2, symV, decV n 0] w fun e w' => e = .returned (.tuple #[.string (noutText neg p T f q), .nilIface]) ∧ Below w.heap.size w w' := by
  have KC : Hid (∀ W : World, Calls Tryd.prog 56 #[patV p q a f xf g g2, symV] W fun e w' => e = .returned .nilIface ∧ Below W.heap.size W w') := Lib.hid (fun W => by have := nout_check p q a f xf g g2 W (by omega) (by omega); rw [hE] at this; exact this)
  have KD := Lib.hid (fun W => dec_check_ok n 0 W hn)
  have KR := Lib.hid (fun W => nout_trimmed n W)
  have KT := Lib.hid hT
  have KG := Lib.hid hG
  have KM : Hid (∀ W : World, Below w.heap.size w W → Calls Tryd.prog 60 #[.string TX, .string ⟨#[46]⟩] W fun e w' => e = .returned (.tuple #[.string TX, .string ⟨#[]⟩, .bool false]) ∧ Below W.heap.size W w') := Lib.hid (fun W hb => by
    obtain ⟨m, hm⟩ := hM.below hb
    refine (Tryd.strings_Cut TX ⟨#[46]⟩ m W (by omega) hm).mono ?_
    rintro e w' ⟨rfl, k, rfl⟩
    refine ⟨?_, bel_drewN _ (Below.refl _ _)⟩
    rw [show (⟨#[46]⟩ : ByteArray).data.toList = [46] from rfl, hcut])
  have KP : Hid (∀ W : World, Calls Tryd.prog 62 #[.string TX, .string ⟨#[45]⟩] W fun e w' => e = .returned (.tuple #[.string D, .bool neg]) ∧ W = w') := Lib.hid (fun W => by
    refine (Tryd.strings_CutPrefix TX ⟨#[45]⟩ W).mono ?_
    rintro e w' ⟨rfl, rfl⟩
    refine ⟨?_, rfl⟩
    rw [show (⟨#[45]⟩ : ByteArray).data.toList = [45] from rfl, htp, hpf])
  have KF : Hid (∀ W : World, Calls Tryd.prog 63 #[.string ⟨#[48]⟩, .int .i64 f] W fun e w' => e = .returned (.string (zeros f)) ∧ Below W.heap.size W w') := Lib.hid (fun W => Tryd.strings_Repeat ⟨#[48]⟩ f W (by omega) (by show 1 * f ≤ _; omega))
  have KA : Hid (∀ W : World, Calls Tryd.prog 63 #[.string ⟨#[48]⟩, .int .i64 k] W fun e w' => e = .returned (.string (zeros k)) ∧ Below W.heap.size W w') := Lib.hid (fun W => Tryd.strings_Repeat ⟨#[48]⟩ k W (by omega) (by show 1 * k ≤ _; omega))
  have hfz := zeros_size f
  have hkz := zeros_size k
  obtain ⟨B, eB, r1⟩ := add_let ⟨#[]⟩ (zeros f) (by rw [hfz]; show 0 + f ≤ _; omega)
  have hBs : B.size = f := by rw [eB, ByteArray.size_append, hfz]; show 0 + f = f; omega
  obtain ⟨V, eV, r2⟩ := add_let (zeros k) D (by omega)
  rw [← eV] at KG
  obtain ⟨U, eU, r3⟩ := add_let ⟨#[46]⟩ B (by show 1 + _ ≤ _; omega)
  have hUs : U.size = 1 + f := by rw [eU, ByteArray.size_append, hBs]; rfl
  obtain ⟨C, eC, r4⟩ := add_let T U (by omega)
  have hCs : C.size = T.size + U.size := by rw [eC, ByteArray.size_append]
  obtain ⟨X1, eX1, r5⟩ := add_let p T (by omega)
  have hX1 : X1.size = p.size + T.size := by rw [eX1, ByteArray.size_append]
  obtain ⟨X2, eX2, r6⟩ := add_let X1 q (by omega)
  have hX2 : X2.size = X1.size + q.size := by rw [eX2, ByteArray.size_append]
  obtain ⟨X3, eX3, r7⟩ := add_let ⟨#[45]⟩ X2 (by show 1 + _ ≤ _; omega)
  obtain ⟨Y1, eY1, r8⟩ := add_let p C (by omega)
  have hY1 : Y1.size = p.size + C.size := by rw [eY1, ByteArray.size_append]
  obtain ⟨Y2, eY2, r9⟩ := add_let Y1 q (by omega)
  have hY2 : Y2.size = Y1.size + q.size := by rw [eY2, ByteArray.size_append]
  obtain ⟨Y3, eY3, r10⟩ := add_let ⟨#[45]⟩ Y2 (by show 1 + _ ≤ _; omega)
  have G1 : Hid (f = 0 → noutText false p T f q = X2 ∧ noutText true p T f q = X3) := Lib.hid (fun h => by
    unfold noutText
    rw [if_pos h, eX3, eX2, eX1]
    constructor <;> (apply ByteArray.ext; apply Array.ext'; simp))
  have G2 : Hid (f ≠ 0 → noutText false p T f q = Y2 ∧ noutText true p T f q = Y3) := Lib.hid (fun h => by
    unfold noutText
    rw [if_neg h, eY3, eY2, eY1, eC, eU, eB]
    unfold zeros
    constructor <;> (apply ByteArray.ext; apply Array.ext'; simp))
  have B0 : f = 0 → B.toList = [] := fun h => by
    rw [Lib.toList_data]
    have hl : B.data.toList.length = B.size := by simp
    exact List.length_eq_zero_iff.1 (by omega)
  have B1 : f ≠ 0 → ¬ B.toList = [] := fun h hB => by
    rw [Lib.toList_data] at hB
    have hl : B.data.toList.length = B.size := by simp
    rw [hB] at hl
    simp at hl
    omega
  have e1 : IntKind.i64.wrap (f : Int) = f := IntWalk.i64_in _ (by omega)
  have e2 : max 0 (f : Int) = f := by omega
  have e3 : IntKind.i64.wrap ((a : Int) - (D.size : Int)) = (a : Int) - (D.size : Int) := IntWalk.i64_in _ (by omega)
  have e4 : max 0 ((a : Int) - (D.size : Int)) = (k : Int) := by omega
  clear hT hG hcut htp hpf hE hn eB eV eU eC eX1 eX2 eX3 eY1 eY2 eY3 hX1 hX2 hY1 hY2 hCs hUs hBs hfz hkz hk hM hp hq hTs hD hTX ha hf
  go_enter Tryd.func24, Tryd.ntmps24
  go_wp2_with fail
  refine (KC.out _).mono ?_
  rintro e w1 ⟨rfl, hb⟩
  have F1 := Lib.hid ((Fr.start w p q a f xf g g2 n).step hb)
  clear hb
  obtain ⟨⟨⟨h0, h1⟩, ⟨h2, h3⟩, h4, h5, h6⟩, ⟨k0, k1⟩, ⟨d0, d1⟩, ⟨f0, f1⟩, hs, hB⟩ := F1.out
  clear h0 h1 h2 h3 h4 h5 h6 k0 k1
  go_wp2_with fail
  refine (KD.out _).mono ?_
  rintro e w2 ⟨rfl, hb⟩
  have F2 := Lib.hid (F1.out.step hb)
  clear hb F1 d0 d1 f0 f1 hs hB w1
  obtain ⟨⟨⟨h0, h1⟩, ⟨h2, h3⟩, h4, h5, h6⟩, ⟨k0, k1⟩, ⟨d0, d1⟩, ⟨f0, f1⟩, hs, hB⟩ := F2.out
  clear h0 h1 h2 h3 h4 h5 h6 k0 k1
  go_wp2_with fail
  refine (KR.out _).mono ?_
  rintro e w3 ⟨rfl, hb⟩
  have F3 := Lib.hid (F2.out.step hb)
  clear hb F2 d0 d1 f0 f1 hs hB
  obtain ⟨⟨⟨h0, h1⟩, ⟨h2, h3⟩, h4, h5, h6⟩, ⟨k0, k1⟩, ⟨d0, d1⟩, ⟨f0, f1⟩, hs, hB⟩ := F3.out
  have F4 := Lib.hid F3.out.store
  go_wp2_with fail
  refine (KT.out _ F4.out.bel).mono ?_
  rintro e w4 ⟨rfl, hb⟩
  have F5 := Lib.hid (F4.out.step hb)
  clear hb F3 F4 d0 d1 f0 f1 hs hB h0 h1 h2 h3 h4 h5 h6 k0 k1 w2
  go_wp2_with fail
  refine (KM.out _ F5.out.bel).mono ?_
  rintro e w5 ⟨rfl, hb⟩
  have F6 := Lib.hid (F5.out.step hb)
  clear hb F5 
  go_wp2_with fail
  refine (KP.out _).mono ?_
  rintro e w6 ⟨rfl, rfl⟩
  obtain ⟨⟨⟨h0, h1⟩, ⟨h2, h3⟩, h4, h5, h6⟩, ⟨k0, k1⟩, ⟨d0, d1⟩, ⟨f0, f1⟩, hs, hB⟩ := F6.out
  clear h0 h1 h2 h4 h5 h6 k0 k1 d0 d1 f0 f1 hs hB
  go_wp2_with fail
  refine (KF.out _).mono ?_
  rintro e w7 ⟨rfl, hb⟩
  have F7 := Lib.hid (F6.out.step hb)
  clear hb F6 h3
  obtain ⟨⟨⟨h0, h1⟩, ⟨h2, h3⟩, h4, h5, h6⟩, ⟨k0, k1⟩, ⟨d0, d1⟩, ⟨f0, f1⟩, hs, hB⟩ := F7.out
  clear h0 h1 h3 h4 h5 h6 k0 k1 d0 d1 f0 f1 hs hB
  go_wp2_with fail
  refine (KA.out _).mono ?_
  rintro e w8 ⟨rfl, hb⟩
  have F8 := Lib.hid (F7.out.step hb)
  clear hb F7 h2
  obtain ⟨⟨⟨h0, h1⟩, ⟨h2, h3⟩, h4, h5, h6⟩, ⟨k0, k1⟩, ⟨d0, d1⟩, ⟨f0, f1⟩, hs, hB⟩ := F8.out
  clear h0 h1 h2 h3 h4 k0 d0 d1 f0 f1 hs hB
  go_wp2_with fail
  refine (KG.out _).mono ?_
  rintro e w9 ⟨rfl, hb⟩
  have F9 := Lib.hid (F8.out.step hb)
  clear hb F8 h5 h6 k1
  obtain ⟨⟨⟨h0, h1⟩, ⟨h2, h3⟩, h4, h5, h6⟩, ⟨k0, k1⟩, ⟨d0, d1⟩, ⟨f0, f1⟩, hs, hB⟩ := F9.out
  clear h2 h3 h4 h5 h6 k1 d0 d1 f0 f1
  by_cases hf0 : f = 0
  · have b0 := B0 hf0
    have g1 := Lib.hid (G1.out hf0)
    clear G1 G2 B0 B1 r8 r9 r10 r3 r4
    cases neg
    · go_wp2_with fail
      go_ret2
      rw [g1.out.1]
      exact ⟨rfl, (by (repeat (first | with_reducible exact Below.refl _ _ | with_reducible refine bel_set ?_ ?_ | with_reducible refine bel_alloc ?_ ?_ | with_reducible refine Below.drew ?_ | with_reducible refine bel_drewN _ ?_ | with_reducible refine bel_call ?_ (by assumption) ?_)); all_goals (first | (simp; done) | omega | (simp; omega)))⟩
    · go_wp2_with fail
      go_ret2
      rw [g1.out.2]
      exact ⟨rfl, (by (repeat (first | with_reducible exact Below.refl _ _ | with_reducible refine bel_set ?_ ?_ | with_reducible refine bel_alloc ?_ ?_ | with_reducible refine Below.drew ?_ | with_reducible refine bel_drewN _ ?_ | with_reducible refine bel_call ?_ (by assumption) ?_)); all_goals (first | (simp; done) | omega | (simp; omega)))⟩
  · have b1 := B1 hf0
    have b2 : B.toList.isEmpty = false := by cases hq : B.toList with | nil => exact absurd hq b1 | cons x xl => rfl
    have g2' := Lib.hid (G2.out hf0)
    have CV := conv46 w9
    have u0 : (w9.alloc (.cells #[.int .u8 46] 5)).cell? ⟨w.heap.size, 0, none⟩ = some (.string p) := carry ((Below.refl _ _).alloc (Nat.le_refl _) _) h0
    have u1 : (w9.alloc (.cells #[.int .u8 46] 5)).cell? ⟨w.heap.size, 1, none⟩ = some (.string q) := carry ((Below.refl _ _).alloc (Nat.le_refl _) _) h1
    clear G1 G2 B0 B1 r5 r6 r7
    cases neg
    · go_wp2_with fail
      go_ret2
      rw [g2'.out.1]
      exact ⟨rfl, (by (repeat (first | with_reducible exact Below.refl _ _ | with_reducible refine bel_set ?_ ?_ | with_reducible refine bel_alloc ?_ ?_ | with_reducible refine Below.drew ?_ | with_reducible refine bel_drewN _ ?_ | with_reducible refine bel_call ?_ (by assumption) ?_)); all_goals (first | (simp; done) | omega | (simp; omega)))⟩
    · go_wp2_with fail
      go_ret2
      rw [g2'.out.2]
      exact ⟨rfl, (by (repeat (first | with_reducible exact Below.refl _ _ | with_reducible refine bel_set ?_ ?_ | with_reducible refine bel_alloc ?_ ?_ | with_reducible refine Below.drew ?_ | with_reducible refine bel_drewN _ ?_ | with_reducible refine bel_call ?_ (by assumption) ?_)); all_goals (first | (simp; done) | omega | (simp; omega)))⟩

theorem nout_format_no (p q : ByteArray) (mi mf xf g g2 n : Int) (w : World) (hp : p.size ≤ 9223372036854775807) (hq : q.size ≤ 9223372036854775807) (hE : patErr p q mi mf xf g g2 ≠ 0) :
    Calls Tryd.prog 24 #[patV p q mi mf xf g g2, symV, decV n 0] w fun e w' => e = .returned (.tuple #[.string ⟨#[]⟩, errT (patErr p q mi mf xf g g2)]) ∧ Below w.heap.size w w' := by
  have e0 : errOf (patErr p q mi mf xf g g2) = errT (patErr p q mi mf xf g g2) := by unfold errOf; rw [if_neg hE]
  have KP := Lib.hid (fun W => nout_check p q mi mf xf g g2 W hp hq)
  rw [e0] at KP
  generalize patErr p q mi mf xf g g2 = E at *
  clear e0 hE
  go_enter Tryd.func24, Tryd.ntmps24
  go_wp2_with fail
  refine (KP.out _).mono ?_
  rintro e w1 ⟨rfl, hb1⟩
  have s1 := hb1.size
  simp at s1
  go_wp2_with fail
  go_ret2
  exact ⟨rfl, (by (repeat (first | with_reducible exact Below.refl _ _ | with_reducible refine bel_set ?_ ?_ | with_reducible refine bel_alloc ?_ ?_ | with_reducible refine Below.drew ?_ | with_reducible refine bel_drewN _ ?_ | with_reducible refine bel_call ?_ (by assumption) ?_)); all_goals (first | (simp; done) | omega | (simp; omega)))⟩

theorem npat_text_no (p q : ByteArray) (mi mf xf g g2 : Int) (w : World) (hp : p.size ≤ 9223372036854775807) (hq : q.size ≤ 9223372036854775807) (hE : patErr p q mi mf xf g g2 ≠ 0) :
    Calls Tryd.prog 28 #[patV p q mi mf xf g g2] w fun e w' => e = .returned (.tuple #[.string ⟨#[]⟩, errT (patErr p q mi mf xf g g2)]) ∧ Below w.heap.size w w' := by
  have e0 : errOf (patErr p q mi mf xf g g2) = errT (patErr p q mi mf xf g g2) := by unfold errOf; rw [if_neg hE]
  have KP := Lib.hid (fun W => pat_check p q mi mf xf g g2 W hp hq)
  rw [e0] at KP
  generalize patErr p q mi mf xf g g2 = E at *
  clear e0 hE
  go_enter Tryd.func28, Tryd.ntmps28
  go_wp2_with fail
  refine (KP.out _).mono ?_
  rintro e w1 ⟨rfl, hb1⟩
  have s1 := hb1.size
  simp at s1
  go_wp2_with fail
  go_ret2
  exact ⟨rfl, (by (repeat (first | with_reducible exact Below.refl _ _ | with_reducible refine bel_set ?_ ?_ | with_reducible refine bel_alloc ?_ ?_ | with_reducible refine Below.drew ?_ | with_reducible refine bel_drewN _ ?_ | with_reducible refine bel_call ?_ (by assumption) ?_)); all_goals (first | (simp; done) | omega | (simp; omega)))⟩
end Go.Proofs.YtdpdnanjanceeaaDoor
