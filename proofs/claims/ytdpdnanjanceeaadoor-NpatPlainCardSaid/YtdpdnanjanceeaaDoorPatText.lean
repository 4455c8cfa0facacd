/- npat.Text: without groups, and of one constant. -/
import Derived.Test.YtdpdnanjanceeaaDoorPatCheck
import Derived.Deep.RegionHeld3
namespace Go.Proofs.YtdpdnanjanceeaaDoor
open Go.RowKit

def patBody (a b : Nat) : List UInt8 := Lib.repeatL [48] a ++ (if b = 0 then [] else 46 :: Lib.repeatL [48] b)
def patText (p q : ByteArray) (a b : Nat) : ByteArray := ⟨(p.data.toList ++ patBody a b ++ q.data.toList).toArray⟩

theorem pat_cells {w w1 : World} {p q : ByteArray} {mi mf xf g g2 : Int} {T : TypeId} (hb : Below (w.alloc (.cells #[.string p, .string q, .int .i64 mi, .int .i64 mf, .int .i64 xf, .int .i64 g, .int .i64 g2] T)).heap.size (w.alloc (.cells #[.string p, .string q, .int .i64 mi, .int .i64 mf, .int .i64 xf, .int .i64 g, .int .i64 g2] T)) w1) :
    (w1.cell? ⟨w.heap.size, 0, none⟩ = some (.string p) ∧ w1.cell? ⟨w.heap.size, 1, none⟩ = some (.string q)) ∧ (w1.cell? ⟨w.heap.size, 2, none⟩ = some (.int .i64 mi) ∧ w1.cell? ⟨w.heap.size, 3, none⟩ = some (.int .i64 mf)) ∧
    (w1.cell? ⟨w.heap.size, 4, none⟩ = some (.int .i64 xf) ∧ w1.cell? ⟨w.heap.size, 5, none⟩ = some (.int .i64 g) ∧ w1.cell? ⟨w.heap.size, 6, none⟩ = some (.int .i64 g2)) ∧ w.heap.size + 1 ≤ w1.heap.size ∧ Below w.heap.size w w1 := by
  have s1 := hb.size
  simp at s1
  exact ⟨⟨carry hb (by rw [World.cell?_alloc_at _ _ _ _ rfl]; rfl), carry hb (by rw [World.cell?_alloc_at _ _ _ _ rfl]; rfl)⟩, ⟨carry hb (by rw [World.cell?_alloc_at _ _ _ _ rfl]; rfl), carry hb (by rw [World.cell?_alloc_at _ _ _ _ rfl]; rfl)⟩,
    ⟨carry hb (by rw [World.cell?_alloc_at _ _ _ _ rfl]; rfl), carry hb (by rw [World.cell?_alloc_at _ _ _ _ rfl]; rfl), carry hb (by rw [World.cell?_alloc_at _ _ _ _ rfl]; rfl)⟩, s1, ((Below.refl _ _).alloc (Nat.le_refl _) _).trans (hb.mono (by simp))⟩

set_option maxHeartbeats 2000000 in
theorem npat_text0 (p q : ByteArray) (a b : Nat) (w : World) (hp : p.size ≤ 5) (hq : q.size ≤ 5) (h : patErr p q a b b 0 0 = 0) (ha : 1 ≤ a) (ha2 : a ≤ 9) (hb : b ≤ 6) :
    Calls Tryd.prog 28 #[patV p q a b b 0 0] w fun e w' => e = .returned (.tuple #[.string (patText p q a b), .nilIface]) ∧ Below w.heap.size w w' := by
  have HC : Hid (∀ W : World, Calls Tryd.prog 67 #[patV p q a b b 0 0] W fun e w' => e = .returned .nilIface ∧ Below W.heap.size W w') :=
    Lib.hid (fun W => by have := pat_check p q a b b 0 0 W (by omega) (by omega); rw [h] at this; exact this)
  clear h
  obtain ⟨Z, eZ⟩ : ∃ Z : ByteArray, Z = ⟨(Lib.repeatL [48] a).toArray⟩ := ⟨_, rfl⟩
  obtain ⟨Y, eY⟩ : ∃ Y : ByteArray, Y = ⟨(Lib.repeatL [48] b).toArray⟩ := ⟨_, rfl⟩
  have hZ : Z.size ≤ 9 := by rw [eZ]; show (Lib.repeatL [48] a).length ≤ 9; rw [Lib.repeatL_length]; simp; omega
  have hY : Y.size ≤ 6 := by rw [eY]; show (Lib.repeatL [48] b).length ≤ 6; rw [Lib.repeatL_length]; simp; omega
  have RZ : Hid (∀ W : World, Calls Tryd.prog 63 #[.string ⟨#[48]⟩, .int .i64 a] W fun e w' => e = .returned (.string Z) ∧ Below W.heap.size W w') := Lib.hid (fun W => by rw [eZ]; exact Tryd.strings_Repeat ⟨#[48]⟩ a W (by omega) (by show 1 * a ≤ _; omega))
  have RY : Hid (∀ W : World, Calls Tryd.prog 63 #[.string ⟨#[48]⟩, .int .i64 b] W fun e w' => e = .returned (.string Y) ∧ Below W.heap.size W w') := Lib.hid (fun W => by rw [eY]; exact Tryd.strings_Repeat ⟨#[48]⟩ b W (by omega) (by show 1 * b ≤ _; omega))
  have R0 : Hid (∀ W : World, Calls Tryd.prog 63 #[.string ⟨#[35]⟩, .int .i64 0] W fun e w' => e = .returned (.string ⟨#[]⟩) ∧ W = w') := Lib.hid (fun W => (Tryd.strings_Repeat_zero ⟨#[35]⟩ W).mono (fun _ _ h => ⟨h.1, h.2.symm⟩))
  have r1 : ∀ W : World, (Op.stringOp .add ⟨#[]⟩ Z).run Tryd.prog W = .ok (.string (⟨#[]⟩ ++ Z)) W := fun W => run_string_add_sum W _ _ (by show 0 + _ ≤ _; omega)
  have r2 : ∀ W : World, (Op.stringOp .add ⟨#[46]⟩ Y).run Tryd.prog W = .ok (.string (⟨#[46]⟩ ++ Y)) W := fun W => run_string_add_sum W _ _ (by show 1 + _ ≤ _; omega)
  have r3 : ∀ W : World, (Op.stringOp .add (⟨#[46]⟩ ++ Y) ⟨#[]⟩).run Tryd.prog W = .ok (.string (⟨#[46]⟩ ++ Y ++ ⟨#[]⟩)) W := fun W => run_string_add_sum W _ _ (by rw [ByteArray.size_append]; show 1 + _ + 0 ≤ _; omega)
  have r4 : ∀ W : World, (Op.stringOp .add (⟨#[]⟩ ++ Z) (⟨#[46]⟩ ++ Y ++ ⟨#[]⟩)).run Tryd.prog W = .ok (.string (⟨#[]⟩ ++ Z ++ (⟨#[46]⟩ ++ Y ++ ⟨#[]⟩))) W := fun W => run_string_add_sum W _ _ (by rw [ByteArray.size_append, ByteArray.size_append, ByteArray.size_append]; show 0 + _ + (1 + _ + 0) ≤ _; omega)
  have r5 : ∀ W : World, (Op.stringOp .add p (⟨#[]⟩ ++ Z)).run Tryd.prog W = .ok (.string (p ++ (⟨#[]⟩ ++ Z))) W := fun W => run_string_add_sum W _ _ (by rw [ByteArray.size_append]; show _ + (0 + _) ≤ _; omega)
  have r6 : ∀ W : World, (Op.stringOp .add (p ++ (⟨#[]⟩ ++ Z)) q).run Tryd.prog W = .ok (.string (p ++ (⟨#[]⟩ ++ Z) ++ q)) W := fun W => run_string_add_sum W _ _ (by rw [ByteArray.size_append, ByteArray.size_append]; show _ + (0 + _) + _ ≤ _; omega)
  have r7 : ∀ W : World, (Op.stringOp .add p (⟨#[]⟩ ++ Z ++ (⟨#[46]⟩ ++ Y ++ ⟨#[]⟩))).run Tryd.prog W = .ok (.string (p ++ (⟨#[]⟩ ++ Z ++ (⟨#[46]⟩ ++ Y ++ ⟨#[]⟩)))) W := fun W => run_string_add_sum W _ _ (by rw [ByteArray.size_append, ByteArray.size_append, ByteArray.size_append, ByteArray.size_append]; show _ + (0 + _ + (1 + _ + 0)) ≤ _; omega)
  have r8 : ∀ W : World, (Op.stringOp .add (p ++ (⟨#[]⟩ ++ Z ++ (⟨#[46]⟩ ++ Y ++ ⟨#[]⟩))) q).run Tryd.prog W = .ok (.string (p ++ (⟨#[]⟩ ++ Z ++ (⟨#[46]⟩ ++ Y ++ ⟨#[]⟩)) ++ q)) W := fun W => run_string_add_sum W _ _ (by rw [ByteArray.size_append, ByteArray.size_append, ByteArray.size_append, ByteArray.size_append, ByteArray.size_append]; show _ + (0 + _ + (1 + _ + 0)) + _ ≤ _; omega)
  have ez : Hid (b = 0 → patText p q a b = p ++ (⟨#[]⟩ ++ Z) ++ q) := Lib.hid (fun h => by
    unfold patText patBody
    rw [if_pos h, eZ]
    apply ByteArray.ext
    apply Array.ext'
    simp)
  have en : Hid (b ≠ 0 → patText p q a b = p ++ (⟨#[]⟩ ++ Z ++ (⟨#[46]⟩ ++ Y ++ ⟨#[]⟩)) ++ q) := Lib.hid (fun h => by
    unfold patText patBody
    rw [if_neg h, eZ, eY]
    apply ByteArray.ext
    apply Array.ext'
    simp)
  have w0 : IntKind.i64.wrap 0 = 0 := by decide
  clear eZ eY hZ hY hp hq
  go_enter Tryd.func28, Tryd.ntmps28
  go_wp2_with fail
  refine (HC.out _).mono ?_
  rintro e w1 ⟨rfl, hb1⟩
  obtain ⟨⟨c0, c1⟩, ⟨c2, c3⟩, ⟨c4, c5, c6⟩, hs, hB⟩ := pat_cells hb1
  clear hb1
  go_wp2_with fail
  go_region_held3 (fun w' => w'.cell? ⟨w.heap.size, 2, none⟩ = some (.int .i64 a)) (first | go_keep | exact carry hb2 (by assumption)) (first | (go_at_call 63; with_reducible refine (R0.out _).mono ?_; rintro e w2 ⟨rfl, rfl⟩) | (go_at_call 63; with_reducible refine (RZ.out _).mono ?_; rintro e w2 ⟨rfl, hb2⟩; have HB2 : Hid (Below w1.heap.size w1 w2) := Lib.hid (by (repeat (first | with_reducible exact Below.refl _ _ | with_reducible refine bel_set ?_ ?_ | with_reducible refine bel_alloc ?_ ?_ | with_reducible refine Below.drew ?_ | with_reducible refine bel_drewN _ ?_ | with_reducible refine bel_call ?_ (by assumption) ?_)); all_goals (first | (simp; done) | omega | (simp; omega)))))
  have q0 := carry HB2.out c0
  have q1 := carry HB2.out c1
  have q3 := carry HB2.out c3
  have q4 := carry HB2.out c4
  have q5 := carry HB2.out c5
  have hB2 : Below w.heap.size w w2 := hB.trans (HB2.out.mono (by omega))
  have hs2 : w.heap.size + 1 ≤ w2.heap.size := Nat.le_trans hs HB2.out.size
  clear HB2 HC RZ c0 c1 c2 c3 c4 c5 c6 hs hB
  by_cases hb0 : b = 0
  · subst hb0
    have ez' := ez.out rfl
    have EZ := Lib.hid ez'
    clear ez ez' en r7 r8 r2 r3 r4
    go_wp2_with fail
    go_ret2
    rw [EZ.out]
    exact ⟨rfl, (by (repeat (first | with_reducible exact Below.refl _ _ | with_reducible refine bel_set ?_ ?_ | with_reducible refine bel_alloc ?_ ?_ | with_reducible refine Below.drew ?_ | with_reducible refine bel_drewN _ ?_ | with_reducible refine bel_call ?_ (by assumption) ?_)); all_goals (first | (simp; done) | omega | (simp; omega)))⟩
  · have EN := Lib.hid (en.out hb0)
    have hbz : ¬ (b : Int) = 0 := by omega
    clear ez en r5 r6
    go_wp2_with fail
    go_region_held3 (fun w' => w'.cell? ⟨w.heap.size, 3, none⟩ = some (.int .i64 b) ∧ w'.cell? ⟨w.heap.size, 4, none⟩ = some (.int .i64 b)) (first | go_keep | exact ⟨carry hb3 q3, carry hb3 q4⟩ | exact ⟨carry hb3 (by go_simp), carry hb3 (by go_simp)⟩) (first | (go_at_call 63; with_reducible refine (R0.out _).mono ?_; rintro e w2 ⟨rfl, rfl⟩) | (go_at_call 63; with_reducible refine (RY.out _).mono ?_; rintro e w3 ⟨rfl, hb3⟩; have HB3 : Hid (Below w2.heap.size w2 w3) := Lib.hid (by (repeat (first | with_reducible exact Below.refl _ _ | with_reducible refine bel_set ?_ ?_ | with_reducible refine bel_alloc ?_ ?_ | with_reducible refine Below.drew ?_ | with_reducible refine bel_drewN _ ?_ | with_reducible refine bel_call ?_ (by assumption) ?_)); all_goals (first | (simp; done) | omega | (simp; omega)))))
    have z0 := carry HB3.out q0
    have z1 := carry HB3.out q1
    have hB3 : Below w.heap.size w w3 := hB2.trans (HB3.out.mono (by omega))
    clear HB3 q0 q1 q3 q4 q5 hB2 RY R0
    go_wp2_with fail
    go_ret2
    rw [EN.out]
    exact ⟨rfl, (by (repeat (first | with_reducible exact Below.refl _ _ | with_reducible refine bel_set ?_ ?_ | with_reducible refine bel_alloc ?_ ?_ | with_reducible refine Below.drew ?_ | with_reducible refine bel_drewN _ ?_ | with_reducible refine bel_call ?_ (by assumption) ?_)); all_goals (first | (simp; done) | omega | (simp; omega)))⟩

set_option maxHeartbeats 2000000 in
theorem npat_text3 (w : World) :
    Calls Tryd.prog 28 #[patV ⟨#[]⟩ ⟨#[]⟩ 1 1 2 3 0] w fun e w' => e = .returned (.tuple #[.string ⟨#[35, 44, 35, 35, 48, 46, 48, 35]⟩, .nilIface]) ∧ Below w.heap.size w w' := by
  have h : patErr ⟨#[]⟩ ⟨#[]⟩ 1 1 2 3 0 = 0 := by decide
  have HC : Hid (∀ W : World, Calls Tryd.prog 67 #[patV ⟨#[]⟩ ⟨#[]⟩ 1 1 2 3 0] W fun e w' => e = .returned .nilIface ∧ Below W.heap.size W w') :=
    Lib.hid (fun W => by have := pat_check ⟨#[]⟩ ⟨#[]⟩ 1 1 2 3 0 W (by decide) (by decide); rw [h] at this; exact this)
  clear h
  have R3 : Hid (∀ W : World, Calls Tryd.prog 63 #[.string ⟨#[35]⟩, .int .i64 3] W fun e w' => e = .returned (.string ⟨#[35, 35, 35]⟩) ∧ Below W.heap.size W w') := Lib.hid (fun W => Tryd.strings_Repeat ⟨#[35]⟩ 3 W (by omega) (by show 1 * 3 ≤ _; omega))
  have R1 : Hid (∀ W : World, Calls Tryd.prog 63 #[.string ⟨#[48]⟩, .int .i64 1] W fun e w' => e = .returned (.string ⟨#[48]⟩) ∧ W = w') := Lib.hid (fun W => (Tryd.strings_Repeat_one ⟨#[48]⟩ W).mono (fun _ _ h => ⟨h.1, h.2.symm⟩))
  have R2 : Hid (∀ W : World, Calls Tryd.prog 63 #[.string ⟨#[35]⟩, .int .i64 1] W fun e w' => e = .returned (.string ⟨#[35]⟩) ∧ W = w') := Lib.hid (fun W => (Tryd.strings_Repeat_one ⟨#[35]⟩ W).mono (fun _ _ h => ⟨h.1, h.2.symm⟩))
  have w1' : IntKind.i64.wrap 3 = 3 := by decide
  have w3' : IntKind.i64.wrap 4 = 4 := by decide
  have hm : max (1 : Int) 4 = 4 := by decide
  have w2' : IntKind.i64.wrap 1 = 1 := by decide
  go_enter Tryd.func28, Tryd.ntmps28
  go_wp2_with fail
  refine (HC.out _).mono ?_
  rintro e w1 ⟨rfl, hb1⟩
  obtain ⟨⟨c0, c1⟩, ⟨c2, c3⟩, ⟨c4, c5, c6⟩, hs, hB⟩ := pat_cells hb1
  clear hb1
  go_wp2_with fail
  go_region_held3 (fun w' => w'.cell? ⟨w.heap.size, 2, none⟩ = some (.int .i64 1)) (first | go_keep | exact carry hb2 (by assumption)) (first | (go_at_call 63; with_reducible refine (R1.out _).mono ?_; rintro e w2 ⟨rfl, rfl⟩) | (go_at_call 63; with_reducible refine (R3.out _).mono ?_; rintro e w2 ⟨rfl, hb2⟩; have HB2 : Hid (Below w1.heap.size w1 w2) := Lib.hid (by (repeat (first | with_reducible exact Below.refl _ _ | with_reducible refine bel_set ?_ ?_ | with_reducible refine bel_alloc ?_ ?_ | with_reducible refine Below.drew ?_ | with_reducible refine bel_drewN _ ?_ | with_reducible refine bel_call ?_ (by assumption) ?_)); all_goals (first | (simp; done) | omega | (simp; omega)))))
  have q0 := carry HB2.out c0
  have q1 := carry HB2.out c1
  have q3 := carry HB2.out c3
  have q4 := carry HB2.out c4
  have q5 := carry HB2.out c5
  have q6 := carry HB2.out c6
  have hB2 : Below w.heap.size w w2 := hB.trans (HB2.out.mono (by omega))
  have hs2 : w.heap.size + 1 ≤ w2.heap.size := Nat.le_trans hs HB2.out.size
  clear HB2 HC R3 c0 c1 c2 c3 c4 c5 c6 hs hB
  go_wp2_with fail
  go_quiet (fail)
  go_wp2_with fail
  go_region_held3 (fun w' => w'.cell? ⟨w.heap.size, 3, none⟩ = some (.int .i64 1) ∧ w'.cell? ⟨w.heap.size, 4, none⟩ = some (.int .i64 2)) (first | go_keep | exact ⟨by go_simp, by go_simp⟩) (first | (go_at_call 63; with_reducible refine (R1.out _).mono ?_; rintro e w4 ⟨rfl, rfl⟩) | (go_at_call 63; with_reducible refine (R2.out _).mono ?_; rintro e w4 ⟨rfl, rfl⟩))
  go_wp2_with fail
  go_ret2
  exact ⟨rfl, (by (repeat (first | with_reducible exact Below.refl _ _ | with_reducible refine bel_set ?_ ?_ | with_reducible refine bel_alloc ?_ ?_ | with_reducible refine Below.drew ?_ | with_reducible refine bel_drewN _ ?_ | with_reducible refine bel_call ?_ (by assumption) ?_)); all_goals (first | (simp; done) | omega | (simp; omega)))⟩
end Go.Proofs.YtdpdnanjanceeaaDoor
