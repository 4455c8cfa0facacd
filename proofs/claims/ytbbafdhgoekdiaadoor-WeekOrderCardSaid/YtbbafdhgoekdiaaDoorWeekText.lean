/- week.digits, week.Text. -/
import Derived.Test.YtbbafdhgoekdiaaDoorWeekDate
import Derived.Test.YtbbafdhgoekdiaaDoorItoa
import Derived.Test.YtbbafdhgoekdiaaDoorPadPlain
import Derived.Laws.Concat
import Derived.Stop.LaidErr
import Derived.Deep.RegionHeld3
namespace Go.Proofs.YtbbafdhgoekdiaaDoor
open Go.RowKit

theorem itoa_pad (k n : Nat) (hk : 1 ≤ k) (hn : n < 10 ^ k) : (Lib.itoa n).length ≤ k ∧ Lib.repeatL [48] (k - (Lib.itoa n).length) ++ Lib.itoa n = padD k n := by
  have e : Lib.itoa (n : Int) = Lib.decDigits n := by unfold Lib.itoa; rw [if_neg (by omega)]; rfl
  rw [e]
  exact pad_itoa k n hk hn

theorem week_digits (n k : Nat) (w : World) (hP : Pow w) (hk : 1 ≤ k) (hk4 : k ≤ 4) (hn : n < 10 ^ k) :
    Calls Tryd.prog 36 #[.int .i64 n, .int .i64 k] w fun e w' => e = .returned (.string ⟨(padD k n).toArray⟩) ∧ Below w.heap.size w w' := by
  have HP := Lib.hid hP
  obtain ⟨hl, hpad⟩ := itoa_pad k n hk hn
  have hn2 : n < 10000 := by
    have : 10 ^ k ≤ 10 ^ 4 := Nat.pow_le_pow_right (by omega) hk4
    have e : (10 : Nat) ^ 4 = 10000 := by decide
    omega
  have HPAD := Lib.hid hpad
  clear hP hpad hn
  go_enter Tryd.func36, Tryd.ntmps36
  go_wp2_with fail
  refine (itoa_any n _ (by omega) (by omega) HP.out).mono ?_
  rintro e w1 ⟨rfl, hb1⟩
  have s1 := hb1.size
  generalize Lib.itoa (n : Int) = L at *
  have hm : max (0 : Int) ((k : Int) - (L.length : Int)) = ((k - L.length : Nat) : Int) := by omega
  go_wp2_with fail
  refine (Tryd.strings_Repeat ⟨#[48]⟩ (k - L.length) _ (by omega) (by show 1 * _ ≤ _; omega)).mono ?_
  rintro e w2 ⟨rfl, hb2⟩
  have s2 := hb2.size
  have hpd := HPAD.out
  have hpl : (padD k n).length = k := padD_len k n
  have hrl : (Lib.repeatL [48] (k - L.length)).length = k - L.length := by rw [Lib.repeatL_length]; simp
  change Lib.repeatL [48] (k - L.length) ++ L = padD k n at hpd
  have HD := Lib.hid (show (⟨(Lib.repeatL [48] (k - L.length)).toArray⟩ : ByteArray) ++ ⟨L.toArray⟩ = ⟨(padD k n).toArray⟩ by rw [← hpd]; apply ByteArray.ext; apply Array.ext'; simp)
  have e0 : (⟨#[48]⟩ : ByteArray).data.toList = [48] := rfl
  rw [e0]
  generalize Lib.repeatL [48] (k - L.length) = R at *
  have r1 : ∀ W : World, (Op.stringOp .add ⟨R.toArray⟩ ⟨L.toArray⟩).run Tryd.prog W = .ok (.string (⟨R.toArray⟩ ++ ⟨L.toArray⟩)) W := fun W => run_string_add_sum W _ _ (by show R.length + L.length ≤ _; omega)
  clear hpd hpl
  go_wp2_with fail
  go_ret
  rw [← HD.out]
  exact ⟨rfl, (by (repeat (first | with_reducible exact Below.refl _ _ | with_reducible refine bel_set ?_ ?_ | with_reducible refine bel_alloc ?_ ?_ | with_reducible refine Below.drew ?_ | with_reducible refine bel_drewN _ ?_ | with_reducible refine bel_call ?_ (by assumption) ?_)); all_goals (first | (simp; done) | omega | (simp; omega)))⟩

def weekT (y k d : Nat) : List UInt8 := padD 4 y ++ ([45, 87] ++ (padD 2 k ++ ([45] ++ padD 1 d)))

set_option maxHeartbeats 1000000 in
theorem week_text (y k d : Nat) (w : World) (hA : Ahead w) (hP : Pow w) (h1 : 1 ≤ y) (h2 : y ≤ 9999) (k1 : 1 ≤ k) (k2 : (k : Int) ≤ weeksV y) (d1 : 1 ≤ d) (d2 : d ≤ 7) (hn : firstV y + 7 * ((k : Int) - 1) + d - 1 < 3652059) :
    Calls Tryd.prog 23 #[weekV y k d] w fun e w' => e = .returned (.tuple #[.string ⟨(weekT y k d).toArray⟩, .nilIface]) ∧ Below w.heap.size w w' := by
  have HA := Lib.hid hA
  have HP := Lib.hid hP
  have HK := Lib.hid k2
  have HN := Lib.hid hn
  have hk53 : k ≤ 53 := by have := weeksV_bd y (by omega); omega
  clear hA hP k2 hn
  have HT : Hid (∀ A B C : List UInt8, padD 4 y = A → padD 2 k = B → padD 1 d = C → (⟨(weekT y k d).toArray⟩ : ByteArray) = ⟨A.toArray⟩ ++ ⟨#[45, 87]⟩ ++ ⟨B.toArray⟩ ++ ⟨#[45]⟩ ++ ⟨C.toArray⟩) := Lib.hid (by
    intro A B C h1 h2 h3
    unfold weekT
    rw [h1, h2, h3]
    apply ByteArray.ext
    apply Array.ext'
    simp)
  have l1 : (padD 4 y).length = 4 := padD_len _ _
  have l2 : (padD 2 k).length = 2 := padD_len _ _
  have l3 : (padD 1 d).length = 1 := padD_len _ _
  have HD1 : Hid (∀ w, Pow w → Calls Tryd.prog 36 #[.int .i64 y, .int .i64 4] w fun e w' => e = .returned (.string ⟨(padD 4 y).toArray⟩) ∧ Below w.heap.size w w') := Lib.hid (fun w hP => week_digits y 4 w hP (by omega) (by omega) (by omega))
  have HD2 : Hid (∀ w, Pow w → Calls Tryd.prog 36 #[.int .i64 k, .int .i64 2] w fun e w' => e = .returned (.string ⟨(padD 2 k).toArray⟩) ∧ Below w.heap.size w w') := Lib.hid (fun w hP => week_digits k 2 w hP (by omega) (by omega) (by omega))
  have HD3 : Hid (∀ w, Pow w → Calls Tryd.prog 36 #[.int .i64 d, .int .i64 1] w fun e w' => e = .returned (.string ⟨(padD 1 d).toArray⟩) ∧ Below w.heap.size w w') := Lib.hid (fun w hP => week_digits d 1 w hP (by omega) (by omega) (by omega))
  have HTT := Lib.hid (HT.out _ _ _ rfl rfl rfl)
  clear HT
  generalize padD 4 y = A at *
  generalize padD 2 k = B at *
  generalize padD 1 d = C at *
  have r1 : ∀ W : World, (Op.stringOp .add ⟨A.toArray⟩ ⟨#[45, 87]⟩).run Tryd.prog W = .ok (.string (⟨A.toArray⟩ ++ ⟨#[45, 87]⟩)) W := fun W => run_string_add_sum W _ _ (by show A.length + 2 ≤ _; omega)
  have r2 : ∀ W : World, (Op.stringOp .add (⟨A.toArray⟩ ++ ⟨#[45, 87]⟩) ⟨B.toArray⟩).run Tryd.prog W = .ok (.string (⟨A.toArray⟩ ++ ⟨#[45, 87]⟩ ++ ⟨B.toArray⟩)) W := fun W => run_string_add_sum W _ _ (by rw [ByteArray.size_append]; show A.length + 2 + B.length ≤ _; omega)
  have r3 : ∀ W : World, (Op.stringOp .add (⟨A.toArray⟩ ++ ⟨#[45, 87]⟩ ++ ⟨B.toArray⟩) ⟨#[45]⟩).run Tryd.prog W = .ok (.string (⟨A.toArray⟩ ++ ⟨#[45, 87]⟩ ++ ⟨B.toArray⟩ ++ ⟨#[45]⟩)) W := fun W => run_string_add_sum W _ _ (by rw [ByteArray.size_append, ByteArray.size_append]; show A.length + 2 + B.length + 1 ≤ _; omega)
  have r4 : ∀ W : World, (Op.stringOp .add (⟨A.toArray⟩ ++ ⟨#[45, 87]⟩ ++ ⟨B.toArray⟩ ++ ⟨#[45]⟩) ⟨C.toArray⟩).run Tryd.prog W = .ok (.string (⟨A.toArray⟩ ++ ⟨#[45, 87]⟩ ++ ⟨B.toArray⟩ ++ ⟨#[45]⟩ ++ ⟨C.toArray⟩)) W := fun W => run_string_add_sum W _ _ (by rw [ByteArray.size_append, ByteArray.size_append, ByteArray.size_append]; show A.length + 2 + B.length + 1 + C.length ≤ _; omega)
  clear l1 l2 l3
  go_enter Tryd.func23, Tryd.ntmps23
  go_wp2_with fail
  refine (week_date_some y k d _ (HA.out.alloc _) (by omega) (by omega) (by omega) HK.out (by omega) (by omega) HN.out).mono ?_
  rintro e w1 ⟨⟨b1, b2, b3, rfl⟩, hb1⟩
  have s1 := hb1.size
  have c0 : ((w1.alloc (.cells #[.int .i64 b1, .int .i64 b2, .int .i64 b3] 27))).cell? ⟨w.heap.size, 0, none⟩ = some (.int .i64 y) := cell?_alloc_old _ (carry hb1 (by go_simp))
  have c1 : ((w1.alloc (.cells #[.int .i64 b1, .int .i64 b2, .int .i64 b3] 27))).cell? ⟨w.heap.size, 1, none⟩ = some (.int .i64 k) := cell?_alloc_old _ (carry hb1 (by go_simp))
  have c2 : ((w1.alloc (.cells #[.int .i64 b1, .int .i64 b2, .int .i64 b3] 27))).cell? ⟨w.heap.size, 2, none⟩ = some (.int .i64 d) := cell?_alloc_old _ (carry hb1 (by go_simp))
  have HP1 := Lib.hid (((HP.out.alloc (.cells #[.int .i64 y, .int .i64 k, .int .i64 d] 32)).below hb1).alloc (.cells #[.int .i64 b1, .int .i64 b2, .int .i64 b3] 27))
  have hbW : Below w.heap.size w ((w1.alloc (.cells #[.int .i64 b1, .int .i64 b2, .int .i64 b3] 27))) := (((Below.refl _ _).alloc (Nat.le_refl _) _).trans (hb1.mono (by simp))).alloc (by simp at s1; omega) _
  go_wp2_with fail
  obtain ⟨W, eW⟩ : ∃ W, W = ((w1.alloc (.cells #[.int .i64 b1, .int .i64 b2, .int .i64 b3] 27))) := ⟨_, rfl⟩
  rw [← eW] at c0 c1 c2 HP1 hbW ⊢
  have hlW := lt_of_cell c0
  have hsW := hbW.size
  clear eW hb1 HA HP HK HN s1
  go_region_held3 (fun w' => w'.cell? ⟨w.heap.size, 0, none⟩ = some (.int .i64 y) ∧ w'.cell? ⟨w.heap.size, 1, none⟩ = some (.int .i64 k) ∧ w'.cell? ⟨w.heap.size, 2, none⟩ = some (.int .i64 d)) (first | go_keep | exact ⟨carry hb4 (carry hb3 (carry hb2 c0)), carry hb4 (carry hb3 (carry hb2 c1)), carry hb4 (carry hb3 (carry hb2 c2))⟩ | exact ⟨carry hb3 (carry hb2 c0), carry hb3 (carry hb2 c1), carry hb3 (carry hb2 c2)⟩ | exact ⟨carry hb2 c0, carry hb2 c1, carry hb2 c2⟩ | exact ⟨c0, c1, c2⟩) (first | (revert HP3; intro HP3; go_at_call 36; refine (HD3.out _ ?_).mono ?_; (exact HP3.out); rintro e w4 ⟨rfl, hb4⟩) | (revert HP2; intro HP2; go_at_call 36; refine (HD2.out _ ?_).mono ?_; (exact HP2.out); rintro e w3 ⟨rfl, hb3⟩; have HP3 := Lib.hid (HP2.out.below hb3)) | (go_at_call 36; refine (HD1.out _ ?_).mono ?_; (exact HP1.out); rintro e w2 ⟨rfl, hb2⟩; have HP2 := Lib.hid ((show Pow W.drew from HP1.out).below hb2)))
  have s2 := hb2.size
  have s3 := hb3.size
  simp at s2
  go_wp2_with fail
  go_ret2
  rw [HTT.out]
  exact ⟨rfl, (by (repeat (first | with_reducible exact Below.refl _ _ | with_reducible refine bel_set ?_ ?_ | with_reducible refine bel_alloc ?_ ?_ | with_reducible refine Below.drew ?_ | with_reducible refine bel_drewN _ ?_ | with_reducible refine bel_call ?_ (by assumption) ?_)); all_goals (first | (simp; done) | omega | (simp; omega)))⟩
end Go.Proofs.YtbbafdhgoekdiaaDoor
