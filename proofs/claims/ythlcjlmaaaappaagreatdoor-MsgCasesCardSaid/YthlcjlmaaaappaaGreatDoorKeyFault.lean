/- linguisterref2.KeyFault: = not keyB. -/
import Derived.Test.YthlcjlmaaaappaaGreatDoorRefExact
import Derived.Test.YthlcjlmaaaappaaGreatDoorMsgName
import Derived.Test.YthlcjlmaaaappaaGreatDoorRefIn
import Derived.Test.YthlcjlmaaaappaaGreatDoorCaseErr
namespace Go.Proofs.YthlcjlmaaaappaaGreatDoor
open Go.RowKit

def kinds5 : List ByteArray := [⟨#[122, 101, 114, 111]⟩, ⟨#[111, 110, 101]⟩, ⟨#[116, 119, 111]⟩, ⟨#[102, 101, 119]⟩, ⟨#[109, 97, 110, 121]⟩]
theorem ref_kinds (w : World) :
    Calls Tryz.prog 12 #[] w fun e w' => e = .returned (.slice (some ⟨w.heap.size, 0, none⟩) 5 5) ∧ StrsIn w' (some ⟨w.heap.size, 0, none⟩) kinds5 ∧ Below w.heap.size w w' := by
  go_enter Tryz.func12, Tryz.ntmps12
  go_wp2_with fail
  go_ret
  refine ⟨rfl, .inr ⟨_, 0, rfl, ?_⟩, (by (repeat (first | with_reducible exact Below.refl _ _ | with_reducible refine bel_set ?_ ?_ | with_reducible refine bel_alloc ?_ ?_ | with_reducible refine Below.drew ?_ | with_reducible refine bel_drewN _ ?_ | with_reducible refine bel_call ?_ (by assumption) ?_)); all_goals (first | (simp; done) | omega | (simp; omega)))⟩
  intro j x hx
  have hj : j < 5 := (List.getElem?_eq_some_iff.1 hx).1
  match j, hj, hx with
  | 0, _, hx => injection hx with hx; subst hx; go_simp
  | 1, _, hx => injection hx with hx; subst hx; go_simp
  | 2, _, hx => injection hx with hx; subst hx; go_simp
  | 3, _, hx => injection hx with hx; subst hx; go_simp
  | 4, _, hx => injection hx with hx; subst hx; go_simp

theorem kinds_five (k : ByteArray) (h : ¬ k = otherS) : (listsOf (kinds5.take 5)).contains k.data.toList = Lib.containsS kinds6 k := by
  rw [Bool.eq_iff_iff, Lib.containsS_iff, List.contains_iff_mem]
  have e6 : kinds6 = kinds5 ++ [otherS] := rfl
  rw [e6, List.mem_append, List.mem_singleton, show kinds5.take 5 = kinds5 from rfl]
  constructor
  · intro hm
    obtain ⟨x, hx, hxe⟩ := List.mem_map.1 hm
    have : x = k := ByteArray.ext (Array.ext' hxe)
    exact .inl (this ▸ hx)
  · rintro (hm | hm)
    · exact List.mem_map_of_mem hm
    · exact absurd hm h

set_option maxHeartbeats 1000000 in
theorem key_fault (kd off : Int) (t k : ByteArray) (A : Option Addr) (n c : Nat) (w : World) (hk : k.size ≤ 140737488355328) :
    Calls Tryz.prog 8 #[.agg #[.int .i64 kd, .string t, .int .i64 off, .slice A n c], .string k] w fun e w' => e = .returned (.bool (!keyB kd k)) ∧ Below w.heap.size w w' := by
  have hb0 : Below w.heap.size w (w.alloc (.cells #[.int .i64 kd, .string t, .int .i64 off, .slice A n c] 30)) := (by (repeat (first | with_reducible exact Below.refl _ _ | with_reducible refine bel_set ?_ ?_ | with_reducible refine bel_alloc ?_ ?_ | with_reducible refine Below.drew ?_ | with_reducible refine bel_drewN _ ?_ | with_reducible refine bel_call ?_ (by assumption) ?_)); all_goals (first | (simp; done) | omega | (simp; omega)))
  by_cases h5 : kd = 5
  · subst h5
    have HD : Hid (keyB 5 k = nameB k.data.toList) := Lib.hid rfl
    go_enter Tryz.func8, Tryz.ntmps8
    go_wp2_with fail
    refine (ref_name k _ hk).mono ?_
    rintro e w1 ⟨rfl, m, rfl⟩
    go_wp2_with fail
    go_ret
    exact ⟨ret_bool (by rw [HD.out]), bel_drewN _ hb0⟩
  · have hd : keyB kd k = (Lib.containsS kinds6 k || decide (0 ≤ exC k.data.toList)) := if_neg h5
    by_cases ho : k = otherS
    · subst ho
      have HD : Hid ((!keyB kd otherS) = false) := Lib.hid (by rw [hd, show Lib.containsS kinds6 otherS = true by rw [Lib.containsS_iff]; exact List.mem_append_right kinds5 (List.mem_singleton.2 rfl)]; rfl)
      clear hd
      have ot : otherS.toList = (⟨#[111, 116, 104, 101, 114]⟩ : ByteArray).toList := rfl
      unfold otherS at *
      go_enter Tryz.func8, Tryz.ntmps8
      go_wp2_with fail
      go_ret
      exact ⟨ret_bool HD.out.symm, hb0⟩
    · have hkf := kinds_five k ho
      have l5 : (⟨#[111, 116, 104, 101, 114]⟩ : ByteArray).toList = [111, 116, 104, 101, 114] := by decide +kernel
      have n1 : ¬ k.toList = [111, 116, 104, 101, 114] := fun hq => ho (by
        rw [← l5, Lib.toList_data, Lib.toList_data] at hq
        exact ByteArray.ext (Array.ext' hq))
      have n2 : (k.toList == [111, 116, 104, 101, 114]) = false := by rw [beq_eq_false_iff_ne]; exact n1
      clear l5
      have hs5 : (w.alloc (.cells #[.int .i64 kd, .string t, .int .i64 off, .slice A n c] 30)).heap.size = w.heap.size + 1 := by simp
      have KI := Lib.hid (fun (A : Option Addr) (W : World) (h : StrsIn W A kinds5) => ref_in A 5 5 kinds5 k W h (by decide) (by decide) (by decide))
      rw [hkf] at KI
      have KX := Lib.hid (fun W => ref_exact k W (by omega))
      have HB0 := Lib.hid hb0
      clear hkf hb0
      generalize Lib.containsS kinds6 k = I at *
      generalize exC k.data.toList = X at *
      cases I
      · have HD : Hid ((!keyB kd k) = decide (X < 0)) := Lib.hid (by rw [hd, Bool.false_or]; by_cases hx : 0 ≤ X
                                                                     · rw [decide_eq_true hx, decide_eq_false (by omega)]; rfl
                                                                     · rw [decide_eq_false hx, decide_eq_true (by omega)]; rfl)
        clear hd
        go_enter Tryz.func8, Tryz.ntmps8
        go_wp2_with fail
        refine (ref_kinds _).mono ?_
        rintro e w1 ⟨rfl, hS, hb1⟩
        rw [hs5] at hS hb1
        go_wp2_with fail
        refine (KI.out _ _ hS).mono ?_
        rintro e w2 ⟨rfl, rfl⟩
        go_wp2_with fail
        refine (KX.out _).mono ?_
        rintro e w3 ⟨rfl, hb3⟩
        go_wp2_with fail
        go_ret
        have hb2 := HB0.out.trans (hb1.mono (by omega))
        exact ⟨ret_bool HD.out.symm, hb2.trans (hb3.mono hb2.size)⟩
      · have HD : Hid ((!keyB kd k) = false) := Lib.hid (by rw [hd]; rfl)
        clear hd
        go_enter Tryz.func8, Tryz.ntmps8
        go_wp2_with fail
        refine (ref_kinds _).mono ?_
        rintro e w1 ⟨rfl, hS, hb1⟩
        rw [hs5] at hS hb1
        go_wp2_with fail
        refine (KI.out _ _ hS).mono ?_
        rintro e w2 ⟨rfl, rfl⟩
        go_wp2_with fail
        go_ret
        exact ⟨ret_bool HD.out.symm, HB0.out.trans (hb1.mono (by omega))⟩
end Go.Proofs.YthlcjlmaaaappaaGreatDoor
