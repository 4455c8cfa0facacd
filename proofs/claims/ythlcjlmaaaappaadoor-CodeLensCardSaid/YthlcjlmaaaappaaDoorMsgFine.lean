/- msg.fine at a name, msg.check at no nodes, slices.Contains at a row of texts. -/
import Derived.Test.YthlcjlmaaaappaaDoorMsgSize
import Derived.Test.YthlcjlmaaaappaaDoorRowsS
import Derived.Test.YthlcjlmaaaappaaDoorErr
namespace Go.Proofs.YthlcjlmaaaappaaDoor
open Go.RowKit

theorem fine_name (kd off : Int) (t : ByteArray) (A B : Option Addr) (n c n2 c2 : Nat) (m : Bool) (w : World) (hk : kd = 4 ∨ kd = 5) (ht : t.size ≤ 9223372036854775807) :
    Calls Tryd.prog 20 #[nodeV kd t off A n c, .slice B n2 c2, .bool m] w fun e w' => e = .returned (.bool (nameB t.data.toList)) ∧ Below w.heap.size w w' := by
  unfold nodeV
  rcases hk with rfl | rfl
  all_goals
    go_enter Tryd.func20, Tryd.ntmps20
    go_wp2_with fail
    refine (name_code t _ ht).mono ?_
    rintro e w1 ⟨rfl, hb1⟩
    go_wp2_with fail
    go_ret
    exact ⟨rfl, (by (repeat (first | with_reducible exact Below.refl _ _ | with_reducible refine bel_set ?_ ?_ | with_reducible refine bel_alloc ?_ ?_ | with_reducible refine Below.drew ?_ | with_reducible refine bel_drewN _ ?_ | with_reducible refine bel_call ?_ (by assumption) ?_)); all_goals (first | (simp; done) | omega | (simp; omega)))⟩

theorem check_nil (m : Bool) (w : World) :
    Calls Tryd.prog 15 #[.slice none 0 0, .bool m] w fun e w' => e = .returned .nilIface ∧ Below w.heap.size w w' := by
  go_enter Tryd.func15, Tryd.ntmps15
  go_wp2_with fail
  go_loopw [10] (fun i wr => i = .int .i64 0 ∧ w = wr) (fun _ _ => 0)
  case atStart => exact ⟨rfl, rfl⟩
  case round =>
    obtain ⟨rfl, rfl⟩ := hrel
    go_wp2_with fail
    go_ret
    exact ⟨rfl, (by (repeat (first | with_reducible exact Below.refl _ _ | with_reducible refine bel_set ?_ ?_ | with_reducible refine bel_alloc ?_ ?_ | with_reducible refine Below.drew ?_ | with_reducible refine bel_drewN _ ?_ | with_reducible refine bel_call ?_ (by assumption) ?_)); all_goals (first | (simp; done) | omega | (simp; omega)))⟩

theorem contains_in (A : Option Addr) (xs : List ByteArray) (d : Nat) (x : ByteArray) (W : World) (h : StrsIn W A xs) (hl : xs.length ≤ 9223372036854775807) :
    Calls Tryd.prog 26 #[.slice A xs.length d, .string x] W fun e w' => e = .returned (.bool (Lib.containsS xs x)) ∧ w' = W := by
  rcases h with rfl | ⟨bk, o, rfl, hc⟩
  · exact Tryd.slices_Contains_string_empty A d x W
  · have := Tryd.slices_Contains_string bk o xs.length d xs x W (Nat.le_refl _) hl (fun j hj => by
      refine hc j _ ?_
      rw [List.getD_eq_getElem?_getD, List.getElem?_eq_getElem hj]
      rfl)
    rw [List.take_length] at this
    exact this
end Go.Proofs.YthlcjlmaaaappaaDoor
