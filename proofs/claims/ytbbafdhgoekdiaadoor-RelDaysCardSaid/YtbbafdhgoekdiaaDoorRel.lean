/- rel.Of, rel.Text. -/
import Derived.Test.YtbbafdhgoekdiaaDoorItoa
import Derived.Test.YtbbafdhgoekdiaaDoorLaidPairs
import Derived.WalkLawsBesides
namespace Go.Proofs.YtbbafdhgoekdiaaDoor
open Go.RowKit

abbrev errR (k : Int) : Value := .iface 57 (.int .i64 k)
def relUnits : List (List UInt8 × Int) := [([100, 97, 121], 86400), ([104, 111, 117, 114], 3600), ([109, 105, 110, 117, 116, 101], 60)]
def Units (w : World) : Prop := PairsAt w 0 .i64 relUnits

theorem of_no (a b : Int) (w : World) (h : ¬ ((-1099511627776 ≤ a ∧ a ≤ 1099511627776) ∧ (-1099511627776 ≤ b ∧ b ≤ 1099511627776))) :
    Calls Tryd.prog 19 #[.int .i64 a, .int .i64 b] w fun e w' => e = .returned (.tuple #[.string ⟨#[]⟩, .int .i64 0, errR 1]) ∧ w = w' := by
  have i0 : ∀ w, (Instr.index 62 (.agg #[.int .i64 a, .int .i64 b]) (.int .i64 0)).run Tryd.prog w = .ok (.int .i64 a) w := fun _ => by kernel_rfl
  have i1 : ∀ w, (Instr.index 62 (.agg #[.int .i64 a, .int .i64 b]) (.int .i64 1)).run Tryd.prog w = .ok (.int .i64 b) w := fun _ => by kernel_rfl
  go_enter Tryd.func19, Tryd.ntmps19
  go_wp2_with fail
  go_loop [8, 15] (fun _ i => ∃ k : Nat, k ≤ 1 ∧ i = .int .i64 k ∧ (k = 1 → -1099511627776 ≤ a ∧ a ≤ 1099511627776)) (fun _ i => 4 - (intOf i).toNat)
  case atStart => exact ⟨0, by omega, rfl, fun h => by omega⟩
  case round =>
    obtain ⟨k, hk, rfl, hin⟩ := hrel
    rcases (show k = 0 ∨ k = 1 by omega) with rfl | rfl
    · by_cases ha : -1099511627776 ≤ a ∧ a ≤ 1099511627776
      · go_wp2_with fail
        go_round
        case rel => exact ⟨1, by omega, rfl, fun _ => ha⟩
        case measure => simp [intOf]
      · go_wp2_with fail
        all_goals go_ret3
        all_goals exact ⟨rfl, rfl⟩
    · have := hin rfl
      go_wp2_with fail
      all_goals go_ret3
      all_goals exact ⟨rfl, rfl⟩

def relR (d : Int) : ByteArray × Int :=
  if d.tdiv 86400 ≠ 0 then (⟨#[100, 97, 121]⟩, d.tdiv 86400) else if d.tdiv 3600 ≠ 0 then (⟨#[104, 111, 117, 114]⟩, d.tdiv 3600)
  else if d.tdiv 60 ≠ 0 then (⟨#[109, 105, 110, 117, 116, 101]⟩, d.tdiv 60) else (⟨#[115, 101, 99, 111, 110, 100]⟩, d)

theorem of_ok (a b : Int) (w : World) (hU : Units w) (ha0 : -1099511627776 ≤ a) (ha1 : a ≤ 1099511627776) (hb0 : -1099511627776 ≤ b) (hb1 : b ≤ 1099511627776) :
    Calls Tryd.prog 19 #[.int .i64 a, .int .i64 b] w fun e w' => e = .returned (.tuple #[.string (relR (b - a)).1, .int .i64 (relR (b - a)).2, .nilIface]) ∧ Below w.heap.size w w' := by
  have HU := Lib.hid hU
  obtain ⟨ub, uo, uc, u0, u1, u2⟩ := hU
  have u0 : w.cell? ⟨0, 0, none⟩ = some (.slice (some ⟨ub, uo, none⟩) 3 uc) := u0
  have u1 : 3 ≤ uc := u1
  have i0 : ∀ w, (Instr.index 62 (.agg #[.int .i64 a, .int .i64 b]) (.int .i64 0)).run Tryd.prog w = .ok (.int .i64 a) w := fun _ => by kernel_rfl
  have i1 : ∀ w, (Instr.index 62 (.agg #[.int .i64 a, .int .i64 b]) (.int .i64 1)).run Tryd.prog w = .ok (.int .i64 b) w := fun _ => by kernel_rfl
  go_enter Tryd.func19, Tryd.ntmps19
  go_wp2_with fail
  go_loop [8, 15] (fun _ i => ∃ k : Nat, k ≤ 2 ∧ i = .int .i64 k) (fun _ i => 4 - (intOf i).toNat)
  case atStart => exact ⟨0, by omega, rfl⟩
  case round =>
    obtain ⟨k, hk, rfl⟩ := hrel
    rcases (show k = 0 ∨ k = 1 ∨ k = 2 by omega) with rfl | rfl | rfl
    · go_wp2_with fail
      go_round
      case rel => exact ⟨1, by omega, rfl⟩
      case measure => simp [intOf]
    · go_wp2_with fail
      go_round
      case rel => exact ⟨2, by omega, rfl⟩
      case measure => simp [intOf]
    · go_wp2_with fail
      go_loopw [11, 31] (fun _ i wr => ∃ k : Nat, k ≤ 3 ∧ i = .int .i64 k ∧ (1 ≤ k → (b - a).tdiv 86400 = 0) ∧ (2 ≤ k → (b - a).tdiv 3600 = 0) ∧ (3 ≤ k → (b - a).tdiv 60 = 0) ∧ Below w.heap.size w wr) (fun _ i _ => 4 - (intOf i).toNat)
      case atStart => exact ⟨0, by omega, rfl, by omega, by omega, by omega, Below.refl _ _⟩
      case round =>
        obtain ⟨k, hk, rfl, q1, q2, q3, hbr⟩ := hrel
        have sr := hbr.size
        rcases (show k = 0 ∨ k = 1 ∨ k = 2 ∨ k = 3 by omega) with rfl | rfl | rfl | rfl
        · have c0 : wr.cell? ⟨ub, uo, none⟩ = some (.string ⟨#[100, 97, 121]⟩) := carry hbr (u2 0 _ rfl).1
          have c1 : wr.cell? ⟨ub, uo + 1, none⟩ = some (.int .i64 86400) := carry hbr (u2 0 _ rfl).2
          have lt := lt_of_cell c0
          by_cases hq : (b - a).tdiv 86400 = 0
          · go_wp2_with fail
            go_roundw
            case rel => exact ⟨1, by omega, rfl, fun _ => hq, by omega, by omega, (by (repeat (first | with_reducible exact Below.refl _ _ | with_reducible refine bel_set ?_ ?_ | with_reducible refine bel_alloc ?_ ?_ | with_reducible refine Below.drew ?_ | with_reducible refine bel_drewN _ ?_ | with_reducible refine bel_call ?_ (by assumption) ?_)); all_goals (first | (simp; done) | omega | (simp; omega)))⟩
            case measure => simp [intOf]
          · have HR := Lib.hid (show relR (b - a) = (⟨#[100, 97, 121]⟩, (b - a).tdiv 86400) by unfold relR; rw [if_pos hq])
            go_wp2_with fail
            go_quiet (fail)
            go_wp2_with fail
            go_ret3
            rw [HR.out]
            exact ⟨rfl, (by (repeat (first | with_reducible exact Below.refl _ _ | with_reducible refine bel_set ?_ ?_ | with_reducible refine bel_alloc ?_ ?_ | with_reducible refine Below.drew ?_ | with_reducible refine bel_drewN _ ?_ | with_reducible refine bel_call ?_ (by assumption) ?_)); all_goals (first | (simp; done) | omega | (simp; omega)))⟩
        · have c0 : wr.cell? ⟨ub, uo + 2, none⟩ = some (.string ⟨#[104, 111, 117, 114]⟩) := carry hbr (u2 1 _ rfl).1
          have c1 : wr.cell? ⟨ub, uo + 3, none⟩ = some (.int .i64 3600) := carry hbr (u2 1 _ rfl).2
          have lt := lt_of_cell c0
          by_cases hq : (b - a).tdiv 3600 = 0
          · go_wp2_with fail
            go_roundw
            case rel => exact ⟨2, by omega, rfl, fun _ => q1 (by omega), fun _ => hq, by omega, (by (repeat (first | with_reducible exact Below.refl _ _ | with_reducible refine bel_set ?_ ?_ | with_reducible refine bel_alloc ?_ ?_ | with_reducible refine Below.drew ?_ | with_reducible refine bel_drewN _ ?_ | with_reducible refine bel_call ?_ (by assumption) ?_)); all_goals (first | (simp; done) | omega | (simp; omega)))⟩
            case measure => simp [intOf]
          · have HR := Lib.hid (show relR (b - a) = (⟨#[104, 111, 117, 114]⟩, (b - a).tdiv 3600) by unfold relR; rw [if_neg (by rw [q1 (by omega)]; omega)]; rw [if_pos hq])
            go_wp2_with fail
            go_quiet (fail)
            go_wp2_with fail
            go_ret3
            rw [HR.out]
            exact ⟨rfl, (by (repeat (first | with_reducible exact Below.refl _ _ | with_reducible refine bel_set ?_ ?_ | with_reducible refine bel_alloc ?_ ?_ | with_reducible refine Below.drew ?_ | with_reducible refine bel_drewN _ ?_ | with_reducible refine bel_call ?_ (by assumption) ?_)); all_goals (first | (simp; done) | omega | (simp; omega)))⟩
        · have c0 : wr.cell? ⟨ub, uo + 4, none⟩ = some (.string ⟨#[109, 105, 110, 117, 116, 101]⟩) := carry hbr (u2 2 _ rfl).1
          have c1 : wr.cell? ⟨ub, uo + 5, none⟩ = some (.int .i64 60) := carry hbr (u2 2 _ rfl).2
          have lt := lt_of_cell c0
          by_cases hq : (b - a).tdiv 60 = 0
          · go_wp2_with fail
            go_roundw
            case rel => exact ⟨3, by omega, rfl, fun _ => q1 (by omega), fun _ => q2 (by omega), fun _ => hq, (by (repeat (first | with_reducible exact Below.refl _ _ | with_reducible refine bel_set ?_ ?_ | with_reducible refine bel_alloc ?_ ?_ | with_reducible refine Below.drew ?_ | with_reducible refine bel_drewN _ ?_ | with_reducible refine bel_call ?_ (by assumption) ?_)); all_goals (first | (simp; done) | omega | (simp; omega)))⟩
            case measure => simp [intOf]
          · have HR := Lib.hid (show relR (b - a) = (⟨#[109, 105, 110, 117, 116, 101]⟩, (b - a).tdiv 60) by unfold relR; rw [if_neg (by rw [q1 (by omega)]; omega)]; rw [if_neg (by rw [q2 (by omega)]; omega)]; rw [if_pos hq])
            go_wp2_with fail
            go_quiet (fail)
            go_wp2_with fail
            go_ret3
            rw [HR.out]
            exact ⟨rfl, (by (repeat (first | with_reducible exact Below.refl _ _ | with_reducible refine bel_set ?_ ?_ | with_reducible refine bel_alloc ?_ ?_ | with_reducible refine Below.drew ?_ | with_reducible refine bel_drewN _ ?_ | with_reducible refine bel_call ?_ (by assumption) ?_)); all_goals (first | (simp; done) | omega | (simp; omega)))⟩
        · have HR := Lib.hid (show relR (b - a) = (⟨#[115, 101, 99, 111, 110, 100]⟩, b - a) by unfold relR; rw [if_neg (by rw [q1 (by omega)]; omega), if_neg (by rw [q2 (by omega)]; omega), if_neg (by rw [q3 (by omega)]; omega)])
          go_wp2_with fail
          go_ret3
          rw [HR.out]
          exact ⟨rfl, (by (repeat (first | with_reducible exact Below.refl _ _ | with_reducible refine bel_set ?_ ?_ | with_reducible refine bel_alloc ?_ ?_ | with_reducible refine Below.drew ?_ | with_reducible refine bel_drewN _ ?_ | with_reducible refine bel_call ?_ (by assumption) ?_)); all_goals (first | (simp; done) | omega | (simp; omega)))⟩
end Go.Proofs.YtbbafdhgoekdiaaDoor
