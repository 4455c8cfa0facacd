/- lex.Bare at "{a}" and at no text. -/
import Derived.Test.YthlcjlmaaaappaaGreatDoorBase
import Derived.Test.YthlcjlmaaaappaaGreatDoorShelf
import Derived.WalkLawsBesides
import Derived.BigQuiet
import Derived.Deep.RegionHeld3
namespace Go.Proofs.YthlcjlmaaaappaaGreatDoor
open Go.RowKit

def braceA : ByteArray := ⟨#[123, 97, 125]⟩
theorem signs_plain (w : World) : Calls Tryz.prog 66 #[.bool false] w fun e w' => e = .returned (.string ⟨#[123, 125]⟩) ∧ w' = w := by
  go_enter Tryz.func66, Tryz.ntmps66
  go_wp2_with fail
  go_ret
  exact ⟨rfl, rfl⟩

theorem sign_at (a b : Nat) (w : World) (h0 : w.cell? ⟨a, 0, none⟩ = some (.string braceA)) (h1 : w.cell? ⟨b, 0, none⟩ = some (.bool false)) :
    Calls Tryz.prog 64 #[.int .i64 0, .pointer (some ⟨a, 0, none⟩), .pointer (some ⟨b, 0, none⟩)] w fun e w' => e = .returned (.bool true) ∧ ∃ n, w' = w.drewN n := by
  have hI : ∀ W : World, Calls Tryz.prog 65 #[.string ⟨#[123, 125]⟩, .int .u8 123] W fun e w' => e = .returned (.int .i64 0) ∧ W = w' := fun W =>
    (Tryz.strings_IndexByte ⟨#[123, 125]⟩ 123 W).mono fun _ _ h => ⟨h.1, h.2.symm⟩
  have HI := Lib.hid hI
  have HG := Lib.hid (fun W => (signs_plain W).mono fun _ _ h => (⟨h.1, h.2.symm⟩ : _ ∧ W = _))
  clear hI
  have hsz : braceA.size = 3 := rfl
  have i1 : (0 : Int) < (braceA.size : Int) := by decide
  have hg : braceA[0] = 123 := rfl
  go_enter Tryz.func64, Tryz.ntmps64
  go_wp2_with fail
  go_quiet (first
    | (go_at_call 66; (first | exact Calls.quiet_add_left (HG.out _) | exact Calls.quiet_left (HG.out _)))
    | (go_at_call 65; (first | exact Calls.quiet_add_left (HI.out _) | exact Calls.quiet_left (HI.out _))))
  go_wp2_with fail
  go_ret
  exact ⟨rfl, _, rfl⟩

set_option maxHeartbeats 1000000 in
theorem bare_open (w : World) : Calls Tryz.prog 44 #[.string braceA, .bool false] w fun e w' => e = .returned (.tuple #[.string ⟨#[]⟩, .int .i64 0, .nilIface]) ∧ Below w.heap.size w w' := by
  have hmf : ∀ (fn : Fn) (first cap : Array Value) (w : World), (Instr.makeFunc fn first cap).run Tryz.prog w = .ok (.func fn first cap) w := fun _ _ _ _ => rfl
  have hcf : ∀ (args : Array Value) (w : World), (callFunc 64 args).run Tryz.prog w = .ok (.enter 64 args) w := enters_of Tryz.func64 (by kernel_rfl) rfl
  have hB := Lib.fresh_isBuilder 91 5 ((w.alloc (.cells #[.string braceA] 9)).alloc (.cells #[.bool false] 4))
  have hw : Below w.heap.size w (((w.alloc (.cells #[.string braceA] 9)).alloc (.cells #[.bool false] 4)).alloc (.cells #[.pointer none, .slice none 0 0] 91)) := (by (repeat (first | with_reducible exact Below.refl _ _ | with_reducible refine bel_set ?_ ?_ | with_reducible refine bel_alloc ?_ ?_ | with_reducible refine Below.drew ?_ | with_reducible refine bel_drewN _ ?_ | with_reducible refine bel_call ?_ (by assumption) ?_)); all_goals (first | (simp; done) | omega | (simp; omega)))
  have f0 : (((w.alloc (.cells #[.string braceA] 9)).alloc (.cells #[.bool false] 4)).alloc (.cells #[.pointer none, .slice none 0 0] 91)).cell? ⟨w.heap.size, 0, none⟩ = some (.string braceA) := by go_simp
  have f1 : (((w.alloc (.cells #[.string braceA] 9)).alloc (.cells #[.bool false] 4)).alloc (.cells #[.pointer none, .slice none 0 0] 91)).cell? ⟨w.heap.size + 1, 0, none⟩ = some (.bool false) := by go_simp
  have hs3 : (((w.alloc (.cells #[.string braceA] 9)).alloc (.cells #[.bool false] 4)).alloc (.cells #[.pointer none, .slice none 0 0] 91)).heap.size = w.heap.size + 3 := by simp
  have hs2 : ((w.alloc (.cells #[.string braceA] 9)).alloc (.cells #[.bool false] 4)).heap.size = w.heap.size + 1 + 1 := by simp
  rw [hs2] at hB
  obtain ⟨W3, hW⟩ : ∃ W3, W3 = ((w.alloc (.cells #[.string braceA] 9)).alloc (.cells #[.bool false] 4)).alloc (.cells #[.pointer none, .slice none 0 0] 91) := ⟨_, rfl⟩
  rw [← hW] at hB hw f0 f1 hs3
  have HW := Lib.hid hW
  have HB := Lib.hid hB
  have HS := Lib.hid hs3
  have HWB := Lib.hid hw
  clear hB hW hs2 hw hs3
  go_enter Tryz.func44, Tryz.ntmps44
  go_wp2_with fail
  rw [← HW.out]
  go_loopw [9] (fun i wr => i = .int .i64 0 ∧ W3 = wr) (fun _ _ => 0)
  case atStart => exact ⟨rfl, rfl⟩
  case round =>
    obtain ⟨rfl, rfl⟩ := hrel
    have hsz : braceA.size = 3 := rfl
    have i1 : (0 : Int) < (braceA.size : Int) := by decide
    have HSA := Lib.hid (sign_at w.heap.size (w.heap.size + 1) W3 f0 f1)
    go_wp2_with fail
    refine HSA.out.mono ?_
    rintro e w1 ⟨rfl, n, rfl⟩
    have HBS := Lib.hid (Tryz.Builder_String_empty (w.heap.size + 1 + 1) (w.heap.size + 1 + 1) (W3.drewN n) HB.out (by show w.heap.size + 1 + 1 ≤ W3.heap.size; have := HS.out; omega))
    go_wp2_with fail
    refine HBS.out.mono ?_
    rintro e w2 ⟨rfl, hb2⟩
    go_wp2_with fail
    go_ret3
    exact ⟨rfl, HWB.out.trans (Below.trans (bel_drewN n (Below.refl _ W3)) (hb2.mono (by omega)))⟩
set_option maxHeartbeats 1000000 in
theorem bare_none (w : World) : Calls Tryz.prog 44 #[.string ⟨#[]⟩, .bool false] w fun e w' => e = .returned (.tuple #[.string ⟨#[]⟩, .int .i64 0, .nilIface]) ∧ Below w.heap.size w w' := by
  have hmf : ∀ (fn : Fn) (first cap : Array Value) (w : World), (Instr.makeFunc fn first cap).run Tryz.prog w = .ok (.func fn first cap) w := fun _ _ _ _ => rfl
  have hcf : ∀ (args : Array Value) (w : World), (callFunc 64 args).run Tryz.prog w = .ok (.enter 64 args) w := enters_of Tryz.func64 (by kernel_rfl) rfl
  have hB := Lib.fresh_isBuilder 91 5 ((w.alloc (.cells #[.string ⟨#[]⟩] 9)).alloc (.cells #[.bool false] 4))
  have hw : Below w.heap.size w (((w.alloc (.cells #[.string ⟨#[]⟩] 9)).alloc (.cells #[.bool false] 4)).alloc (.cells #[.pointer none, .slice none 0 0] 91)) := (by (repeat (first | with_reducible exact Below.refl _ _ | with_reducible refine bel_set ?_ ?_ | with_reducible refine bel_alloc ?_ ?_ | with_reducible refine Below.drew ?_ | with_reducible refine bel_drewN _ ?_ | with_reducible refine bel_call ?_ (by assumption) ?_)); all_goals (first | (simp; done) | omega | (simp; omega)))
  have f0 : (((w.alloc (.cells #[.string ⟨#[]⟩] 9)).alloc (.cells #[.bool false] 4)).alloc (.cells #[.pointer none, .slice none 0 0] 91)).cell? ⟨w.heap.size, 0, none⟩ = some (.string ⟨#[]⟩) := by go_simp
  have f1 : (((w.alloc (.cells #[.string ⟨#[]⟩] 9)).alloc (.cells #[.bool false] 4)).alloc (.cells #[.pointer none, .slice none 0 0] 91)).cell? ⟨w.heap.size + 1, 0, none⟩ = some (.bool false) := by go_simp
  have hs3 : (((w.alloc (.cells #[.string ⟨#[]⟩] 9)).alloc (.cells #[.bool false] 4)).alloc (.cells #[.pointer none, .slice none 0 0] 91)).heap.size = w.heap.size + 3 := by simp
  have hs2 : ((w.alloc (.cells #[.string ⟨#[]⟩] 9)).alloc (.cells #[.bool false] 4)).heap.size = w.heap.size + 1 + 1 := by simp
  rw [hs2] at hB
  obtain ⟨W3, hW⟩ : ∃ W3, W3 = ((w.alloc (.cells #[.string ⟨#[]⟩] 9)).alloc (.cells #[.bool false] 4)).alloc (.cells #[.pointer none, .slice none 0 0] 91) := ⟨_, rfl⟩
  rw [← hW] at hB hw f0 f1 hs3
  have HW := Lib.hid hW
  have HB := Lib.hid hB
  have HS := Lib.hid hs3
  have HWB := Lib.hid hw
  clear hB hW hs2 hw hs3
  go_enter Tryz.func44, Tryz.ntmps44
  go_wp2_with fail
  rw [← HW.out]
  go_loopw [9] (fun i wr => i = .int .i64 0 ∧ W3 = wr) (fun _ _ => 0)
  case atStart => exact ⟨rfl, rfl⟩
  case round =>
    obtain ⟨rfl, rfl⟩ := hrel
    go_wp2_with fail
    have HBS : Hid (∀ W : World, Lib.IsBuilder 91 5 (w.heap.size + 1 + 1) (w.heap.size + 1 + 1) [] W → w.heap.size + 1 + 1 ≤ W.heap.size → _) := Lib.hid (fun W h h2 => Tryz.Builder_String_empty (w.heap.size + 1 + 1) (w.heap.size + 1 + 1) W h h2)
    have hsz : w.heap.size + 1 + 1 ≤ W3.heap.size := by have := HS.out; omega
    have HZ := Lib.hid hsz
    clear hsz
    have HLE : Hid (w.heap.size ≤ w.heap.size + 1 + 1) := Lib.hid (by omega)
    have H0 := Lib.hid (HBS.out W3 HB.out HZ.out)
    have H1 := Lib.hid (HBS.out W3.drew HB.out HZ.out)
    have H2 := Lib.hid (HBS.out W3.drew.drew HB.out HZ.out)
    go_region_held3 (fun w' => w'.cell? ⟨w.heap.size, 0, none⟩ = some (.string ⟨#[]⟩))
      (first | go_keep | assumption)
      (first | (go_at_call 42; (first | with_reducible refine H1.out.mono ?_ | with_reducible refine H0.out.mono ?_ | with_reducible refine H2.out.mono ?_); rintro e wx ⟨rfl, hbx⟩; have hkx : World.cell? wx ⟨w.heap.size, 0, none⟩ = some (.string ⟨#[]⟩) := (Below.cell (p := ⟨w.heap.size, 0, none⟩) hbx (Nat.lt_of_lt_of_le (Nat.lt_succ_self _) (Nat.le_succ _))).trans f0; have HBX : Hid (Below w.heap.size w wx) := Lib.hid (by first | exact HWB.out.drew.trans (hbx.mono HLE.out) | exact HWB.out.trans (hbx.mono HLE.out) | exact HWB.out.drew.drew.trans (hbx.mono HLE.out)); clear hbx))
    all_goals go_wp2_with fail
    all_goals go_ret3
    all_goals exact ⟨rfl, Hid.out (by assumption)⟩
end Go.Proofs.YthlcjlmaaaappaaGreatDoor
