/- msg.Parse at "{a}". -/
import Derived.Test.YthlcjlmaaaappaaGreatDoorMsgMessage
import Derived.Test.YthlcjlmaaaappaaGreatDoorMsgShow
import Derived.Recover
namespace Go.Proofs.YthlcjlmaaaappaaGreatDoor
open Go.RowKit

theorem parse_idle (p q : Addr) (w : World) :
    CallsD Tryz.prog 20 #[.pointer (some p), .pointer (some q)] .returning w fun e u' w' => e = .returned (.tuple #[]) ∧ u' = .returning ∧ w' = w := by
  refine callsD_of_wpS Tryz.func20 rfl fun c₀ cs hu => ?_
  apply wpS_seq
  apply wpS_region
  simp [wpOpsS, go_sem, recoverD, hu, Tryz.ntmps20, Exit.thenS]
  apply wpS_seq
  apply wpS_region
  simp [wpOpsS, go_sem, hu, Exit.thenS]
  refine wpS_cond (t := false) (by simp [Act.eval, Array.replicate]) ?_
  simp only [Bool.false_eq_true, if_false]
  refine wpS_of_wp (wp_skip ?_)
  cases c₀
  simp_all [bodyPostS, results, Tryz.results20]

set_option maxHeartbeats 2000000 in
theorem parse_a (w : World) :
    Calls Tryz.prog 7 #[.string braceA] w fun e w' => ∃ g c, e = .returned (.tuple #[.slice (some ⟨g, 0, none⟩) 1 c, .nilIface]) ∧ Below w.heap.size w w' := by
  have hmf : ∀ (fn : Fn) (first cap : Array Value) (w : World), (Instr.makeFunc fn first cap).run Tryz.prog w = .ok (.func fn first cap) w := fun _ _ _ _ => rfl
  have xs : braceA.size = 3 := rfl
  have hr : RdAt (((w.alloc (.cells #[.slice none 0 0] 23)).alloc (.cells #[.nilIface] 25)).alloc (.cells #[.string braceA, .int .i64 0] 61)) (w.heap.size + 1 + 1) braceA 0 := ⟨by go_simp, by go_simp, by go_simp, by go_simp⟩
  have c0 : (((w.alloc (.cells #[.slice none 0 0] 23)).alloc (.cells #[.nilIface] 25)).alloc (.cells #[.string braceA, .int .i64 0] 61)).cell? ⟨w.heap.size, 0, none⟩ = some (.slice none 0 0) := by go_simp
  have c1 : (((w.alloc (.cells #[.slice none 0 0] 23)).alloc (.cells #[.nilIface] 25)).alloc (.cells #[.string braceA, .int .i64 0] 61)).cell? ⟨w.heap.size + 1, 0, none⟩ = some .nilIface := by go_simp
  have f0 : (((w.alloc (.cells #[.slice none 0 0] 23)).alloc (.cells #[.nilIface] 25)).alloc (.cells #[.string braceA, .int .i64 0] 61)).frozen? ⟨w.heap.size, 0, none⟩ = false := by go_simp
  have f1 : (((w.alloc (.cells #[.slice none 0 0] 23)).alloc (.cells #[.nilIface] 25)).alloc (.cells #[.string braceA, .int .i64 0] 61)).frozen? ⟨w.heap.size + 1, 0, none⟩ = false := by go_simp
  have s3 : (((w.alloc (.cells #[.slice none 0 0] 23)).alloc (.cells #[.nilIface] 25)).alloc (.cells #[.string braceA, .int .i64 0] 61)).heap.size = w.heap.size + 3 := by simp
  have o3 : Off [w.heap.size + 1 + 1] w (((w.alloc (.cells #[.slice none 0 0] 23)).alloc (.cells #[.nilIface] 25)).alloc (.cells #[.string braceA, .int .i64 0] 61)) := (((Off.refl _ w).alloc _).alloc _).alloc _
  have HR := Lib.hid hr
  have HC := Lib.hid (And.intro c0 (And.intro c1 (And.intro f0 (And.intro f1 (And.intro s3 o3)))))
  clear hr c0 c1 f0 f1 s3 o3
  go_enter_defers Tryz.func7, Tryz.ntmps7
  go_wp2_with fail
  refine (message_at _ _ HR.out).mono ?_
  rintro e w4 ⟨g, c, hc1, hge, rfl, hN, hR4, hO⟩
  obtain ⟨c0, c1, f0, f1, s3, o3⟩ := HC.out
  have l0 := lt_of_cell c0
  have l1 := lt_of_cell c1
  have k0 := hO.cell c0 (by first | (simp; done) | (simp; omega))
  have k1 := hO.cell c1 (by simp)
  have j0 := (hO.frozen (o := 0) l0 (by first | (simp; done) | (simp; omega))).trans f0
  have j1 := (hO.frozen (o := 0) l1 (by simp)).trans f1
  have s4 := hO.size
  rw [s3] at hge s4
  have o4 := o3.trans hO
  have hb4 : Below w.heap.size w w4 := o4.toBelow (fun k hk => by simp at hk; omega) (Nat.le_refl _)
  clear c0 c1 f0 f1 s3 o3 hO o4 l0 l1 HR HC
  obtain ⟨d0, d1, d2, d3⟩ := hR4
  have S0 : (w4.setCell ⟨w.heap.size, 0, none⟩ (.slice (some ⟨g, 0, none⟩) 1 c)).cell? ⟨w.heap.size + 1 + 1, 0, none⟩ = some (.string ⟨#[]⟩) := cell_other d0 (by first | (simp; done) | (simp; omega))
  go_wp2_with fail
  have hN5 : NodeAt (w4.setCell ⟨w.heap.size, 0, none⟩ (.slice (some ⟨g, 0, none⟩) 1 c)) g 2 ⟨#[97]⟩ 0 none 0 0 := ⟨cell_other hN.1 (by first | (simp; done) | (simp; omega)), cell_other hN.2.1 (by first | (simp; done) | (simp; omega)), cell_other hN.2.2.1 (by first | (simp; done) | (simp; omega)), cell_other hN.2.2.2 (by first | (simp; done) | (simp; omega))⟩
  have r0 : (w4.setCell ⟨w.heap.size, 0, none⟩ (.slice (some ⟨g, 0, none⟩) 1 c)).cell? ⟨w.heap.size, 0, none⟩ = some (.slice (some ⟨g, 0, none⟩) 1 c) := cell_same k0
  have r1 : (w4.setCell ⟨w.heap.size, 0, none⟩ (.slice (some ⟨g, 0, none⟩) 1 c)).cell? ⟨w.heap.size + 1, 0, none⟩ = some .nilIface := cell_other k1 (by simp)
  have v0 : (w4.setCell ⟨w.heap.size, 0, none⟩ (.slice (some ⟨g, 0, none⟩) 1 c)).frozen? ⟨w.heap.size, 0, none⟩ = false := by rw [World.frozen?_setCell]; exact j0
  have v1 : (w4.setCell ⟨w.heap.size, 0, none⟩ (.slice (some ⟨g, 0, none⟩) 1 c)).frozen? ⟨w.heap.size + 1, 0, none⟩ = false := by rw [World.frozen?_setCell]; exact j1
  have hb5 : Below w.heap.size w (w4.setCell ⟨w.heap.size, 0, none⟩ (.slice (some ⟨g, 0, none⟩) 1 c)) := bel_set hb4 (Nat.le_refl _)
  refine (msg_check_show g c ⟨#[97]⟩ _ hN5 hc1 (by decide) (by decide)).mono ?_
  rintro e w6 ⟨rfl, hb6⟩
  have t0 := carry hb6 r0
  have t1 := carry hb6 r1
  have u0 := carryF hb6 (lt_of_cell r0) v0
  have u1 := carryF hb6 (lt_of_cell r1) v1
  have hbb : Below w.heap.size w w6 := hb5.trans (hb6.mono hb5.size)
  clear hN hN5 r0 r1 v0 v1 hb5 hb6 hb4 k0 k1 j0 j1 S0 d0 d1 d2 d3
  have z0 : ((w6.setCell ⟨w.heap.size, 0, none⟩ (.slice (some ⟨g, 0, none⟩) 1 c)).setCell ⟨w.heap.size + 1, 0, none⟩ .nilIface).cell? ⟨w.heap.size, 0, none⟩ = some (.slice (some ⟨g, 0, none⟩) 1 c) := cell_other (cell_same t0) (by simp)
  have z1 : ((w6.setCell ⟨w.heap.size, 0, none⟩ (.slice (some ⟨g, 0, none⟩) 1 c)).setCell ⟨w.heap.size + 1, 0, none⟩ .nilIface).cell? ⟨w.heap.size + 1, 0, none⟩ = some .nilIface := cell_same (cell_other t1 (by simp))
  have hz : Below w.heap.size w ((w6.setCell ⟨w.heap.size, 0, none⟩ (.slice (some ⟨g, 0, none⟩) 1 c)).setCell ⟨w.heap.size + 1, 0, none⟩ .nilIface) := bel_set (bel_set hbb (Nat.le_refl _)) (Nat.le_succ _)
  go_wp2_with fail
  refine leaves_cons (f := 20) (args := #[.pointer (some ⟨w.heap.size, 0, none⟩), .pointer (some ⟨w.heap.size + 1, 0, none⟩)]) (by simp) (by simp [go_sem]) ?_
  refine (parse_idle _ _ _).mono ?_
  rintro e u' w7 ⟨rfl, rfl, rfl⟩
  refine ⟨.tuple #[.slice (some ⟨g, 0, none⟩) 1 c, .nilIface], ?_, g, c, rfl, hz⟩
  have hfr : Tryz.f7.results = #[.cell 2 23, .cell 3 25] := rfl
  simp [results, hfr, go_sem, z0, z1]
end Go.Proofs.YthlcjlmaaaappaaGreatDoor
