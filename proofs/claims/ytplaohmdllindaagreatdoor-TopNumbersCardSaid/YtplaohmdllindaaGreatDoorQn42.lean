/- ClockNew: texts put together. -/
import Derived.Test.YtplaohmdllindaaGreatDoorQn17
import Derived.Laws.MakeOwn
import Derived.Stop.LaidErr
set_option linter.unusedVariables false
set_option linter.unusedSimpArgs false
/- clock.Cache: New, Clear. -/
namespace Go.Proofs.YtplaohmdllindaaGreatDoor
open Go.RowKit

def Cch.none : Cch := ⟨fun _ => ⟨#[]⟩, fun _ => ⟨#[]⟩, fun _ => false, fun _ => false⟩

theorem infoPlace : ∃ i, Tryz.prog.info? 277 = some i ∧ i.zero = some (.agg #[.string ⟨#[]⟩, .string ⟨#[]⟩, .bool false, .bool false]) ∧ i.size = 4 ∧ i.bytes = 40 := by
  have h : (Tryz.prog.info? 277).map (fun i => (i.zero, i.size, i.bytes)) = some (some (.agg #[.string ⟨#[]⟩, .string ⟨#[]⟩, .bool false, .bool false]), 4, 40) := by kernel_rfl
  obtain ⟨i, hi, h2⟩ := Option.map_eq_some_iff.1 h
  simp only [Prod.mk.injEq] at h2
  exact ⟨i, hi, h2.1, h2.2.1, h2.2.2⟩

def rowP (n : Nat) : Obj := .cells (madeCells #[.string ⟨#[]⟩, .string ⟨#[]⟩, .bool false, .bool false] (n * 4)) 277

theorem run_places (n : Nat) (hn : n ≤ 50) (w : World) :
    (Instr.makeSlice 189 (.int .i64 n) (.int .i64 n)).run Tryz.prog w = .ok (.slice (some ⟨w.heap.size, 0, none⟩) n n) (w.alloc (rowP n)) := by
  obtain ⟨i, hi, hz, hs, hb⟩ := infoPlace
  have := run_make (P := Tryz.prog) w 189 277 i _ Tryz.underlying189 hi hz .i64 .i64 (n : Int) (n : Int) (by omega) (by omega) (by rw [hb]; omega) (by omega)
  rw [hs] at this
  exact this

theorem made_at (z : Array Value) (n i j : Nat) (hz : z.size = 4) (hi : i < n) (hj : j < 4) : (madeCells z (n * 4))[i * 4 + j]? = some z[j]! := by
  unfold madeCells
  rw [Array.getElem?_map, Array.getElem?_range, if_pos (by omega), hz]
  simp only [Option.map_some]
  rw [show (i * 4 + j) % 4 = j by omega]

theorem rowP_cell (n i j : Nat) (hi : i < n) (hj : j < 4) (w : World) : (w.alloc (rowP n)).cell? ⟨w.heap.size, i * 4 + j, none⟩ = some #[Value.string ⟨#[]⟩, .string ⟨#[]⟩, .bool false, .bool false][j]! := by
  have h := heap_alloc_new w (rowP n)
  unfold rowP at h
  simp only [World.cell?, rowP, h]
  exact made_at _ n i j rfl hi hj
theorem rowP_frozen (n o : Nat) (w : World) : (w.alloc (rowP n)).frozen? ⟨w.heap.size, o, none⟩ = false := by
  have h := heap_alloc_new w (rowP n)
  unfold rowP at h
  unfold World.frozen? rowP
  rw [h]
  simp

theorem new_ok (n : Nat) (w : World) (h0 : 1 ≤ n) (h1 : n ≤ 50) :
    Calls Tryz.prog 50 #[.int .i64 n] w fun e w' => ∃ cb pb, e = .returned (.tuple #[.pointer (some ⟨cb, 0, none⟩), .nilIface]) ∧ CacheAt w' cb pb n Cch.none 0 ∧ w.heap.size ≤ cb ∧ w.heap.size ≤ pb ∧ Below w.heap.size w w' := by
  have hr := run_places n h1
  go_enter Tryz.func50, Tryz.ntmps50
  go_wp2_with fail
  go_ret2
  refine ⟨w.heap.size + 1, w.heap.size, rfl, ⟨h0, h1, by omega, by omega, ?_, ?_, ?_, ?_, ?_, ?_, ?_, ?_⟩, by omega, by omega, ?_⟩
  · go_simp
  · go_simp
  · exact fun i hi => cell?_alloc_old _ (rowP_cell n i 0 hi (by omega) w)
  · exact fun i hi => cell?_alloc_old _ (rowP_cell n i 1 hi (by omega) w)
  · exact fun i hi => cell?_alloc_old _ (rowP_cell n i 2 hi (by omega) w)
  · exact fun i hi => cell?_alloc_old _ (rowP_cell n i 3 hi (by omega) w)
  · intro o
    go_simp
  · exact fun o => carryF ((Below.refl _ _).alloc (Nat.le_refl _) _) (by simp) (rowP_frozen n o w)
  · exact ((Below.refl _ _).alloc (Nat.le_refl _) _).alloc (by simp) _

theorem clear_ok (cb pb n h : Nat) (S : Cch) (w : World) (hc : CacheAt w cb pb n S h) :
    Calls Tryz.prog 53 #[.pointer (some ⟨cb, 0, none⟩)] w fun e w' => e = .returned (.tuple #[]) ∧ CacheAt w' cb w.heap.size n Cch.none 0 ∧ Off [cb] w w' := by
  have n0 := hc.n0
  have n1 := hc.n1
  have c0 := hc.head
  have c1 := hc.hand
  have f0 := hc.fc
  have lc := hc.lcb
  have hr := run_places n n1
  have d0 : ∀ o, (w.alloc (rowP n)).cell? ⟨cb, o, none⟩ = w.cell? ⟨cb, o, none⟩ := fun o => ((Below.refl _ _).alloc (Nat.le_refl _) _).cell (p := ⟨cb, o, none⟩) lc
  have g0 : ∀ o, (w.alloc (rowP n)).frozen? ⟨cb, o, none⟩ = false := fun o => carryF ((Below.refl _ _).alloc (Nat.le_refl _) _) lc (f0 o)
  clear hc
  go_enter Tryz.func53, Tryz.ntmps53
  go_wp2_with fail
  go_end0
  obtain ⟨W, hW⟩ : ∃ W, W = (w.setCell ⟨cb, 0, none⟩ (.slice (some ⟨w.heap.size, 0, none⟩) n n)).setCell ⟨cb, 1, none⟩ (.int .i64 0) := ⟨_, rfl⟩
  have hs : W.heap.size = w.heap.size := by rw [hW]; simp
  have hO : Off [cb] w W := hW ▸ ((Off.refl [cb] w).setCell ⟨cb, 0, none⟩ _ (List.mem_singleton.2 rfl)).setCell ⟨cb, 1, none⟩ _ (List.mem_singleton.2 rfl)
  have s1 : W.cell? ⟨cb, 0, none⟩ = some (.slice (some ⟨w.heap.size, 0, none⟩) n n) := hW ▸ cell_other (cell_same c0) (by intro e; simp only [Addr.mk.injEq] at e; omega)
  have s2 : W.cell? ⟨cb, 1, none⟩ = some (.int .i64 0) := hW ▸ cell_same (cell_other c1 (by intro e; simp only [Addr.mk.injEq] at e; omega))
  have s3 : ∀ o, W.frozen? ⟨cb, o, none⟩ = false := fun o => by rw [hW, World.frozen?_setCell, World.frozen?_setCell]; exact f0 o
  have s4 := rowP_cell n (w := W)
  have s5 := rowP_frozen n (w := W)
  rw [hs] at s4 s5
  rw [← hW]
  clear hW hr
  exact ⟨rfl, ⟨n0, n1, by omega, by omega, cell?_alloc_old _ s1, cell?_alloc_old _ s2, fun i hi => s4 i 0 hi (by omega), fun i hi => s4 i 1 hi (by omega), fun i hi => s4 i 2 hi (by omega), fun i hi => s4 i 3 hi (by omega),
    fun o => carryF ((Below.refl _ _).alloc (Nat.le_refl _) _) (by omega) (s3 o), s5⟩, hO.alloc _⟩
end Go.Proofs.YtplaohmdllindaaGreatDoor
