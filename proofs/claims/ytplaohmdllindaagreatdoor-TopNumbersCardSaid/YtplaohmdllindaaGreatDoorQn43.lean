/- Serve: texts put together. -/
import Derived.Test.YtplaohmdllindaaGreatDoorQn41
import Derived.Test.YtplaohmdllindaaGreatDoorQn42
import Derived.Test.YtplaohmdllindaaGreatDoorQn3
import Derived.Test.YtplaohmdllindaaGreatDoorQn4
import Derived.Test.YtplaohmdllindaaGreatDoorQn1
set_option linter.unusedVariables false
set_option linter.unusedSimpArgs false
/- serve: a server; New. -/
namespace Go.Proofs.YtplaohmdllindaaGreatDoor
open Go.RowKit Go.Maps

/-- a server at sv: its parts -/
structure SrvAt (w : World) (sv sb cb mb : Nat) (l : Value) (ver : Int) : Prop where
  c0 : w.cell? ⟨sv, 0, none⟩ = some (.pointer (some ⟨sb, 0, none⟩))
  c1 : w.cell? ⟨sv, 1, none⟩ = some (.pointer (some ⟨cb, 0, none⟩))
  c2 : w.cell? ⟨sv, 2, none⟩ = some (.map (some mb))
  c3 : w.cell? ⟨sv, 3, none⟩ = some l
  c4 : w.cell? ⟨sv, 4, none⟩ = some (.int .i64 ver)
  fz : ∀ o, w.frozen? ⟨sv, o, none⟩ = false
theorem SrvAt.off {w w' : World} {sv sb cb mb : Nat} {l : Value} {ver : Int} {L : List Nat} (h : SrvAt w sv sb cb mb l ver) (hf : Off L w w') (hn : sv ∉ L) : SrvAt w' sv sb cb mb l ver :=
  ⟨hf.cell h.c0 hn, hf.cell h.c1 hn, hf.cell h.c2 hn, hf.cell h.c3 hn, hf.cell h.c4 hn, fun o => (hf.frozen (lt_of_cell h.c0) hn).trans (h.fz o)⟩
theorem SrvAt.below {w w' : World} {sv sb cb mb : Nat} {l : Value} {ver : Int} (h : SrvAt w sv sb cb mb l ver) (hb : Below w.heap.size w w') : SrvAt w' sv sb cb mb l ver := h.off ((Off.refl [] w).below hb (Nat.le_refl _)) (by simp)
theorem SrvAt.lt {w : World} {sv sb cb mb : Nat} {l : Value} {ver : Int} (h : SrvAt w sv sb cb mb l ver) : sv < w.heap.size := lt_of_cell h.c0
theorem SrvAt.set4 {w : World} {sv sb cb mb : Nat} {l : Value} {ver : Int} (h : SrvAt w sv sb cb mb l ver) (ver' : Int) : SrvAt (w.setCell ⟨sv, 4, none⟩ (.int .i64 ver')) sv sb cb mb l ver' :=
  ⟨cell_other h.c0 (by simp), cell_other h.c1 (by simp), cell_other h.c2 (by simp), cell_other h.c3 (by simp), cell_same h.c4, fun o => by rw [World.frozen?_setCell]; exact h.fz o⟩
theorem SrvAt.set3 {w : World} {sv sb cb mb : Nat} {l : Value} {ver : Int} (h : SrvAt w sv sb cb mb l ver) (l' : Value) : SrvAt (w.setCell ⟨sv, 3, none⟩ l') sv sb cb mb l' ver :=
  ⟨cell_other h.c0 (by simp), cell_other h.c1 (by simp), cell_other h.c2 (by simp), cell_same h.c3, cell_other h.c4 (by simp), fun o => by rw [World.frozen?_setCell]; exact h.fz o⟩

set_option maxHeartbeats 2000000 in
theorem serve_new (w : World) :
    Calls Tryz.prog 16 #[.int .i64 1] w fun e w' => ∃ n cb pb mb, e = .returned (.tuple #[.pointer (some ⟨mb + 1, 0, none⟩), .nilIface]) ∧ SrvAt w' (mb + 1) (n + 1) cb mb (.slice none 0 0) 0 ∧ CacheAt w' cb pb 1 Cch.none 0 ∧ HMap w' mb 0 [] ∧ StoreAt w' n (n + 1) n 0 [] (fun _ => 0) (fun _ => 0) ∧
      w.heap.size ≤ cb ∧ w.heap.size ≤ pb ∧ cb < n ∧ pb < n ∧ n + 2 ≤ mb ∧ w'.heap.size = mb + 2 ∧ Below w.heap.size w w' := by
  have hmm := @run_makeMap Tryz.prog
  have KN : Hid (∀ W : World, Calls Tryz.prog 50 #[.int .i64 1] W fun e w' => ∃ cb pb, e = .returned (.tuple #[.pointer (some ⟨cb, 0, none⟩), .nilIface]) ∧ CacheAt w' cb pb 1 Cch.none 0 ∧ W.heap.size ≤ cb ∧ W.heap.size ≤ pb ∧ Below W.heap.size W w') := Lib.hid (fun W => new_ok 1 W (by omega) (by omega))
  go_enter Tryz.func16, Tryz.ntmps16
  go_wp2_with fail
  refine (KN.out _).mono ?_
  rintro e w1 ⟨cb, pb, rfl, hC, h1, h2, hb1⟩
  have HC := Lib.hid hC
  have HB1 := Lib.hid hb1
  clear hC hb1
  go_wp2_with fail
  refine (store_new w1).mono ?_
  rintro e w2 ⟨rfl, hS, hb2⟩
  have HS := Lib.hid hS
  have HC2 := Lib.hid (HC.out.below hb2)
  have HB2 := Lib.hid (HB1.out.trans (hb2.mono HB1.out.size))
  have hl := hS.lt
  have hcl := HC.out.lcb
  have hpl := HC.out.lpb
  clear hS hb2 HC HB1
  go_wp2_with fail
  go_ret2
  have hb3 : Below w2.heap.size w2 ((w2.alloc (.map #[] 0)).alloc (.cells #[.pointer (some ⟨w1.heap.size + 1, 0, none⟩), .pointer (some ⟨cb, 0, none⟩), .map (some w2.heap.size), .slice none 0 0, .int .i64 0] 126)) := belx
  refine ⟨w1.heap.size, cb, pb, w2.heap.size, rfl, ⟨by go_simp, by go_simp, by go_simp, by go_simp, by go_simp, fun o => ?_⟩, HC2.out.below hb3, (hm_made w2).below belx, HS.out.below hb3, h1, h2, hcl, hpl, by omega, by simp, HB2.out.trans (hb3.mono HB2.out.size)⟩
  have := (TyAt.new (w2.alloc (.map #[] 0)) #[.pointer (some ⟨w1.heap.size + 1, 0, none⟩), .pointer (some ⟨cb, 0, none⟩), .map (some w2.heap.size), .slice none 0 0, .int .i64 0] 126).frozen o
  first | (simp; done) | simpa using this
end Go.Proofs.YtplaohmdllindaaGreatDoor
