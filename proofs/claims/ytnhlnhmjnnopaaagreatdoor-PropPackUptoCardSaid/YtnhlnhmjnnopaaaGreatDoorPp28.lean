/- RepBuild: texts put together. -/
import Derived.Test.YtnhlnhmjnnopaaaGreatDoorPp2
import Derived.Deep.WholeRow
import Derived.WalkSpells
set_option linter.unusedVariables false
set_option linter.unusedSimpArgs false
/- strings.NewReplacer, (*strings.Replacer).build, buildOnce, at the escaper of package prop. Printed by gens/RepBuild.py. -/
namespace Go.Proofs.YtnhlnhmjnnopaaaGreatDoor
open Go.RowKit

theorem make3 : ∀ w : World, (Instr.makeSlice 30 (.int .i64 0) (.int .i64 3)).run Tryz.prog w = .ok (.slice (some ⟨w.heap.size, 0, none⟩) 0 3) (w.alloc (.cells #[.string ⟨#[]⟩, .string ⟨#[]⟩, .string ⟨#[]⟩] 9)) := fun _ => by kernel_rfl
def nil257 : Array Value := Array.replicate 257 (.slice none 0 0)
def row257 (v : Value) : Array Value := nil257.setIfInBounds 256 v
theorem infoBsr : (Tryz.prog.info? 190).map (fun i => (i.zero, i.size)) = some (some (.agg nil257), 257) := by kernel_rfl
theorem size257 : nil257.size = 257 := by decide +kernel
theorem row257_size (v : Value) : (row257 v).size = 257 := by unfold row257; rw [Array.size_setIfInBounds, size257]
theorem row257_at (v : Value) (i : Nat) (hi : i < 256) : (row257 v)[i]? = some (.slice none 0 0) := by
  unfold row257
  rw [Array.getElem?_setIfInBounds_ne (by omega)]
  unfold nil257
  rw [Array.getElem?_replicate, if_pos (by omega)]
theorem row257_last (v : Value) : (row257 v)[256]? = some v := by
  unfold row257
  rw [Array.getElem?_setIfInBounds_self_of_lt (by rw [size257]; decide)]
theorem row257_list (v : Value) : (row257 v).toList = (List.replicate 257 (Value.slice none 0 0)).set 256 v := by
  unfold row257 nil257
  rw [Array.toList_setIfInBounds, Array.toList_replicate]
theorem row257_one (v : Value) (hv : v.oneCell' = true) : (row257 v).all (·.oneCell') = true := by
  rw [← Array.all_toList, row257_list, List.all_eq_true]
  intro x hx
  rcases List.mem_or_eq_of_mem_set hx with h | h
  · rw [List.eq_of_mem_replicate h]
    rfl
  · rw [h]
    exact hv
theorem store_bsr (w : World) (G c : Nat) : (storeCells ⟨w.heap.size, 0, none⟩ (nil257.toList.set 256 (.slice (some ⟨G, 0, none⟩) 0 c)) 0).run Tryz.prog (w.alloc (.cells nil257 190)) = .ok () (w.alloc (.cells (row257 (.slice (some ⟨G, 0, none⟩) 0 c)) 190)) := by
  have h := run_storeCells_new (P := Tryz.prog) w 190 nil257 (row257 (.slice (some ⟨G, 0, none⟩) 0 c)) (by rw [row257_size]; exact (zero_of_info infoBsr).2) (by rw [row257_size, size257]) (by
    exact row257_one _ rfl)
  have e : (row257 (.slice (some ⟨G, 0, none⟩) 0 c)).toList = nil257.toList.set 256 (.slice (some ⟨G, 0, none⟩) 0 c) := by unfold row257; rw [Array.toList_setIfInBounds]
  rw [e] at h
  exact h
/-- the new table, empty -/
theorem RepAt.new (w : World) {B : Nat} (hB : B ≤ w.heap.size) : RepAt ((w.alloc (.cells #[.string ⟨#[]⟩, .string ⟨#[]⟩, .string ⟨#[]⟩] 9)).alloc (.cells (row257 (.slice (some ⟨w.heap.size, 0, none⟩) 0 3)) 190)) B (w.heap.size + 1) [] [] := by
  have hs : (w.alloc (.cells #[.string ⟨#[]⟩, .string ⟨#[]⟩, .string ⟨#[]⟩] 9)).heap.size = w.heap.size + 1 := by simp
  have hb := heap_alloc_new (w.alloc (.cells #[.string ⟨#[]⟩, .string ⟨#[]⟩, .string ⟨#[]⟩] 9)) (.cells (row257 (.slice (some ⟨w.heap.size, 0, none⟩) 0 3)) 190)
  rw [hs] at hb
  refine ⟨⟨_, hb⟩, by omega, fun c hc => absurd hc List.not_mem_nil, fun c _ => ?_, .slice (some ⟨w.heap.size, 0, none⟩) 0 3, ?_, ?_⟩
  · have := UInt8.toNat_lt c
    rw [cell_of_row _ _ _ _ _ _ hb]
    exact row257_at _ _ (by omega)
  · rw [cell_of_row _ _ _ _ _ _ hb]
    exact row257_last _
  · have h0 : OwnsG kTx (w.alloc (.cells #[.string ⟨#[]⟩, .string ⟨#[]⟩, .string ⟨#[]⟩] 9)) B (.slice (some ⟨w.heap.size, 0, none⟩) 0 3) [] := World.ownsRow_made w _ 3 hB (by decide) rfl
    exact h0.alloc _
theorem conv_one (w : World) (cm : UInt8) (n : Int) (hn : n = cm.toNat) : (convert 25 9 (.slice (some ⟨w.heap.size, 0, none⟩) 1 1)).run Tryz.prog (w.alloc (.cells #[.int .u8 n] 5)) = .ok (.string ⟨#[cm]⟩) (w.alloc (.cells #[.int .u8 n] 5)) := by
  subst hn
  refine run_convert_bytes_back _ 25 9 5 _ 1 [cm] Tryz.underlying25 Tryz.underlying5 Tryz.underlying9 (fun j hj => ?_)
  have h0 : j = 0 := by simp at hj; omega
  subst h0
  rw [Go.WideShapes.add_plain, World.cell?_alloc_at _ _ _ _ rfl]
  rfl
theorem conv_row (w : World) (s : ByteArray) (n : Nat) (hn : s.size = n) : ∃ g cp W0, (convert 9 25 (.string s)).run Tryz.prog w = .ok (.slice (some ⟨g, 0, none⟩) n cp) W0 ∧ n ≤ cp ∧ RowK W0 g s.data.toList ∧ Below w.heap.size w W0 := by
  subst hn
  exact ⟨_, _, _, run_bytes_of_string w 9 25 5 s Tryz.underlying9 Tryz.underlying25 Tryz.underlying5, grownCap_ge w s.size 0 5,
    RowK.new w.drew s _, ((Below.refl _ _).drew).alloc (Nat.le_refl _) _⟩
def idxQ : Nat → Int
  | 0 => 4
  | 1 => 2
  | 2 => 0
  | _ => -2
theorem nil_eql (w : World) : (binOp .eql 25 (.slice none 0 0) (.slice none 0 0)).run Tryz.prog w = .ok (.bool true) w := by kernel_rfl
set_option maxHeartbeats 8000000 in
set_option maxRecDepth 100000 in
theorem rep_build (rb g c : Nat) (w : World) (h4 : w.cell? ⟨rb, 4, none⟩ = some (.slice (some ⟨g, 0, none⟩) 6 c))
    (c0 : w.cell? ⟨g, 0, none⟩ = some (.string ⟨#[92]⟩)) (c1 : w.cell? ⟨g, 1, none⟩ = some (.string ⟨#[92, 92]⟩)) (c2 : w.cell? ⟨g, 2, none⟩ = some (.string ⟨#[10]⟩)) (c3 : w.cell? ⟨g, 3, none⟩ = some (.string ⟨#[92, 110]⟩)) (c4 : w.cell? ⟨g, 4, none⟩ = some (.string ⟨#[13]⟩)) (c5 : w.cell? ⟨g, 5, none⟩ = some (.string ⟨#[92, 114]⟩)) :
    Calls Tryz.prog 94 #[.pointer (some ⟨rb, 0, none⟩)] w fun e w' => ∃ sb, e = .returned (.iface 191 (.pointer (some ⟨sb, 0, none⟩))) ∧ RepAt w' w.heap.size sb [13, 10, 92] [13, 10, 92] ∧ Below w.heap.size w w' := by
  have hza := (zero_of_info infoBsr).1
  have hmk := make3
  have hsz := size257
  have hsc := store_bsr (w.alloc (.cells #[.string ⟨#[]⟩, .string ⟨#[]⟩, .string ⟨#[]⟩] 9)) w.heap.size 3
  rw [show (w.alloc (.cells #[.string ⟨#[]⟩, .string ⟨#[]⟩, .string ⟨#[]⟩] 9)).heap.size = w.heap.size + 1 by simp] at hsc
  have HN := Lib.hid (RepAt.new w (Nat.le_refl _))
  go_enter Tryz.func94, Tryz.ntmps94
  go_wp2_with fail
  go_loop [4, 5] (fun a i => (a = .bool true ∧ i = .int .i64 0) ∨ (a = .bool false ∧ (i = .int .i64 2 ∨ i = .int .i64 4 ∨ i = .int .i64 6))) (fun _ i => (6 - intOf i).toNat)
  case atStart => exact .inl ⟨rfl, rfl⟩
  case round =>
    rcases hrel with ⟨rfl, rfl⟩ | ⟨rfl, rfl | rfl | rfl⟩
    · go_wp2_with fail
      go_round
      case rel => exact .inr ⟨rfl, .inl rfl⟩
      case measure => simp [intOf]
    · go_wp2_with fail
      go_round
      case rel => exact .inr ⟨rfl, .inr (.inl rfl)⟩
      case measure => simp [intOf]
    · go_wp2_with fail
      go_round
      case rel => exact .inr ⟨rfl, .inr (.inr rfl)⟩
      case measure => simp [intOf]
    · go_wp2_with fail
      clear hza hmk hsz hsc
      have hbn : Below w.heap.size w ((w.alloc (.cells #[.string ⟨#[]⟩, .string ⟨#[]⟩, .string ⟨#[]⟩] 9)).alloc (.cells (row257 (.slice (some ⟨w.heap.size, 0, none⟩) 0 3)) 190)) := (by (repeat (first | with_reducible exact Below.refl _ _ | with_reducible refine bel_set ?_ ?_ | with_reducible refine bel_alloc ?_ ?_ | with_reducible refine Below.drew ?_ | with_reducible refine bel_drewN _ ?_ | with_reducible refine bel_call ?_ (by assumption) ?_)); all_goals (first | (simp; done) | omega | (simp; omega)))
      go_loopw [12] (fun i wr => ∃ q : Nat, q ≤ 3 ∧ i = .int .i64 (idxQ q) ∧ Hid (RepAt wr w.heap.size (w.heap.size + 1) (([13, 10, 92] : List UInt8).take q) (([13, 10, 92] : List UInt8).take q)) ∧ Below w.heap.size w wr) (fun i _ => (6 + intOf i).toNat)
      case atStart => exact ⟨0, by decide, rfl, HN, hbn⟩
      case round =>
        obtain ⟨q, hq, rfl, HR, hbr⟩ := hrel
        have hbz := hbr.size
        clear hbn
        obtain rfl | rfl | rfl | rfl : q = 0 ∨ q = 1 ∨ q = 2 ∨ q = 3 := by omega
        · rw [show idxQ 0 = 4 from rfl]
          have hqe := nil_eql wr
          have hRA : RepAt wr w.heap.size (w.heap.size + 1) [] [] := HR.out
          have d0 := carry hbr c4
          have d1 := carry hbr c5
          have y0 : wr.cell? ⟨w.heap.size + 1, 13, none⟩ = some (.slice none 0 0) := hRA.no 13 (by decide)
          obtain ⟨v, y1, hv⟩ := hRA.rep
          have hT := hRA.ty
          have fo := hT.frozen 13
          have hlt := hT.lt
          obtain ⟨A1, k1, rfl, hk1, _⟩ := hv.form
          have y1 : wr.cell? ⟨w.heap.size + 1, 256, none⟩ = some (.slice A1 0 k1) := y1
          have hcv := conv_one wr 13 13 rfl
          have ix : (((⟨#[13]⟩ : ByteArray)[0]'(by decide)).toNat) = 13 := rfl
          have hb2 : Below wr.heap.size wr ((wr.alloc (.cells #[.int .u8 13] 5)).alloc (.cells #[.string ⟨#[13]⟩] 9)) := (by (repeat (first | with_reducible exact Below.refl _ _ | with_reducible refine bel_set ?_ ?_ | with_reducible refine bel_alloc ?_ ?_ | with_reducible refine Below.drew ?_ | with_reducible refine bel_drewN _ ?_ | with_reducible refine bel_call ?_ (by assumption) ?_)); all_goals (first | (simp; done) | omega | (simp; omega)))
          have HV := Lib.hid hv
          have HV2 := Lib.hid ((hv.alloc (.cells #[.int .u8 13] 5)).alloc (.cells #[.string ⟨#[13]⟩] 9))
          have HX : Hid (∀ i u, (kTx.cells ⟨#[13]⟩)[i]? = some u → ((wr.alloc (.cells #[.int .u8 13] 5)).alloc (.cells #[.string ⟨#[13]⟩] 9)).cell? ⟨wr.heap.size + 1, i, none⟩ = some u) := Lib.hid (fun i u hu => by
            match i, hu with
            | 0, hu => cases hu; go_simp)
          have HS : Hid (w.heap.size ≤ ((wr.alloc (.cells #[.int .u8 13] 5)).alloc (.cells #[.string ⟨#[13]⟩] 9)).heap.size) := Lib.hid (by simp; omega)
          have HL : Hid (∀ v' w3, OwnsG kTx w3 w.heap.size v' (([] : List UInt8).map (fun c => (⟨#[c]⟩ : ByteArray)) ++ [⟨#[13]⟩]) → Off (Value.slice A1 0 k1).ownBlock.toList ((wr.alloc (.cells #[.int .u8 13] 5)).alloc (.cells #[.string ⟨#[13]⟩] 9)) w3 →
              w3.cell? ⟨w.heap.size + 1, 256, none⟩ = some (.slice A1 0 k1) ∧ w3.frozen? ⟨w.heap.size + 1, 256, none⟩ = false ∧ RepAt (w3.setCell ⟨w.heap.size + 1, 256, none⟩ v') w.heap.size (w.heap.size + 1) [] [13]) := Lib.hid (fun v' w3 ho hoff => hRA.list y1 hv hb2 hoff ho)
          have HB2 : Hid (∀ w3, Off (Value.slice A1 0 k1).ownBlock.toList ((wr.alloc (.cells #[.int .u8 13] 5)).alloc (.cells #[.string ⟨#[13]⟩] 9)) w3 → Below w.heap.size w w3) := Lib.hid (fun w3 hoff => (hbr.trans (hb2.mono hbz)).trans (hoff.toBelow (fun g hg => (hv.block g hg).1) (by simp; omega)))
          clear hv hk1 hRA hT hb2 HR HV
          go_wp2_with (at_builtin; refine wpList_append_gB (k := kTx) rfl _ _ rfl ⟨#[13]⟩ rfl rfl HV2.out HX.out HS.out (by decide) (by decide) ?_; intro v' w3 ho hoff _; obtain ⟨p1, p2, p3⟩ := HL.out v' w3 ho hoff; have hb3 := HB2.out w3 hoff; obtain ⟨A3, k3, rfl, _⟩ := ho.form; have HR3 := Lib.hid p3; have HB3 := Lib.hid hb3; have p5 : (w3.setCell ⟨w.heap.size + 1, 256, none⟩ (.slice A3 1 k3)).cell? ⟨w.heap.size + 1, 13, none⟩ = some (.slice none 0 0) := p3.no 13 (by decide); obtain ⟨g5, cp, W5, hcv2, hcp, hrow, hb5⟩ := conv_row (w3.setCell ⟨w.heap.size + 1, 256, none⟩ (.slice A3 1 k3)) ⟨#[92, 114]⟩ 2 rfl; have p6 := carry hb5 p5; have p7 := (p3.ty.below hb5).frozen 13; have HROW := Lib.hid (And.intro hrow hcp); have HB5 := Lib.hid hb5; clear ho hoff hrow hcp p3 hb3 p5)
          refine ⟨⟨1, by decide, rfl, Lib.hid (HR3.out.row (c := 13) HB5.out (by rw [show escB 13 = [92, 114] from by decide]; exact HROW.out.1) (by decide) HROW.out.2), ?_⟩, by decide⟩
          exact bel_set (bel_call (bel_set HB3.out (Nat.le_succ _)) HB5.out (by have := HB3.out.size; simp; omega)) (Nat.le_succ _)
        · rw [show idxQ 1 = 2 from rfl]
          have hqe := nil_eql wr
          have hRA : RepAt wr w.heap.size (w.heap.size + 1) [13] [13] := HR.out
          have d0 := carry hbr c2
          have d1 := carry hbr c3
          have y0 : wr.cell? ⟨w.heap.size + 1, 10, none⟩ = some (.slice none 0 0) := hRA.no 10 (by decide)
          obtain ⟨v, y1, hv⟩ := hRA.rep
          have hT := hRA.ty
          have fo := hT.frozen 10
          have hlt := hT.lt
          obtain ⟨A1, k1, rfl, hk1, _⟩ := hv.form
          have y1 : wr.cell? ⟨w.heap.size + 1, 256, none⟩ = some (.slice A1 1 k1) := y1
          have hcv := conv_one wr 10 10 rfl
          have ix : (((⟨#[10]⟩ : ByteArray)[0]'(by decide)).toNat) = 10 := rfl
          have hb2 : Below wr.heap.size wr ((wr.alloc (.cells #[.int .u8 10] 5)).alloc (.cells #[.string ⟨#[10]⟩] 9)) := (by (repeat (first | with_reducible exact Below.refl _ _ | with_reducible refine bel_set ?_ ?_ | with_reducible refine bel_alloc ?_ ?_ | with_reducible refine Below.drew ?_ | with_reducible refine bel_drewN _ ?_ | with_reducible refine bel_call ?_ (by assumption) ?_)); all_goals (first | (simp; done) | omega | (simp; omega)))
          have HV := Lib.hid hv
          have HV2 := Lib.hid ((hv.alloc (.cells #[.int .u8 10] 5)).alloc (.cells #[.string ⟨#[10]⟩] 9))
          have HX : Hid (∀ i u, (kTx.cells ⟨#[10]⟩)[i]? = some u → ((wr.alloc (.cells #[.int .u8 10] 5)).alloc (.cells #[.string ⟨#[10]⟩] 9)).cell? ⟨wr.heap.size + 1, i, none⟩ = some u) := Lib.hid (fun i u hu => by
            match i, hu with
            | 0, hu => cases hu; go_simp)
          have HS : Hid (w.heap.size ≤ ((wr.alloc (.cells #[.int .u8 10] 5)).alloc (.cells #[.string ⟨#[10]⟩] 9)).heap.size) := Lib.hid (by simp; omega)
          have HL : Hid (∀ v' w3, OwnsG kTx w3 w.heap.size v' (([13] : List UInt8).map (fun c => (⟨#[c]⟩ : ByteArray)) ++ [⟨#[10]⟩]) → Off (Value.slice A1 1 k1).ownBlock.toList ((wr.alloc (.cells #[.int .u8 10] 5)).alloc (.cells #[.string ⟨#[10]⟩] 9)) w3 →
              w3.cell? ⟨w.heap.size + 1, 256, none⟩ = some (.slice A1 1 k1) ∧ w3.frozen? ⟨w.heap.size + 1, 256, none⟩ = false ∧ RepAt (w3.setCell ⟨w.heap.size + 1, 256, none⟩ v') w.heap.size (w.heap.size + 1) [13] [13, 10]) := Lib.hid (fun v' w3 ho hoff => hRA.list y1 hv hb2 hoff ho)
          have HB2 : Hid (∀ w3, Off (Value.slice A1 1 k1).ownBlock.toList ((wr.alloc (.cells #[.int .u8 10] 5)).alloc (.cells #[.string ⟨#[10]⟩] 9)) w3 → Below w.heap.size w w3) := Lib.hid (fun w3 hoff => (hbr.trans (hb2.mono hbz)).trans (hoff.toBelow (fun g hg => (hv.block g hg).1) (by simp; omega)))
          clear hv hk1 hRA hT hb2 HR HV
          go_wp2_with (at_builtin; refine wpList_append_gB (k := kTx) rfl _ _ rfl ⟨#[10]⟩ rfl rfl HV2.out HX.out HS.out (by decide) (by decide) ?_; intro v' w3 ho hoff _; obtain ⟨p1, p2, p3⟩ := HL.out v' w3 ho hoff; have hb3 := HB2.out w3 hoff; obtain ⟨A3, k3, rfl, _⟩ := ho.form; have HR3 := Lib.hid p3; have HB3 := Lib.hid hb3; have p5 : (w3.setCell ⟨w.heap.size + 1, 256, none⟩ (.slice A3 2 k3)).cell? ⟨w.heap.size + 1, 10, none⟩ = some (.slice none 0 0) := p3.no 10 (by decide); obtain ⟨g5, cp, W5, hcv2, hcp, hrow, hb5⟩ := conv_row (w3.setCell ⟨w.heap.size + 1, 256, none⟩ (.slice A3 2 k3)) ⟨#[92, 110]⟩ 2 rfl; have p6 := carry hb5 p5; have p7 := (p3.ty.below hb5).frozen 10; have HROW := Lib.hid (And.intro hrow hcp); have HB5 := Lib.hid hb5; clear ho hoff hrow hcp p3 hb3 p5)
          refine ⟨⟨2, by decide, rfl, Lib.hid (HR3.out.row (c := 10) HB5.out (by rw [show escB 10 = [92, 110] from by decide]; exact HROW.out.1) (by decide) HROW.out.2), ?_⟩, by decide⟩
          exact bel_set (bel_call (bel_set HB3.out (Nat.le_succ _)) HB5.out (by have := HB3.out.size; simp; omega)) (Nat.le_succ _)
        · rw [show idxQ 2 = 0 from rfl]
          have hqe := nil_eql wr
          have hRA : RepAt wr w.heap.size (w.heap.size + 1) [13, 10] [13, 10] := HR.out
          have d0 := carry hbr c0
          have d1 := carry hbr c1
          have y0 : wr.cell? ⟨w.heap.size + 1, 92, none⟩ = some (.slice none 0 0) := hRA.no 92 (by decide)
          obtain ⟨v, y1, hv⟩ := hRA.rep
          have hT := hRA.ty
          have fo := hT.frozen 92
          have hlt := hT.lt
          obtain ⟨A1, k1, rfl, hk1, _⟩ := hv.form
          have y1 : wr.cell? ⟨w.heap.size + 1, 256, none⟩ = some (.slice A1 2 k1) := y1
          have hcv := conv_one wr 92 92 rfl
          have ix : (((⟨#[92]⟩ : ByteArray)[0]'(by decide)).toNat) = 92 := rfl
          have hb2 : Below wr.heap.size wr ((wr.alloc (.cells #[.int .u8 92] 5)).alloc (.cells #[.string ⟨#[92]⟩] 9)) := (by (repeat (first | with_reducible exact Below.refl _ _ | with_reducible refine bel_set ?_ ?_ | with_reducible refine bel_alloc ?_ ?_ | with_reducible refine Below.drew ?_ | with_reducible refine bel_drewN _ ?_ | with_reducible refine bel_call ?_ (by assumption) ?_)); all_goals (first | (simp; done) | omega | (simp; omega)))
          have HV := Lib.hid hv
          have HV2 := Lib.hid ((hv.alloc (.cells #[.int .u8 92] 5)).alloc (.cells #[.string ⟨#[92]⟩] 9))
          have HX : Hid (∀ i u, (kTx.cells ⟨#[92]⟩)[i]? = some u → ((wr.alloc (.cells #[.int .u8 92] 5)).alloc (.cells #[.string ⟨#[92]⟩] 9)).cell? ⟨wr.heap.size + 1, i, none⟩ = some u) := Lib.hid (fun i u hu => by
            match i, hu with
            | 0, hu => cases hu; go_simp)
          have HS : Hid (w.heap.size ≤ ((wr.alloc (.cells #[.int .u8 92] 5)).alloc (.cells #[.string ⟨#[92]⟩] 9)).heap.size) := Lib.hid (by simp; omega)
          have HL : Hid (∀ v' w3, OwnsG kTx w3 w.heap.size v' (([13, 10] : List UInt8).map (fun c => (⟨#[c]⟩ : ByteArray)) ++ [⟨#[92]⟩]) → Off (Value.slice A1 2 k1).ownBlock.toList ((wr.alloc (.cells #[.int .u8 92] 5)).alloc (.cells #[.string ⟨#[92]⟩] 9)) w3 →
              w3.cell? ⟨w.heap.size + 1, 256, none⟩ = some (.slice A1 2 k1) ∧ w3.frozen? ⟨w.heap.size + 1, 256, none⟩ = false ∧ RepAt (w3.setCell ⟨w.heap.size + 1, 256, none⟩ v') w.heap.size (w.heap.size + 1) [13, 10] [13, 10, 92]) := Lib.hid (fun v' w3 ho hoff => hRA.list y1 hv hb2 hoff ho)
          have HB2 : Hid (∀ w3, Off (Value.slice A1 2 k1).ownBlock.toList ((wr.alloc (.cells #[.int .u8 92] 5)).alloc (.cells #[.string ⟨#[92]⟩] 9)) w3 → Below w.heap.size w w3) := Lib.hid (fun w3 hoff => (hbr.trans (hb2.mono hbz)).trans (hoff.toBelow (fun g hg => (hv.block g hg).1) (by simp; omega)))
          clear hv hk1 hRA hT hb2 HR HV
          go_wp2_with (at_builtin; refine wpList_append_gB (k := kTx) rfl _ _ rfl ⟨#[92]⟩ rfl rfl HV2.out HX.out HS.out (by decide) (by decide) ?_; intro v' w3 ho hoff _; obtain ⟨p1, p2, p3⟩ := HL.out v' w3 ho hoff; have hb3 := HB2.out w3 hoff; obtain ⟨A3, k3, rfl, _⟩ := ho.form; have HR3 := Lib.hid p3; have HB3 := Lib.hid hb3; have p5 : (w3.setCell ⟨w.heap.size + 1, 256, none⟩ (.slice A3 3 k3)).cell? ⟨w.heap.size + 1, 92, none⟩ = some (.slice none 0 0) := p3.no 92 (by decide); obtain ⟨g5, cp, W5, hcv2, hcp, hrow, hb5⟩ := conv_row (w3.setCell ⟨w.heap.size + 1, 256, none⟩ (.slice A3 3 k3)) ⟨#[92, 92]⟩ 2 rfl; have p6 := carry hb5 p5; have p7 := (p3.ty.below hb5).frozen 92; have HROW := Lib.hid (And.intro hrow hcp); have HB5 := Lib.hid hb5; clear ho hoff hrow hcp p3 hb3 p5)
          refine ⟨⟨3, by decide, rfl, Lib.hid (HR3.out.row (c := 92) HB5.out (by rw [show escB 92 = [92, 92] from by decide]; exact HROW.out.1) (by decide) HROW.out.2), ?_⟩, by decide⟩
          exact bel_set (bel_call (bel_set HB3.out (Nat.le_succ _)) HB5.out (by have := HB3.out.size; simp; omega)) (Nat.le_succ _)
        · rw [show idxQ 3 = -2 from rfl]
          clear c0 c1 c2 c3 c4 c5 h4
          go_wp2_with fail
          go_ret
          exact ⟨_, rfl, HR.out, hbr⟩
set_option maxHeartbeats 4000000 in
set_option maxRecDepth 100000 in
/-- buildOnce, entered with the lock held -/
theorem rep_once (rb B : Nat) (w : World) (hT : TyAt w rb 122) (h3 : w.cell? ⟨rb, 3, none⟩ = some .nilIface) (h4 : ∃ v, w.cell? ⟨rb, 4, none⟩ = some v ∧ OwnsG kTx w B v six) :
    Calls Tryz.prog 59 #[.pointer (some ⟨rb, 0, none⟩)] w fun e w' => e = .returned (.tuple #[]) ∧ TyAt w' rb 122 ∧ (∀ j v, j < 3 → w.cell? ⟨rb, j, none⟩ = some v → w'.cell? ⟨rb, j, none⟩ = some v) ∧ (∃ sb, w'.cell? ⟨rb, 3, none⟩ = some (.iface 191 (.pointer (some ⟨sb, 0, none⟩))) ∧ RepAt w' w.heap.size sb [13, 10, 92] [13, 10, 92]) ∧ Off [rb] w w' := by
  obtain ⟨v, h4, hv⟩ := h4
  obtain ⟨A, c, rfl, _, _, _, h5⟩ := hv.form
  rcases h5 with h5 | ⟨g, rfl, _, _, h5⟩
  · exact absurd h5 (by decide)
  have hcall := rep_build rb g c w h4 (h5 0 _ 0 _ rfl rfl) (h5 1 _ 0 _ rfl rfl) (h5 2 _ 0 _ rfl rfl) (h5 3 _ 0 _ rfl rfl) (h5 4 _ 0 _ rfl rfl) (h5 5 _ 0 _ rfl rfl)
  have HC := Lib.hid hcall
  have hl := lt_of_cell h4
  have HT := Lib.hid hT
  have H3 := Lib.hid h3
  have H4 := Lib.hid h4
  clear hcall h5 hv hT h3 h4
  go_enter Tryz.func59, Tryz.ntmps59
  go_wp2_with fail
  refine HC.out.mono ?_
  rintro e w1 ⟨sb, rfl, hR, hb⟩
  have k3 := carry hb H3.out
  have k4 := carry hb H4.out
  have hT1 := HT.out.below hb
  have f3 := hT1.frozen 3
  have f4 := hT1.frozen 4
  have HB := Lib.hid hb
  have HT1 := Lib.hid hT1
  have HR := Lib.hid hR
  clear hb hT1 hR
  go_wp2_with fail
  go_end0
  have hT1 := HT1.out
  have hT3 : TyAt (w1.setCell ⟨rb, 3, none⟩ (.iface 191 (.pointer (some ⟨sb, 0, none⟩)))) rb 122 := hT1.set _ _ _
  have o3 : Off [rb] w1 (w1.setCell ⟨rb, 3, none⟩ (.iface 191 (.pointer (some ⟨sb, 0, none⟩)))) := (Off.refl [rb] w1).setCell _ _ (by simp)
  have o4 := o3.setCell ⟨rb, 4, none⟩ (.slice none 0 0) (by simp)
  refine ⟨rfl, hT3.set _ _ _, fun j v hj hv => ?_, ⟨sb, cell_other (cell_same k3) (by simp), HR.out.offR o4 (fun k hk => ?_)⟩, ((Off.refl [rb] w).below HB.out (Nat.le_refl _)).trans o4⟩
  · exact cell_other (cell_other (carry HB.out hv) (by first | (simp; done) | (simp; omega))) (by first | (simp; done) | (simp; omega))
  · simp only [List.mem_singleton] at hk
    subst hk
    exact ⟨_, hT1, by decide, by decide⟩
set_option maxHeartbeats 2000000 in
set_option maxRecDepth 100000 in
/-- NewReplacer at the six texts -/
theorem new_replacer (A : Option Addr) (c : Nat) (w : World) (hL : LiesG kTx w A six) (hA : A = none → c = 0) :
    Calls Tryz.prog 35 #[.slice A 6 c] w fun e w' => ∃ rb, e = .returned (.pointer (some ⟨rb, 0, none⟩)) ∧ EscNew w' w.heap.size rb ∧ w.heap.size ≤ rb ∧ Below w.heap.size w w' := by
  have HL := Lib.hid hL
  have HA := Lib.hid hA
  clear hL hA
  go_enter Tryz.func35, Tryz.ntmps35
  go_wp2_with (at_builtin; refine wpList_append_manyG (k := kTx) (ts := []) (ys := six) rfl _ _ rfl rfl rfl (OwnsG.nil w w.heap.size) HL.out HA.out (Nat.le_refl _) (by decide) (by decide) ?_; intro v' w1 ho hoff; replace hoff : Off [] w w1 := hoff; have hb1 : Below w.heap.size w w1 := hoff.toBelow (fun k hk => absurd hk List.not_mem_nil) (Nat.le_refl _); obtain ⟨A1, c1, rfl, _⟩ := ho.form; have HO := Lib.hid ho; have HB := Lib.hid hb1; clear ho hoff hb1)
  go_ret
  have hb := heap_alloc_new w1 (.cells #[.int .u32 0, .int .i32 0, .int .u32 0, .nilIface, .slice A1 six.length c1] 122)
  have hO : OwnsG kTx w1 w.heap.size (.slice A1 six.length c1) six := HO.out
  refine ⟨w1.heap.size, rfl, ⟨⟨_, hb⟩, by rw [cell_of_row _ _ _ _ _ _ hb]; rfl, by rw [cell_of_row _ _ _ _ _ _ hb]; rfl, by rw [cell_of_row _ _ _ _ _ _ hb]; rfl, .slice A1 six.length c1, by rw [cell_of_row _ _ _ _ _ _ hb]; rfl, hO.alloc _⟩, HB.out.size, bel_alloc HB.out HB.out.size⟩
end Go.Proofs.YtnhlnhmjnnopaaaGreatDoor
