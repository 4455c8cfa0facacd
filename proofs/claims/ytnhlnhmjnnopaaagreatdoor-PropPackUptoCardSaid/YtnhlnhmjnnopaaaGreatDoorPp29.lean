/- RepReplace: texts put together. -/
import Derived.Test.YtnhlnhmjnnopaaaGreatDoorPp28
import Derived.Test.YtnhlnhmjnnopaaaGreatDoorPp2
import Derived.Test.YtnhlnhmjnnopaaaGreatDoorPp23
import Derived.BigQuiet
import Derived.Deep.DeepCutAuto
import Derived.Laws.CopyOwn
import Derived.Laws.MakeOwn
import Derived.Deep.RegionLaw
set_option linter.unusedVariables false
set_option linter.unusedSimpArgs false
/- (*strings.byteStringReplacer).Replace, at the escaper of package prop. -/
namespace Go.Proofs.YtnhlnhmjnnopaaaGreatDoor
open Go.RowKit

/-- a row of bytes of one's own, so far written -/
def BufAt (w : World) (g N : Nat) (out : List UInt8) : Prop := ∃ cur : List Value, w.heap[g]? = some (.cells cur.toArray 5 (0, 0)) ∧ cur.length = N ∧ cur.take out.length = out.map byteV ∧ out.length ≤ N
theorem BufAt.cell {w : World} {g N : Nat} {out : List UInt8} (h : BufAt w g N out) {j : Nat} {c : UInt8} (hj : out[j]? = some c) : w.cell? ⟨g, j, none⟩ = some (byteV c) := by
  obtain ⟨cur, h1, h2, h3, h4⟩ := h
  have hl := (List.getElem?_eq_some_iff.1 hj).1
  rw [cell_of_row _ _ _ _ _ _ h1, List.getElem?_toArray]
  have : (cur.take out.length)[j]? = some (byteV c) := by rw [h3, List.getElem?_map, hj]; rfl
  rw [List.getElem?_take_of_lt hl] at this
  exact this
theorem BufAt.any {w : World} {g N : Nat} {out : List UInt8} (h : BufAt w g N out) {j : Nat} (hj : j < N) : ∃ u, w.cell? ⟨g, j, none⟩ = some u := by
  obtain ⟨cur, h1, h2, _⟩ := h
  rw [cell_of_row _ _ _ _ _ _ h1, List.getElem?_toArray]
  exact ⟨_, List.getElem?_eq_getElem (by omega)⟩
theorem BufAt.frozen {w : World} {g N : Nat} {out : List UInt8} (h : BufAt w g N out) (j : Nat) : w.frozen? ⟨g, j, none⟩ = false := by
  obtain ⟨cur, h1, _⟩ := h
  exact TyAt.frozen ⟨_, h1⟩ j
/-- one byte more -/
theorem BufAt.put {w : World} {g N : Nat} {out : List UInt8} (h : BufAt w g N out) (c : UInt8) (hj : out.length < N) : BufAt (w.setCell ⟨g, out.length, none⟩ (byteV c)) g N (out ++ [c]) := by
  obtain ⟨cur, h1, h2, h3, h4⟩ := h
  refine ⟨cur.set out.length (byteV c), ?_, by rw [List.length_set, h2], ?_, by simp; omega⟩
  · rw [heap_setCell_same _ _ _ _ _ _ h1, List.setIfInBounds_toArray]
  · rw [List.length_append, List.length_singleton, List.take_add_one, List.take_set, h3, List.getElem?_set_self (by omega), List.set_eq_of_length_le (by simp)]
    simp
/-- some bytes more -/
theorem BufAt.splice {w' : World} {g N : Nat} {cur : List Value} {out cs : List UInt8} (h2 : cur.length = N) (h3 : cur.take out.length = out.map byteV) (hl : out.length + cs.length ≤ N) (h : w'.heap[g]? = some (.cells (splice cur out.length (cs.map byteV)).toArray 5 (0, 0))) : BufAt w' g N (out ++ cs) := by
  refine ⟨_, h, by rw [length_splice _ _ _ (by simp; omega), h2], ?_, by simp; omega⟩
  unfold Go.splice
  rw [h3, List.length_append, ← List.append_assoc, List.take_left', List.map_append]
  simp
theorem conv_buf {w : World} {g N : Nat} {out : List UInt8} (h : BufAt w g N out) (hn : out.length = N) : (convert 25 9 (.slice (some ⟨g, 0, none⟩) N N)).run Tryz.prog w = .ok (.string ⟨out.toArray⟩) w := by
  subst hn
  exact run_convert_bytes_back (P := Tryz.prog) w 25 9 5 ⟨g, 0, none⟩ out.length out Tryz.underlying25 Tryz.underlying5 Tryz.underlying9 (fun j hj => by
    rw [Go.WideShapes.add_plain, Nat.zero_add]
    exact h.cell (List.getElem?_eq_getElem hj))
theorem make_buf (w : World) (N : Nat) (hN : N ≤ 100000000) : ∃ W, (Instr.makeSlice 25 (.int .i64 (N : Int)) (.int .i64 (N : Int))).run Tryz.prog w = .ok (.slice (some ⟨w.heap.size, 0, none⟩) N N) W ∧ BufAt W w.heap.size N [] ∧ Below w.heap.size w W := by
  obtain ⟨i0, hi, hz0, hz1, hz2⟩ := info_parts infoByte
  obtain ⟨W, h1, h2, h3⟩ := run_make_full (P := Tryz.prog) w w.heap.size 25 5 i0 (.int .u8 0) 1 Tryz.underlying25 hi hz0 hz1 .i64 .i64 N (by rw [hz2]; omega) (by unfold maxLen; omega) (Nat.le_refl _)
  refine ⟨W, h1, ?_, (grown_off h3 (l := []) (fun k hk => by cases hk)).toBelow (fun k hk => absurd hk List.not_mem_nil) (Nat.le_refl _)⟩
  rcases h2.2 with ⟨h, _⟩ | ⟨g, cap, cur, he, _, hg, hnc, _, hcs, _⟩
  · cases h
  · injection he with e1 e2 e3
    injection e1 with e1
    injection e1 with e1
    subst e1 e3
    refine ⟨cur.toList, by rw [Array.toArray_toList]; exact hg, by rw [Array.length_toList, hcs, Nat.mul_one], rfl, Nat.zero_le _⟩
theorem nil_neq (w : World) : (binOp .neq 25 (.slice none 0 0) (.slice none 0 0)).run Tryz.prog w = .ok (.bool false) w := by kernel_rfl
theorem some_neq (w : World) (a : Addr) (n c : Nat) : (binOp .neq 25 (.slice (some a) n c) (.slice none 0 0)).run Tryz.prog w = .ok (.bool true) w := run_neq_slice_nil_any w _ 5 (some a) n c 0 0 Tryz.underlying25

theorem wrap_two {z k : Nat} (h1 : z ≤ 40000000) (h2 : k ≤ 10000000) : wrap64 ((z : Int) + wrap64 (k : Int)) = ((z + k : Nat) : Int) := by unfold wrap64; omega
theorem meas_down {j n : Nat} (h : j < n) : n - (intOf (Value.int .i64 ((j : Int) + 1))).toNat < n - (intOf (Value.int .i64 (j : Int))).toNat := by simp only [intOf]; omega
set_option maxHeartbeats 8000000 in
set_option maxRecDepth 100000 in
theorem rep_replace (B sb : Nat) (s : ByteArray) (w : World) (hR : RepAt w B sb [13, 10, 92] [13, 10, 92]) (hs : s.size ≤ 10000000) :
    Calls Tryz.prog 211 #[.pointer (some ⟨sb, 0, none⟩), .string s] w fun e w' => e = .returned (.string ⟨(escP s.data.toList).toArray⟩) ∧ Below w.heap.size w w' := by
  have hsl : s.data.toList.length = s.size := by rw [Array.length_toList]; rfl
  obtain ⟨v, y1, hv⟩ := hR.rep
  obtain ⟨A, k, rfl, hk1, _, _, hx⟩ := hv.form
  have y1 : w.cell? ⟨sb, 256, none⟩ = some (.slice A 3 k) := y1
  rcases hx with hx | ⟨G, rfl, _, _, hx⟩
  · cases hx
  have x0 : w.cell? ⟨G, 0, none⟩ = some (.string ⟨#[13]⟩) := hx 0 _ 0 _ rfl rfl
  have x1 : w.cell? ⟨G, 1, none⟩ = some (.string ⟨#[10]⟩) := hx 1 _ 0 _ rfl rfl
  have x2 : w.cell? ⟨G, 2, none⟩ = some (.string ⟨#[92]⟩) := hx 2 _ 0 _ rfl rfl
  have HX := Lib.hid (And.intro x0 (And.intro x1 x2))
  have HR := Lib.hid hR
  have HSL := Lib.hid hsl
  obtain ⟨N, hN⟩ : ∃ N, N = (escP s.data.toList).length := ⟨_, rfl⟩
  have hN2 : N = s.size + exN s.data.toList := by rw [hN, exN_len, hsl]
  have hNle : N ≤ 100000000 := by
    have := exN_le s.data.toList 3 (Nat.le_refl _)
    rw [exQ_all, hsl] at this
    omega
  have HN := Lib.hid hN
  have HN2 := Lib.hid hN2
  clear hR hv hx hk1 hsl hN hN2 x0 x1 x2
  go_enter Tryz.func211, Tryz.ntmps211
  go_upto_if 26 with fail
  go_cut [5, 6] (fun n y wx => ∃ b : Bool, n = .int .i64 (N : Int) ∧ y = .bool b ∧ Hid (b = decide (exN s.data.toList ≠ 0)) ∧ Below w.heap.size w wx)
  case first =>
    by_cases h24 : 24 ≤ s.size
    · have i24 : (24 : Int) ≤ (s.size : Int) := by omega
      have hd24 : decide ((24 : Int) ≤ (s.size : Int)) = true := decide_eq_true i24
      rw [hd24]
      have hls : s.size = s.data.toList.length := HSL.out.symm
      have HLS := Lib.hid hls
      clear hls
      go_wp2_with fail
      go_loopw [32, 5, 6] (fun i n y wr => ∃ (q : Nat) (b : Bool), q ≤ 3 ∧ i = .int .i64 q ∧ n = .int .i64 ((s.size + exQ s.data.toList q : Nat) : Int) ∧ y = .bool b ∧ Hid (b = decide (exQ s.data.toList q ≠ 0)) ∧ Below w.heap.size w wr) (fun i _ _ _ => 3 - (intOf i).toNat)
      case atStart => exact ⟨0, false, by decide, rfl, rfl, rfl, Lib.hid rfl, by first | exact Below.refl _ _ | exact Below.refl _ _⟩
      case round =>
        obtain ⟨q, b, hq, rfl, rfl, rfl, HB, hbr⟩ := hrel
        obtain rfl | rfl | rfl | rfl : q = 0 ∨ q = 1 ∨ q = 2 ∨ q = 3 := by omega
        · obtain ⟨z, hz⟩ : ∃ z : Nat, z = s.size + exQ s.data.toList 0 := ⟨_, rfl⟩
          rw [← hz]
          obtain ⟨kc, hkc⟩ : ∃ kc : Nat, kc = s.data.toList.count 13 := ⟨_, rfl⟩
          have hle : kc ≤ s.size := by rw [hkc, HLS.out]; exact List.count_le_length
          have hzl : z ≤ 40000000 := by
            have := exN_le s.data.toList 0 (by decide)
            rw [HSL.out] at this
            omega
          have HE : Hid (exQ s.data.toList 1 = exQ s.data.toList 0 + kc) := Lib.hid (by rw [hkc]; exact exQ_succ _ 0 13 rfl)
          have HK : Hid (∀ W, Calls Tryz.prog 96 #[.string s, .string ⟨#[13]⟩] W fun e w' => e = .returned (.int .i64 (kc : Int)) ∧ w' = W) := Lib.hid (fun W => by rw [hkc]; exact Tryz.strings_Count_one s 13 W)
          have HZ := Lib.hid hz
          have yx : wr.cell? ⟨G, 0, none⟩ = some (.string ⟨#[13]⟩) := carry hbr HX.out.1
          obtain ⟨g, cap, t0, hcap, _, _⟩ := HR.out.tab 13 (by decide)
          have t1 : wr.cell? ⟨sb, 13, none⟩ = some (.slice (some ⟨g, 0, none⟩) 2 cap) := carry hbr t0
          have y2 := carry hbr y1
          have ix : (((⟨#[13]⟩ : ByteArray)[0]'(by decide)).toNat) = 13 := rfl
          clear hz hkc t0 hcap
          by_cases h0 : kc = 0
          · have i0 : ((kc : Int) != 0) = false := by simp [h0]
            have H0 := Lib.hid h0
            clear h0
            go_wp2_with fail
            refine (HK.out _).mono ?_
            rintro e w' ⟨rfl, rfl⟩
            go_wp2_with fail
            go_roundw
            case rel =>
              refine ⟨1, b, by decide, rfl, ?_, rfl, Lib.hid ?_, hbr⟩
              · rw [HZ.out, HE.out, H0.out]
                rfl
              · rw [HB.out, HE.out, H0.out]
                rfl
            case measure => simp [intOf]
          · have i0 : ((kc : Int) != 0) = true := by simp [h0]
            have H0 := Lib.hid h0
            clear h0
            go_wp2_with fail
            refine (HK.out _).mono ?_
            rintro e w' ⟨rfl, rfl⟩
            have s1 : IntKind.i64.wrap ((2 : Int) - 1) = 1 := by decide
            have s2 : IntKind.i64.wrap ((kc : Int) * 1) = (kc : Int) := by rw [Int.mul_one]; exact IntWalk.i64_in _ (by omega)
            have s3 : IntKind.i64.wrap ((z : Int) + (kc : Int)) = ((z + kc : Nat) : Int) := by rw [IntWalk.i64_in _ (by omega)]; omega
            have S3 : Hid (wrap64 ((z : Int) + wrap64 (kc : Int)) = ((z + kc : Nat) : Int)) := Lib.hid (wrap_two hzl (Nat.le_trans hle hs))
            clear hle hzl
            go_wp2_with fail
            go_quiet (fail)
            go_wp2_with fail
            go_roundw
            case rel =>
              refine ⟨1, true, by decide, rfl, ?_, rfl, Lib.hid ?_, bel_drewN _ hbr⟩
              · rw [S3.out, HZ.out, HE.out, Nat.add_assoc]
              · rw [HE.out]
                exact (decide_eq_true (by have := H0.out; omega)).symm
            case measure => simp [intOf]
        · obtain ⟨z, hz⟩ : ∃ z : Nat, z = s.size + exQ s.data.toList 1 := ⟨_, rfl⟩
          rw [← hz]
          obtain ⟨kc, hkc⟩ : ∃ kc : Nat, kc = s.data.toList.count 10 := ⟨_, rfl⟩
          have hle : kc ≤ s.size := by rw [hkc, HLS.out]; exact List.count_le_length
          have hzl : z ≤ 40000000 := by
            have := exN_le s.data.toList 1 (by decide)
            rw [HSL.out] at this
            omega
          have HE : Hid (exQ s.data.toList 2 = exQ s.data.toList 1 + kc) := Lib.hid (by rw [hkc]; exact exQ_succ _ 1 10 rfl)
          have HK : Hid (∀ W, Calls Tryz.prog 96 #[.string s, .string ⟨#[10]⟩] W fun e w' => e = .returned (.int .i64 (kc : Int)) ∧ w' = W) := Lib.hid (fun W => by rw [hkc]; exact Tryz.strings_Count_one s 10 W)
          have HZ := Lib.hid hz
          have yx : wr.cell? ⟨G, 1, none⟩ = some (.string ⟨#[10]⟩) := carry hbr HX.out.2.1
          obtain ⟨g, cap, t0, hcap, _, _⟩ := HR.out.tab 10 (by decide)
          have t1 : wr.cell? ⟨sb, 10, none⟩ = some (.slice (some ⟨g, 0, none⟩) 2 cap) := carry hbr t0
          have y2 := carry hbr y1
          have ix : (((⟨#[10]⟩ : ByteArray)[0]'(by decide)).toNat) = 10 := rfl
          clear hz hkc t0 hcap
          by_cases h0 : kc = 0
          · have i0 : ((kc : Int) != 0) = false := by simp [h0]
            have H0 := Lib.hid h0
            clear h0
            go_wp2_with fail
            refine (HK.out _).mono ?_
            rintro e w' ⟨rfl, rfl⟩
            go_wp2_with fail
            go_roundw
            case rel =>
              refine ⟨2, b, by decide, rfl, ?_, rfl, Lib.hid ?_, hbr⟩
              · rw [HZ.out, HE.out, H0.out]
                rfl
              · rw [HB.out, HE.out, H0.out]
                rfl
            case measure => simp [intOf]
          · have i0 : ((kc : Int) != 0) = true := by simp [h0]
            have H0 := Lib.hid h0
            clear h0
            go_wp2_with fail
            refine (HK.out _).mono ?_
            rintro e w' ⟨rfl, rfl⟩
            have s1 : IntKind.i64.wrap ((2 : Int) - 1) = 1 := by decide
            have s2 : IntKind.i64.wrap ((kc : Int) * 1) = (kc : Int) := by rw [Int.mul_one]; exact IntWalk.i64_in _ (by omega)
            have s3 : IntKind.i64.wrap ((z : Int) + (kc : Int)) = ((z + kc : Nat) : Int) := by rw [IntWalk.i64_in _ (by omega)]; omega
            have S3 : Hid (wrap64 ((z : Int) + wrap64 (kc : Int)) = ((z + kc : Nat) : Int)) := Lib.hid (wrap_two hzl (Nat.le_trans hle hs))
            clear hle hzl
            go_wp2_with fail
            go_quiet (fail)
            go_wp2_with fail
            go_roundw
            case rel =>
              refine ⟨2, true, by decide, rfl, ?_, rfl, Lib.hid ?_, bel_drewN _ hbr⟩
              · rw [S3.out, HZ.out, HE.out, Nat.add_assoc]
              · rw [HE.out]
                exact (decide_eq_true (by have := H0.out; omega)).symm
            case measure => simp [intOf]
        · obtain ⟨z, hz⟩ : ∃ z : Nat, z = s.size + exQ s.data.toList 2 := ⟨_, rfl⟩
          rw [← hz]
          obtain ⟨kc, hkc⟩ : ∃ kc : Nat, kc = s.data.toList.count 92 := ⟨_, rfl⟩
          have hle : kc ≤ s.size := by rw [hkc, HLS.out]; exact List.count_le_length
          have hzl : z ≤ 40000000 := by
            have := exN_le s.data.toList 2 (by decide)
            rw [HSL.out] at this
            omega
          have HE : Hid (exQ s.data.toList 3 = exQ s.data.toList 2 + kc) := Lib.hid (by rw [hkc]; exact exQ_succ _ 2 92 rfl)
          have HK : Hid (∀ W, Calls Tryz.prog 96 #[.string s, .string ⟨#[92]⟩] W fun e w' => e = .returned (.int .i64 (kc : Int)) ∧ w' = W) := Lib.hid (fun W => by rw [hkc]; exact Tryz.strings_Count_one s 92 W)
          have HZ := Lib.hid hz
          have yx : wr.cell? ⟨G, 2, none⟩ = some (.string ⟨#[92]⟩) := carry hbr HX.out.2.2
          obtain ⟨g, cap, t0, hcap, _, _⟩ := HR.out.tab 92 (by decide)
          have t1 : wr.cell? ⟨sb, 92, none⟩ = some (.slice (some ⟨g, 0, none⟩) 2 cap) := carry hbr t0
          have y2 := carry hbr y1
          have ix : (((⟨#[92]⟩ : ByteArray)[0]'(by decide)).toNat) = 92 := rfl
          clear hz hkc t0 hcap
          by_cases h0 : kc = 0
          · have i0 : ((kc : Int) != 0) = false := by simp [h0]
            have H0 := Lib.hid h0
            clear h0
            go_wp2_with fail
            refine (HK.out _).mono ?_
            rintro e w' ⟨rfl, rfl⟩
            go_wp2_with fail
            go_roundw
            case rel =>
              refine ⟨3, b, by decide, rfl, ?_, rfl, Lib.hid ?_, hbr⟩
              · rw [HZ.out, HE.out, H0.out]
                rfl
              · rw [HB.out, HE.out, H0.out]
                rfl
            case measure => simp [intOf]
          · have i0 : ((kc : Int) != 0) = true := by simp [h0]
            have H0 := Lib.hid h0
            clear h0
            go_wp2_with fail
            refine (HK.out _).mono ?_
            rintro e w' ⟨rfl, rfl⟩
            have s1 : IntKind.i64.wrap ((2 : Int) - 1) = 1 := by decide
            have s2 : IntKind.i64.wrap ((kc : Int) * 1) = (kc : Int) := by rw [Int.mul_one]; exact IntWalk.i64_in _ (by omega)
            have s3 : IntKind.i64.wrap ((z : Int) + (kc : Int)) = ((z + kc : Nat) : Int) := by rw [IntWalk.i64_in _ (by omega)]; omega
            have S3 : Hid (wrap64 ((z : Int) + wrap64 (kc : Int)) = ((z + kc : Nat) : Int)) := Lib.hid (wrap_two hzl (Nat.le_trans hle hs))
            clear hle hzl
            go_wp2_with fail
            go_quiet (fail)
            go_wp2_with fail
            go_roundw
            case rel =>
              refine ⟨3, true, by decide, rfl, ?_, rfl, Lib.hid ?_, bel_drewN _ hbr⟩
              · rw [S3.out, HZ.out, HE.out, Nat.add_assoc]
              · rw [HE.out]
                exact (decide_eq_true (by have := H0.out; omega)).symm
            case measure => simp [intOf]
        · have hex := exQ_all s.data.toList
          have HEX := Lib.hid hex
          clear hex
          go_wp2_with fail
          go_meet
          exact ⟨b, by rw [HEX.out, ← HN2.out], rfl, Lib.hid (by rw [HB.out, HEX.out]), hbr⟩
    · have i24 : ¬ (24 : Int) ≤ (s.size : Int) := by omega
      have hd24 : decide ((24 : Int) ≤ (s.size : Int)) = false := decide_eq_false i24
      rw [hd24]
      go_wp2_with fail
      go_loopw [10, 5, 6] (fun i n y wr => ∃ (j : Nat) (b : Bool), j ≤ s.size ∧ i = .int .i64 j ∧ n = .int .i64 ((s.size + exN (s.data.toList.take j) : Nat) : Int) ∧ y = .bool b ∧ Hid (b = decide (exN (s.data.toList.take j) ≠ 0)) ∧ Below w.heap.size w wr) (fun i _ _ _ => s.size - (intOf i).toNat)
      case atStart => exact ⟨0, false, Nat.zero_le _, rfl, rfl, rfl, Lib.hid rfl, Below.refl _ _⟩
      case round =>
        obtain ⟨j, b, hj, rfl, rfl, rfl, HB, hbr⟩ := hrel
        obtain ⟨z, hz⟩ : ∃ z : Nat, z = s.size + exN (s.data.toList.take j) := ⟨_, rfl⟩
        rw [← hz]
        by_cases hlt : j < s.size
        · have hg : s.data.toList[j]? = some s[j] := by rw [List.getElem?_eq_getElem (by simpa using hlt)]; rfl
          have hzl : z ≤ 40000000 := by
            have h1 := exN_le (s.data.toList.take j) 3 (Nat.le_refl _)
            rw [exQ_all, List.length_take] at h1
            omega
          have HZ := Lib.hid hz
          by_cases hin : s[j] ∈ olds
          · obtain ⟨g, cap, t0, hcap, hx1, hx2⟩ := HR.out.tab s[j] hin
            have t1 : wr.cell? ⟨sb, s[j].toNat, none⟩ = some (.slice (some ⟨g, 0, none⟩) 2 cap) := carry hbr t0
            have hE := exN_in hg hin
            have HE := Lib.hid hE
            have hq1 := some_neq wr ⟨g, 0, none⟩ 2 cap
            have hub : ((s[j].toNat : Nat) : Int) < 256 := by have := UInt8.toNat_lt s[j]; omega
            clear hz t0 hE hin hg hcap hx1 hx2
            go_wp2_with fail
            exact ⟨⟨j + 1, true, by omega, by congr 1, by rw [HE.out, ← Nat.add_assoc, ← HZ.out]; exact congrArg (Value.int .i64) (Int.natCast_succ z).symm, rfl, Lib.hid (by rw [HE.out]; exact (decide_eq_true (Nat.succ_ne_zero _)).symm), hbr⟩, meas_down hlt⟩
          · have t1 : wr.cell? ⟨sb, s[j].toNat, none⟩ = some (.slice none 0 0) := carry hbr (HR.out.no s[j] hin)
            have hE := exN_out hg hin
            have HE := Lib.hid hE
            have hq1 := nil_neq wr
            have hub : ((s[j].toNat : Nat) : Int) < 256 := by have := UInt8.toNat_lt s[j]; omega
            clear hz hE hin hg
            go_wp2_with fail
            exact ⟨⟨j + 1, b, by omega, by congr 1, by rw [HE.out, ← HZ.out], rfl, Lib.hid (by rw [HE.out]; exact HB.out), hbr⟩, meas_down hlt⟩
        · obtain rfl : j = s.size := by omega
          have ht : s.data.toList.take s.size = s.data.toList := List.take_of_length_le (by rw [HSL.out]; exact Nat.le_refl _)
          have HT := Lib.hid ht
          have HZ := Lib.hid hz
          clear ht hz
          go_wp2_with fail
          go_meet
          exact ⟨b, by rw [HZ.out, HT.out, ← HN2.out], rfl, Lib.hid (by rw [HB.out, HT.out]), hbr⟩
  case rest =>
    obtain ⟨b, rfl, rfl, HB, hbr⟩ := hcut
    by_cases hz : exN s.data.toList = 0
    · obtain rfl : b = false := by rw [HB.out, hz]; rfl
      have HE : Hid ((⟨(escP s.data.toList).toArray⟩ : ByteArray) = s) := Lib.hid (by rw [exN_none hz])
      clear hz
      go_wp2_with fail
      go_ret
      exact ⟨by rw [HE.out]; rfl, hbr⟩
    · obtain rfl : b = true := by rw [HB.out]; exact decide_eq_true hz
      obtain ⟨W, hmk, hbuf, hbW⟩ := make_buf wc N hNle
      have HBUF := Lib.hid hbuf
      have HBW := Lib.hid (hbr.trans (hbW.mono hbr.size))
      obtain ⟨gb, hgb⟩ : ∃ gb, gb = wc.heap.size := ⟨_, rfl⟩
      rw [← hgb] at hmk HBUF
      have hge : w.heap.size ≤ gb := by rw [hgb]; exact hbr.size
      have HGE := Lib.hid hge
      clear hz hbuf hbW hgb hge hbr
      go_wp2_with fail
      go_loopw [13, 14] (fun jv iv wr => ∃ (j m : Nat) (out : List UInt8), j ≤ s.size ∧ iv = .int .i64 j ∧ jv = .int .i64 m ∧ m ≤ N ∧ Hid (out.length = m ∧ out = escP (s.data.toList.take j)) ∧ Hid (BufAt wr gb N out) ∧ Hid (Below w.heap.size w wr)) (fun _ i _ => s.size - (intOf i).toNat)
      case atStart => exact ⟨0, 0, [], Nat.zero_le _, rfl, rfl, Nat.zero_le _, Lib.hid ⟨rfl, rfl⟩, HBUF, HBW⟩
      case round =>
        obtain ⟨j, m, out, hj, rfl, rfl, hm, HO, HBF, HBR⟩ := hrel
        by_cases hlt : j < s.size
        · have hg : s.data.toList[j]? = some s[j] := by rw [List.getElem?_eq_getElem (by simpa using hlt)]; rfl
          have hub : ((s[j].toNat : Nat) : Int) < 256 := by have := UInt8.toNat_lt s[j]; omega
          have hroom := esc_room hg
          rw [← HO.out.2, ← HN.out, HO.out.1] at hroom
          have HE : Hid (escP (s.data.toList.take (j + 1)) = out ++ escB s[j]) := Lib.hid (by rw [esc_take hg, ← HO.out.2])
          by_cases hin : s[j] ∈ olds
          · obtain ⟨g, cap, t0, hcap, hx1, hx2⟩ := HR.out.tab s[j] hin
            have t1 : wr.cell? ⟨sb, s[j].toNat, none⟩ = some (.slice (some ⟨g, 0, none⟩) 2 cap) := carry HBR.out t0
            have hq1 := some_neq wr ⟨g, 0, none⟩ 2 cap
            rw [hx2] at hroom
            have HROW := Lib.hid (And.intro (hx1.off (Off.ofBelowB (l := []) ((HBR.out).mono (Nat.le_refl _))) List.not_mem_nil) hx2)
            obtain ⟨cur, hg1, hl1, ht1, hn1⟩ := HBF.out
            obtain ⟨cs, hcs⟩ : ∃ cs, cs = (escB s[j]).map byteV := ⟨_, rfl⟩
            have hcl : cs.length = 2 := by rw [hcs, List.length_map, hx2]
            have HG := Lib.hid hg1
            have HN1 : Hid (cs.length = Nat.min 2 (N - m)) := Lib.hid (by rw [hcl]; exact (Nat.min_eq_left (by omega)).symm)
            have HPOS : Hid (∃ ad, some (⟨g, 0, none⟩ : Addr) = some ad ∧ ∀ jj v, cs[jj]? = some v → wr.drew.cell? (ad.add jj) = some v) := Lib.hid ⟨_, rfl, fun jj v hv => by
              rw [Go.WideShapes.add_plain, Nat.zero_add, World.cell?_drew]
              rw [hcs, List.getElem?_map] at hv
              cases hq : (escB s[j])[jj]? with
              | none => rw [hq] at hv; cases hv
              | some c =>
                rw [hq] at hv
                injection hv with hv
                rw [← hv]
                exact HROW.out.1.cell hq⟩
            have HFIT : Hid (m + cs.length ≤ cur.length) := Lib.hid (by rw [hcl, hl1]; exact hroom)
            have HONE : Hid (∀ v ∈ cs, v.oneCell' = true) := Lib.hid (fun v hv => by
              rw [hcs] at hv
              obtain ⟨c, _, rfl⟩ := List.mem_map.1 hv
              rfl)
            have HNEW : Hid (∀ W', W'.heap[gb]? = some (.cells (splice cur m cs).toArray 5 (0, 0)) → BufAt W' gb N (out ++ escB s[j])) := Lib.hid (fun W' h => by
              rw [hcs, ← HO.out.1] at h
              exact BufAt.splice hl1 ht1 (by rw [HO.out.1, hx2]; exact hroom) h)
            have HLEN : Hid ((out ++ escB s[j]).length = m + 2) := Lib.hid (by rw [List.length_append, HO.out.1, hx2])
            have HCL := Lib.hid hcl
            have i1 : (0 : Int) ≤ (m : Int) := by omega
            have i2 : (m : Int) ≤ (N : Int) := by omega
            have s1 : IntKind.i64.wrap ((m : Int) + 2) = ((m + 2 : Nat) : Int) := by rw [IntWalk.i64_in _ (by omega)]; omega
            have HM2 : Hid (m + 2 ≤ N) := Lib.hid hroom
            have hne : ¬ N = m := by omega
            clear hin hx1 hx2 t0 hg hcap hg1 hl1 ht1 hn1 hcs hcl hroom
            go_wp2_with fail
            go_region_law (refine step_copy_splice rfl _ _ _ _ rfl 5 Tryz.underlying25 (by kernel_rfl) (some ⟨gb, m, none⟩) (some ⟨g, 0, none⟩) (N - m) (N - m) 2 cap rfl rfl gb m cur 5 HG.out cs HN1.out (fun _ => ⟨rfl, HPOS.out⟩) HFIT.out HONE.out w.heap.size w (Below.drew HBR.out) HGE.out ?_; intro w' hw' hb'; have hgo : goInt cs.length = .int .i64 2 := (by rw [HCL.out]; rfl); rw [hgo]; clear hgo)
            go_wp2_with fail
            exact ⟨⟨j + 1, m + 2, out ++ escB s[j], hlt, by congr 1, by congr 1, HM2.out, Lib.hid ⟨HLEN.out, HE.out.symm⟩, Lib.hid (HNEW.out w' hw'.out), Lib.hid hb'⟩, meas_down hlt⟩
          · have t1 : wr.cell? ⟨sb, s[j].toNat, none⟩ = some (.slice none 0 0) := carry HBR.out (HR.out.no s[j] hin)
            have hq1 := nil_neq wr
            have hout := escB_out hin
            rw [hout] at hroom HE
            have hroom : m + 1 ≤ N := hroom
            obtain ⟨u, hu⟩ := HBF.out.any (j := m) (by omega)
            have hfz := HBF.out.frozen m
            have hbl := lt_of_cell hu
            have i2 : (m : Int) < (N : Int) := by omega
            have HNEW : Hid (BufAt (wr.setCell ⟨gb, m, none⟩ (.int .u8 s[j].toNat)) gb N (out ++ [s[j]])) := Lib.hid (by
              have h := HBF.out.put s[j] (by rw [HO.out.1]; omega)
              rw [HO.out.1] at h
              exact h)
            have HLEN : Hid ((out ++ [s[j]]).length = m + 1) := Lib.hid (by rw [List.length_append, HO.out.1]; rfl)
            have HM2 : Hid (m + 1 ≤ N) := Lib.hid hroom
            have HB2 : Hid (Below w.heap.size w (wr.setCell ⟨gb, m, none⟩ (.int .u8 s[j].toNat))) := Lib.hid (bel_set HBR.out HGE.out)
            clear hin hout hroom hg
            go_wp2_with fail
            exact ⟨⟨j + 1, m + 1, out ++ [s[j]], hlt, by congr 1, by congr 1, HM2.out, Lib.hid ⟨HLEN.out, HE.out.symm⟩, HNEW, HB2⟩, meas_down hlt⟩
        · obtain rfl : j = s.size := by omega
          have ht : s.data.toList.take s.size = s.data.toList := List.take_of_length_le (by rw [HSL.out]; exact Nat.le_refl _)
          obtain ⟨ho1, ho2⟩ := HO.out
          rw [ht] at ho2
          have hmN : out.length = N := by rw [ho2]; exact HN.out.symm
          have hcv := conv_buf HBF.out hmN
          have HO2 := Lib.hid ho2
          clear ht ho1 ho2 hmN
          go_wp2_with fail
          go_ret
          exact ⟨by rw [← HO2.out]; rfl, HBR.out⟩
end Go.Proofs.YtnhlnhmjnnopaaaGreatDoor
