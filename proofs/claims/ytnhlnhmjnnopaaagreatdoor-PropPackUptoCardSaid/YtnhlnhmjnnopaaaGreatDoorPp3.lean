/- PackNumber, PackRead, PackText, PackTable, PackSum, PackTableF, PackSumF, SplitAfter: texts put together. -/
import Derived.Test.YtnhlnhmjnnopaaaGreatDoorPp2
import Derived.Deep.RegionLaw
import Derived.BigRegion
import Derived.BigQuiet
import Derived.Deep.WholeRow
import Derived.Test.YtnhlnhmjnnopaaaGreatDoorPp1
import Derived.Test.YtnhlnhmjnnopaaaGreatDoorShelf
import Derived.Lib.SplitLaws
set_option linter.unusedVariables false
set_option linter.unusedSimpArgs false
/- pack's writer: number. -/
namespace Go.Proofs.YtnhlnhmjnnopaaaGreatDoor
open Go.RowKit

/-- a number's bytes -/
def wordB (n size : Nat) : List UInt8 := (List.range size).map fun i => UInt8.ofNat (n >>> (8 * (size - 1 - i)))
theorem wordB_len (n size : Nat) : (wordB n size).length = size := by unfold wordB; simp
theorem wordB_at (n size j : Nat) (h : j < size) : (wordB n size).take (j + 1) = (wordB n size).take j ++ [UInt8.ofNat (n >>> (8 * (size - 1 - j)))] := by
  rw [List.take_succ_eq_append_getElem (by rw [wordB_len]; exact h)]
  congr 1
  unfold wordB
  simp
theorem word_val (n k : Nat) (hn : n < 4294967296) : IntKind.u8.wrap ((n : Int) / 2 ^ min k 32) = ((UInt8.ofNat (n >>> k)).toNat : Int) := by
  have h1 : (n : Int) / 2 ^ min k 32 = ((n / 2 ^ min k 32 : Nat) : Int) := by norm_cast
  rw [h1, show ∀ m : Int, IntKind.u8.wrap m = m % 256 from fun m => by simp [IntKind.wrap, IntKind.bits, IntKind.signed], UInt8.toNat_ofNat', Nat.shiftRight_eq_div_pow]
  by_cases h : k ≤ 32
  · rw [Nat.min_eq_left h]
    omega
  · rw [Nat.min_eq_right (by omega)]
    have h2 : 2 ^ 32 ≤ 2 ^ k := Nat.pow_le_pow_right (by decide) (by omega)
    have e1 : n / 2 ^ 32 = 0 := Nat.div_eq_of_lt (by omega)
    have e2 : n / 2 ^ k = 0 := Nat.div_eq_of_lt (by omega)
    rw [e1, e2]
    rfl
set_option maxHeartbeats 4000000 in
set_option maxRecDepth 100000 in
theorem pack_number {p : Prop} (base wb : Nat) (v : Value) (bs : List UInt8) (n size : Nat) (w : World) (hW : WAt p w base wb v bs) (hb : base ≤ w.heap.size) (hn : n < 4294967296) (hz1 : 1 ≤ size) (hz : size ≤ 8) (hl : bs.length ≤ 1000000000) :
    Calls Tryz.prog 15 #[.pointer (some ⟨wb, 0, none⟩), .int .u32 n, .int .i64 size] w fun e w' => e = .returned (.tuple #[]) ∧ Wrote False w w' base wb v (bs ++ wordB n size) := by
  have e0 : IntKind.i64.wrap ((size : Int) - 1) = (size : Int) - 1 := IntWalk.i64_in _ (by omega)
  have e1 : IntKind.i64.wrap (8 * ((size : Int) - 1)) = 8 * (size : Int) - 8 := by rw [IntWalk.i64_in _ (by omega)]; omega
  have HW := Lib.hid hW
  clear hW
  go_enter Tryz.func15, Tryz.ntmps15
  go_wp2_with fail
  go_loopw [6] (fun i wr => ∃ j : Nat, j ≤ size ∧ i = .int .i64 (8 * (size : Int) - 8 - 8 * (j : Int)) ∧ Hid (Wrote (j = 0) w wr base wb v (bs ++ (wordB n size).take j))) (fun i _ => (intOf i + 8).toNat)
  case atStart => exact ⟨0, Nat.zero_le _, by congr 1; omega, Lib.hid (by rw [List.take_zero, List.append_nil]; exact Wrote.refl (HW.out.mono fun _ => rfl))⟩
  case round =>
    obtain ⟨j, hj, rfl, HX⟩ := hrel
    by_cases hlt : j < size
    · obtain ⟨v1, hW1, hF1⟩ := HX.out.at_
      have hwl := wordB_len n size
      obtain ⟨cs, hcs⟩ : ∃ cs, cs = bs ++ (wordB n size).take j := ⟨_, rfl⟩
      have hcl : cs.length = bs.length + j := by rw [hcs, List.length_append, List.length_take, hwl]; omega
      obtain ⟨cB, hcB⟩ : ∃ cB, cB = UInt8.ofNat (n >>> (8 * (size - 1 - j))) := ⟨_, rfl⟩
      have hval : IntKind.u8.wrap ((n : Int) / 2 ^ min (8 * (size : Int) - 8 - 8 * (j : Int)).toNat 32) = (cB.toNat : Int) := by
        rw [show (8 * (size : Int) - 8 - 8 * (j : Int)).toNat = 8 * (size - 1 - j) by omega, hcB]
        exact word_val _ _ hn
      have hnext : bs ++ (wordB n size).take (j + 1) = cs ++ [cB] := by rw [wordB_at _ _ _ hlt, hcs, hcB, List.append_assoc]
      rw [← hcs] at hW1
      obtain ⟨A1, c1, rfl, _⟩ := hW1.own.form
      have p0 := hW1.c0
      have p1 := hW1.ty.frozen 0
      have plt := lt_of_cell p0
      have i0 : (0 : Int) ≤ 8 * (size : Int) - 8 - 8 * (j : Int) := by omega
      have e2 : IntKind.i64.wrap (8 * (size : Int) - 8 - 8 * (j : Int) - 8) = 8 * (size : Int) - 8 - 8 * ((j + 1 : Nat) : Int) := by rw [IntWalk.i64_in _ (by omega)]; omega
      have hbL : Below wr.heap.size wr (wr.alloc (.cells #[.int .u8 cB.toNat] 5)).drew := ((Below.refl _ _).alloc (Nat.le_refl _) _).drew
      have HW2 := Lib.hid (hW1.below hbL)
      have HXX := Lib.hid HX.out.off
      have HF := Lib.hid hF1
      have HBL := Lib.hid hbL
      have X0 : Hid (∀ i u, (kByte.cells cB)[i]? = some u → (wr.alloc (.cells #[.int .u8 cB.toNat] 5)).drew.cell? ⟨wr.heap.size, i, none⟩ = some u) := Lib.hid (fun i u hu => by
        match i, u, hu with
        | 0, _, hu => injection hu with hu; subst hu; go_simp; rfl)
      have HB2 : Hid (base ≤ (wr.alloc (.cells #[.int .u8 cB.toNat] 5)).drew.heap.size) := Lib.hid (by have := HX.out.off.size; simp; omega)
      have HL1 : Hid ((cs.length + 1) * 1 ≤ 140737488355328) := Lib.hid (by omega)
      have HL2 : Hid (cs.length + 1 ≤ 9223372036854775807) := Lib.hid (by omega)
      have HNX := Lib.hid hnext
      clear hW1 hF1 hcs hcl hcB hnext hbL hwl HX
      go_wp2_with fail
      go_region_law (apply step_append_byte (s := .tmp 17) (x := .tmp 22) (t := cB) (hown := HW2.out.own) (hc := X0.out) (hb := HB2.out) (hn := HL1.out) (hn2 := HL2.out); (any_goals rfl); intro v' w3 ho hoff hfr; have HST := Lib.hid (HW2.out.store ho hoff hfr); have HFR := Lib.hid hfr; have P3 := hoff.cell HW2.out.c0 HW2.out.not; have P4 := (hoff.frozen (lt_of_cell HW2.out.c0) HW2.out.not).trans (HW2.out.ty.frozen 0); obtain ⟨A2, c2, rfl, _⟩ := ho.form; clear ho hoff hfr)
      all_goals
        rw [List.length_append, List.length_singleton] at HST
        have HW3 := Lib.hid (Wrote.trans (HXX.out.below HBL.out HXX.out.size) HF.out HST.out)
        rw [← HNX.out] at HW3
        clear HST HXX HF HBL HW2 X0 HB2 HL1 HL2 HNX HFR P3 P4 p0 p1
        go_wp2_with fail
        refine ⟨⟨j + 1, hlt, ?_, Lib.hid (HW3.out.mono (fun h => h.elim))⟩, ?_⟩
        · congr 1
        · simp only [intOf]; omega
    · obtain rfl : j = size := by omega
      have HX2 := HX
      rw [List.take_of_length_le (by rw [wordB_len]; omega)] at HX2
      go_wp2_with fail
      go_end0
      exact ⟨rfl, HX2.out.mono (fun h => by omega)⟩
end Go.Proofs.YtnhlnhmjnnopaaaGreatDoor

/- A reader of bytes: its pieces. -/
namespace Go.Proofs.YtnhlnhmjnnopaaaGreatDoor
open Go.RowKit

/-- a reader at a place of a row -/
structure RdrAt (w : World) (r g n c at_ : Nat) : Prop where
  b0 : w.cell? ⟨r, 0, none⟩ = some (.slice (some ⟨g, 0, none⟩) n c)
  b1 : w.cell? ⟨r, 1, none⟩ = some (.int .i64 at_)
  ty : TyAt w r 76
theorem RdrAt.below {w w' : World} {r g n c k : Nat} (h : RdrAt w r g n c k) (hb : Below w.heap.size w w') : RdrAt w' r g n c k := ⟨carry hb h.b0, carry hb h.b1, h.ty.below hb⟩
theorem RdrAt.off {w w' : World} {r g n c k : Nat} {l : List Nat} (h : RdrAt w r g n c k) (hf : Off l w w') (hr : r ∉ l) : RdrAt w' r g n c k := ⟨hf.cell h.b0 hr, hf.cell h.b1 hr, h.ty.off hf hr⟩
theorem RdrAt.move {w : World} {r g n c k : Nat} (h : RdrAt w r g n c k) (m : Nat) : RdrAt (w.setCell ⟨r, 1, none⟩ (.int .i64 m)) r g n c m := ⟨cell_other h.b0 (by simp), cell_same h.b1, h.ty.set _ _ _⟩
set_option maxHeartbeats 2000000 in
theorem piece_at (r g n c k m : Nat) (w : World) (h : RdrAt w r g n c k) (hk : k + m ≤ n) (hkc : k < c) (hn : n ≤ c) (hc : c ≤ 9223372036854775807) :
    Calls Tryz.prog 31 #[.pointer (some ⟨r, 0, none⟩), .int .i64 m] w fun e w' => e = .returned (.slice (some ⟨g, k, none⟩) m (c - k)) ∧ RdrAt w' r g n c (k + m) ∧ Off [r] w w' := by
  have b0 := h.b0
  have b1 := h.b1
  have bf := h.ty.frozen 1
  have bl := lt_of_cell b0
  have e1 : IntKind.i64.wrap ((n : Int) - (k : Int)) = (n : Int) - (k : Int) := IntWalk.i64_in _ (by omega)
  have e2 : IntKind.i64.wrap ((k : Int) + (m : Int)) = ((k + m : Nat) : Int) := by rw [IntWalk.i64_in _ (by omega)]; omega
  have e3 : IntKind.i64.wrap (((k + m : Nat) : Int) - (m : Int)) = (k : Int) := by rw [IntWalk.i64_in _ (by omega)]; omega
  have i1 : ¬ ((n : Int) - (k : Int) < (m : Int)) := by omega
  have i2 : (0 : Int) ≤ (k : Int) := by omega
  have i3 : (k : Int) ≤ ((k + m : Nat) : Int) := by omega
  have i4 : ((k + m : Nat) : Int) ≤ (c : Int) := by omega
  have H := Lib.hid h
  clear h
  go_enter Tryz.func31, Tryz.ntmps31
  go_wp2_with fail
  go_quiet (fail)
  go_wp2_with fail
  obtain ⟨W, hW⟩ : ∃ W, W = (w.drewN nq).setCell ⟨r, 1, none⟩ (.int .i64 ((k : Int) + (m : Int))) := ⟨_, rfl⟩
  have hcast : ((k : Int) + (m : Int)) = ((k + m : Nat) : Int) := by omega
  have R1 : RdrAt W r g n c (k + m) := by rw [hW, hcast]; exact RdrAt.move (w := w.drewN nq) ⟨H.out.b0, H.out.b1, H.out.ty⟩ (k + m)
  have O1 : Off [r] w W := by rw [hW]; exact ((Off.refl [r] w).drewN nq).setCell _ _ (by simp)
  rw [← hW]
  have HR := Lib.hid (And.intro R1 O1)
  obtain ⟨q0, q1, _⟩ := R1
  rw [← hcast] at q1
  have ql := lt_of_cell q0
  have e4 : IntKind.i64.wrap ((k : Int) + (m : Int) - (m : Int)) = (k : Int) := by rw [IntWalk.i64_in _ (by omega)]; omega
  have i5 : (k : Int) ≤ (k : Int) + (m : Int) := by omega
  have i6 : (k : Int) + (m : Int) ≤ (c : Int) := by omega
  have i7 : ¬ c = k := by omega
  clear hW b0 b1 bf O1 e1 e2 e3 hcast i1 i3 i4
  go_quiet (fail)
  go_wp2_with fail
  go_ret
  refine ⟨?_, ⟨HR.out.1.b0, HR.out.1.b1, HR.out.1.ty⟩, HR.out.2.drewN _⟩
  show Ending.returned (.slice (some ⟨g, k, none⟩) (k + m - k) (c - k)) = _
  rw [Nat.add_sub_cancel_left]
/-- bytes lie at a place -/
def LieB (w : World) (g k : Nat) (l : List UInt8) : Prop := ∀ (j : Nat) b, l[j]? = some b → w.cell? ⟨g, k + j, none⟩ = some (byteV b)
theorem LieB.off {w w' : World} {g k : Nat} {l : List UInt8} {m : List Nat} (h : LieB w g k l) (hf : Off m w w') (hg : g ∉ m) : LieB w' g k l := fun j b hb => hf.cell (h j b hb) hg
theorem readN_lt (l : List UInt8) (h : l.length ≤ 6) : readN l < 281474976710656 := by
  have h1 := read_lt l.length l rfl
  have h2 : 256 ^ l.length ≤ 256 ^ 6 := Nat.pow_le_pow_right (by decide) h
  omega
theorem meas_dn {j n : Nat} (h : j < n) : n - (intOf (Value.int .i64 ((j : Int) + 1))).toNat < n - (intOf (Value.int .i64 (j : Int))).toNat := by simp only [intOf]; omega
set_option maxHeartbeats 2000000 in
theorem number_at (r g n c k : Nat) (l : List UInt8) (w : World) (h : RdrAt w r g n c k) (hL : LieB w g k l) (hgr : g ∉ [r]) (hk : k + l.length ≤ n) (hkc : k < c) (hn : n ≤ c) (hc : c ≤ 9223372036854775807) (hl : l.length ≤ 5) :
    Calls Tryz.prog 33 #[.pointer (some ⟨r, 0, none⟩), .int .i64 l.length] w fun e w' => e = .returned (.int .i64 (readN l)) ∧ RdrAt w' r g n c (k + l.length) ∧ Off [r] w w' := by
  have HP := Lib.hid (piece_at r g n c k l.length w h hk hkc hn hc)
  have HL := Lib.hid hL
  obtain ⟨m, hm⟩ : ∃ m, m = l.length := ⟨_, rfl⟩
  rw [← hm] at hk hl HP ⊢
  have HM := Lib.hid hm
  clear h hL hm
  go_enter Tryz.func33, Tryz.ntmps33
  go_wp2_with fail
  refine HP.out.mono ?_
  rintro e w1 ⟨rfl, hr1, ho1⟩
  have HR := Lib.hid (And.intro hr1 ho1)
  have HL1 := Lib.hid (HL.out.off ho1 hgr)
  clear hr1 ho1 HP HL
  go_wp2_with fail
  go_loop [5, 12] (fun x i => ∃ j : Nat, j ≤ m ∧ i = .int .i64 j ∧ x = .int .i64 (readN (l.take j))) (fun _ i => m - (intOf i).toNat)
  case atStart => exact ⟨0, Nat.zero_le _, rfl, rfl⟩
  case round =>
    obtain ⟨j, hj, rfl, rfl⟩ := hrel
    by_cases hlt : j < m
    · have hlt' : j < l.length := by rw [← HM.out]; exact hlt
      obtain ⟨b, hb⟩ : ∃ b, l[j]? = some b := ⟨_, List.getElem?_eq_getElem hlt'⟩
      have y0 : w1.cell? ⟨g, k + j, none⟩ = some (.int .u8 b.toNat) := HL1.out j b hb
      have hbl := lt_of_cell y0
      obtain ⟨z, hz⟩ : ∃ z, z = readN (l.take j) := ⟨_, rfl⟩
      have hzl : z < 281474976710656 := by rw [hz]; exact readN_lt _ (by rw [List.length_take, ← HM.out]; omega)
      have hbu := UInt8.toNat_lt b
      have hor := or_byte z b.toNat hzl hbu
      have HN : Hid (readN (l.take (j + 1)) = z * 256 + b.toNat) := Lib.hid (by rw [List.take_add_one, hb, hz]; exact read_snoc _ _)
      rw [← hz]
      have i0 : (j : Int) < (m : Int) := by omega
      have i1 : (j : Int) < (c : Int) - (k : Int) := by omega
      have hbi : ((b.toNat : Nat) : Int) ≤ 255 := by omega
      have hzi : (z : Int) < 281474976710656 := by omega
      have HOR := Lib.hid hor
      clear hz hb hor hbu
      go_wp2_with fail
      exact ⟨⟨j + 1, hlt, by congr 1, by rw [HN.out, ← HOR.out, Int.natCast_mul]; rfl⟩, meas_dn hlt⟩
    · obtain rfl : j = m := by omega
      have HT : Hid (l.take j = l) := Lib.hid (List.take_of_length_le (by rw [HM.out]; exact Nat.le_refl _))
      have hsr : Value.int .i64 (readN (l.take j)) = .int .i64 (readN l) := by rw [HT.out]
      have HSR := Lib.hid hsr
      clear hsr
      go_wp2_with fail
      go_ret
      exact ⟨congrArg Ending.returned HSR.out, HR.out⟩
theorem conv_piece {w : World} {g k c : Nat} {t : ByteArray} (h : LieB w g k t.data.toList) : (convert 25 9 (.slice (some ⟨g, k, none⟩) t.size c)).run Tryz.prog w = .ok (.string t) w := by
  have := run_convert_bytes_back (P := Tryz.prog) w 25 9 5 ⟨g, k, none⟩ c t.data.toList Tryz.underlying25 Tryz.underlying5 Tryz.underlying9 (fun j hj => by
    rw [Go.WideShapes.add_plain]
    exact h j _ (List.getElem?_eq_getElem hj))
  rw [show t.data.toList.length = t.size by rw [Array.length_toList]; rfl] at this
  exact this
theorem LieB.left {w : World} {g k : Nat} {a b : List UInt8} (h : LieB w g k (a ++ b)) : LieB w g k a := fun j c hc => h j c (by rw [List.getElem?_append_left (List.getElem?_eq_some_iff.1 hc).1]; exact hc)
theorem LieB.right {w : World} {g k : Nat} {a b : List UInt8} (h : LieB w g k (a ++ b)) : LieB w g (k + a.length) b := fun j c hc => by
  rw [Nat.add_assoc]
  exact h (a.length + j) c (by rw [List.getElem?_append_right (Nat.le_add_right _ _), Nat.add_sub_cancel_left]; exact hc)
set_option maxHeartbeats 2000000 in
theorem text_at (r g n c k z : Nat) (t : ByteArray) (w : World) (h : RdrAt w r g n c k) (hL : LieB w g k (wordB t.size z ++ t.data.toList)) (hgr : g ∉ [r]) (hk : k + z + t.size ≤ n) (hkc : k + z + t.size < c) (hn : n ≤ c) (hc : c ≤ 9223372036854775807) (hz : z ≤ 5) (ht : t.size < 256 ^ z) :
    Calls Tryz.prog 32 #[.pointer (some ⟨r, 0, none⟩), .int .i64 z] w fun e w' => e = .returned (.string t) ∧ RdrAt w' r g n c (k + z + t.size) ∧ Off [r] w w' := by
  have hw := wordB_len t.size z
  have h1 := hL.left
  have h2 := hL.right
  rw [hw] at h2
  have K1 := number_at r g n c k (wordB t.size z) w h h1 hgr (by rw [hw]; omega) (by omega) hn hc (by rw [hw]; exact hz)
  rw [hw, show readN (wordB t.size z) = t.size from read_word z t.size ht] at K1
  have HK1 := Lib.hid K1
  have H2 := Lib.hid h2
  have HKC := Lib.hid (And.intro hk (And.intro hkc (And.intro hn hc)))
  clear h hL hw h1 h2 K1 hk hkc hn hc ht hz
  go_enter Tryz.func32, Tryz.ntmps32
  go_wp2_with fail
  refine HK1.out.mono ?_
  rintro e w1 ⟨rfl, hr1, ho1⟩
  have HL1 := Lib.hid (H2.out.off ho1 hgr)
  have HO1 := Lib.hid ho1
  have HP := Lib.hid (piece_at r g n c (k + z) t.size w1 hr1 HKC.out.1 (by have := HKC.out.2.1; omega) HKC.out.2.2.1 HKC.out.2.2.2)
  clear hr1 ho1 HK1 H2
  go_wp2_with fail
  refine HP.out.mono ?_
  rintro e w2 ⟨rfl, hr2, ho2⟩
  have hcv := conv_piece (c := c - (k + z)) (HL1.out.off ho2 hgr)
  have HR := Lib.hid (And.intro hr2 (HO1.out.trans ho2))
  clear hr2 ho2 HP HL1 HO1
  go_wp2_with fail
  go_ret
  exact ⟨rfl, HR.out⟩
end Go.Proofs.YtnhlnhmjnnopaaaGreatDoor

/- pack's writer: text. -/
namespace Go.Proofs.YtnhlnhmjnnopaaaGreatDoor
open Go.RowKit

set_option maxHeartbeats 4000000 in
set_option maxRecDepth 100000 in
theorem pack_text {p : Prop} (base wb : Nat) (v : Value) (bs : List UInt8) (s : ByteArray) (size : Nat) (w : World) (hW : WAt p w base wb v bs) (hb : base ≤ w.heap.size) (hn : s.size < 4294967296) (hz1 : 1 ≤ size) (hz : size ≤ 8) (hl : bs.length ≤ 1000000000) :
    Calls Tryz.prog 14 #[.pointer (some ⟨wb, 0, none⟩), .string s, .int .i64 size] w fun e w' => e = .returned (.tuple #[]) ∧ Wrote False w w' base wb v (bs ++ wordB s.size size ++ s.data.toList) := by
  have e0 : IntKind.u32.wrap (s.size : Int) = (s.size : Int) := by
    rw [show ∀ m : Int, IntKind.u32.wrap m = m % 4294967296 from fun m => by simp [IntKind.wrap, IntKind.bits, IntKind.signed]]
    omega
  have HN := Lib.hid (fun W (hW : WAt p W base wb v bs) (hb : base ≤ W.heap.size) => pack_number base wb v bs s.size size W hW hb hn hz1 hz hl)
  have HW := Lib.hid hW
  clear hW
  go_enter Tryz.func14, Tryz.ntmps14
  go_wp2_with fail
  refine (HN.out _ HW.out hb).mono ?_
  rintro e w1 ⟨rfl, h1⟩
  obtain ⟨v1, hW1, hF1⟩ := h1.at_
  have hwl := wordB_len s.size size
  obtain ⟨cs, hcs⟩ : ∃ cs, cs = bs ++ wordB s.size size := ⟨_, rfl⟩
  have HL1 : Hid (cs.length + s.size ≤ 140737488355328) := Lib.hid (by rw [hcs, List.length_append, hwl]; omega)
  rw [← hcs] at hW1
  have HCS := Lib.hid hcs
  have HOFF := Lib.hid h1.off
  obtain ⟨A1, c1, rfl, _⟩ := hW1.own.form
  have HF1 := Lib.hid hF1
  have p0 := hW1.c0
  have p1 := hW1.ty.frozen 0
  have HW1 := Lib.hid hW1
  have HB1 : Hid (base ≤ w1.heap.size) := Lib.hid (Nat.le_trans hb h1.off.size)
  clear h1 hF1 hW1 hwl hcs
  go_wp2_with (at_builtin; refine wpList_append_bytes rfl _ _ rfl s rfl rfl HW1.out.own.own HB1.out HL1.out ?_; intro v' w3 ho hoff hfr; have HST := Lib.hid (HW1.out.store ho hoff hfr); have P3 := hoff.cell HW1.out.c0 HW1.out.not; have P4 := (hoff.frozen (lt_of_cell HW1.out.c0) HW1.out.not).trans (HW1.out.ty.frozen 0); obtain ⟨A2, c2, rfl, _⟩ := ho.form; clear ho hoff hfr)
  have hal : (cs ++ s.data.toList).length = cs.length + s.size := by rw [List.length_append, Array.length_toList]; rfl
  all_goals
    go_end0
    refine ⟨rfl, ?_⟩
    rw [← HCS.out]
    have HST2 := HST.out
    rw [hal] at HST2
    exact Wrote.trans HOFF.out HF1.out HST2
end Go.Proofs.YtnhlnhmjnnopaaaGreatDoor

/- pack's table: whatever it holds, it holds 256 numbers of 32 bits. -/
namespace Go.Proofs.YtnhlnhmjnnopaaaGreatDoor
open Go.RowKit

def U32 (v : Value) : Prop := ∃ z : Int, 0 ≤ z ∧ z < 4294967296 ∧ v = .int .u32 z
structure TabC (c : Array Value) : Prop where
  size : c.size = 256
  all : ∀ i : Nat, ∀ v, c[i]? = some v → U32 v
theorem u32_wrap (z : Int) : 0 ≤ IntKind.u32.wrap z ∧ IntKind.u32.wrap z < 4294967296 := by
  rw [show ∀ m : Int, IntKind.u32.wrap m = m % 4294967296 from fun m => by simp [IntKind.wrap, IntKind.bits, IntKind.signed]]
  omega
theorem TabC.zero : TabC (Array.replicate 256 (.int .u32 0)) := ⟨by simp, fun i v hv => by
  rw [Array.getElem?_replicate] at hv
  split at hv
  · injection hv with hv; exact ⟨0, by decide, by decide, hv.symm⟩
  · cases hv⟩
theorem TabC.set {c : Array Value} (h : TabC c) (i : Nat) {v : Value} (hv : U32 v) : TabC (c.setIfInBounds i v) := ⟨by rw [Array.size_setIfInBounds]; exact h.size, fun j u hu => by
  rw [Array.getElem?_setIfInBounds] at hu
  split at hu
  · split at hu
    · injection hu with hu; rw [← hu]; exact hv
    · cases hu
  · exact h.all j u hu⟩
theorem TabC.one {c : Array Value} (h : TabC c) : c.all (·.oneCell') = true := by
  rw [Array.all_eq_true]
  intro i hi
  obtain ⟨z, _, _, e⟩ := h.all i _ (Array.getElem?_eq_getElem hi)
  rw [e]
  rfl
theorem infoTab : (Tryz.prog.info? 99).map (fun i => (i.zero, i.size)) = some (some (.agg (Array.replicate 256 (.int .u32 0))), 256) := by kernel_rfl
set_option maxHeartbeats 4000000 in
set_option maxRecDepth 100000 in
theorem pack_table (w : World) : Calls Tryz.prog 50 #[] w fun e w' => ∃ c, TabC c ∧ e = .returned (.agg c) ∧ w' = w.alloc (.cells c 99) := by
  have hza := (zero_of_info infoTab).1
  have HZ := Lib.hid (zero_of_info infoTab).2
  go_enter Tryz.func50, Tryz.ntmps50
  go_wp2_with fail
  go_loopw [3] (fun i wr => ∃ (k : Nat) (c : Array Value), k ≤ 256 ∧ i = .int .i64 k ∧ Hid (TabC c) ∧ wr = w.alloc (.cells c 99)) (fun i _ => 256 - (intOf i).toNat)
  case atStart => exact ⟨0, _, by decide, rfl, Lib.hid TabC.zero, rfl⟩
  case round =>
    obtain ⟨k, c, hk, rfl, HT, rfl⟩ := hrel
    by_cases hlt : k < 256
    · have i0 : (k : Int) < 256 := by omega
      go_wp2_with fail
      go_loopw [8, 2] (fun i x wq => ∃ (m : Nat) (z : Int), m ≤ 8 ∧ i = .int .i64 m ∧ x = .int .u32 z ∧ 0 ≤ z ∧ z < 4294967296 ∧ wq = w.alloc (.cells c 99)) (fun i _ _ => 8 - (intOf i).toNat)
      case atStart => exact ⟨0, _, by decide, rfl, rfl, by omega, by omega, rfl⟩
      case round =>
        obtain ⟨m, z, hm, rfl, rfl, z0, z1, rfl⟩ := hrel
        by_cases hl8 : m < 8
        · have i8 : (m : Int) < 8 := by omega
          have hbx := bits_within BinOp.xor .u32 (z / 2) 3988292384
          rw [show IntKind.u32.min = 0 from rfl, show IntKind.u32.max = 4294967295 from rfl] at hbx
          go_wp2_with fail
          · exact ⟨⟨m + 1, _, hl8, by congr 1, rfl, hbx.1, by omega, trivial⟩, by simp only [intOf]; omega⟩
          · exact ⟨⟨m + 1, _, hl8, by congr 1, rfl, by omega, by omega, trivial⟩, by simp only [intOf]; omega⟩
        · obtain ⟨u, hu⟩ : ∃ u, c[k]? = some u := ⟨c[k]'(by rw [HT.out.size]; exact hlt), Array.getElem?_eq_getElem _⟩
          go_wp2_with fail
          exact ⟨⟨k + 1, _, hlt, by congr 1, Lib.hid (HT.out.set k ⟨z, z0, z1, rfl⟩), rfl⟩, by simp only [intOf]; omega⟩
    · have hsz := HT.out.size
      have hld := run_loadAt_new (P := Tryz.prog) w 99 c 256 47 Tryz.underlying99 (by rw [hsz]; exact HZ.out)
      have hsc := run_storeCells_new (P := Tryz.prog) w 99 c c (by rw [hsz]; exact HZ.out) rfl HT.out.one
      have hlv := run_loadVar_new (P := Tryz.prog) w 99 c 256 47 Tryz.underlying99 (by rw [hsz]; exact HZ.out)
      go_wp2_with fail
      unfold Oper.wp execOp
      simp only [Act.eval, Sem.run_bind]
      erw [hld]
      simp only [Result.andThen_ok, Sem.run_pure]
      rw [Oper.upon_value]
      clear hld
      go_wp2_with fail
      (try simp only [Exit.inBlock, Exit.then])
      refine bodyPost_ret (v := .agg c) ?_ rfl ⟨c, HT.out, rfl, rfl⟩
      exact results_cell_row rfl _ _ w.heap.size 99 c (0, 0) _ rfl (heap_alloc_last w _) Tryz.underlying99 rfl (by rw [hsz]; exact HZ.out)
end Go.Proofs.YtnhlnhmjnnopaaaGreatDoor

/- pack.Sum: some number of 32 bits. -/
namespace Go.Proofs.YtnhlnhmjnnopaaaGreatDoor
open Go.RowKit

set_option maxHeartbeats 4000000 in
set_option maxRecDepth 100000 in
theorem pack_sum (base : Nat) (A : Option Addr) (bs : List UInt8) (cp : Nat) (w : World) (hO : OwnsG kByte w base (.slice A bs.length cp) bs) (hl : bs.length ≤ 1000000000000) :
    Calls Tryz.prog 19 #[.slice A bs.length cp] w fun e w' => ∃ n : Nat, n < 4294967296 ∧ e = .returned (.int .u32 n) ∧ Below w.heap.size w w' := by
  have hza := (zero_of_info infoTab).1
  have HZ := Lib.hid (zero_of_info infoTab).2
  have HO := Lib.hid hO
  have KT := fun W => pack_table W
  have HKT := Lib.hid KT
  clear hO KT
  go_enter Tryz.func19, Tryz.ntmps19
  go_wp2_with fail
  refine (HKT.out _).mono ?_
  rintro e w1 ⟨c, hc, rfl, rfl⟩
  have hsc : ∀ W : World, (storeCells ⟨W.heap.size, 0, none⟩ c.toList 0).run Tryz.prog (W.alloc (.cells (Array.replicate 256 (.int .u32 0)) 99)) = .ok () (W.alloc (.cells c 99)) := fun W => run_storeCells_new (P := Tryz.prog) W 99 _ c (by rw [hc.size]; exact HZ.out) (by rw [hc.size]; simp) hc.one
  have hs2 := hsc (w.alloc (.cells c 99))
  simp only [World.size_alloc] at hs2
  have HC := Lib.hid hc
  have hcs := hc.size
  clear hsc hc
  go_wp2_with fail
  obtain ⟨W2, hW2⟩ : ∃ W2, W2 = (w.alloc (.cells c 99)).alloc (.cells c 99) := ⟨_, rfl⟩
  have hb2 : Below w.heap.size w W2 := by rw [hW2]; exact (by (repeat (first | with_reducible exact Below.refl _ _ | with_reducible refine bel_set ?_ ?_ | with_reducible refine bel_alloc ?_ ?_ | with_reducible refine Below.drew ?_ | with_reducible refine bel_drewN _ ?_ | with_reducible refine bel_call ?_ (by assumption) ?_)); all_goals (first | (simp; done) | omega | (simp; omega)))
  have HB2 := Lib.hid hb2
  have hcell : ∀ i : Nat, W2.cell? ⟨w.heap.size + 1, i, none⟩ = c[i]? := fun i => by rw [hW2]; go_simp
  have HCELL := Lib.hid hcell
  rw [← hW2]
  clear hs2 hza hW2 hb2 hcell
  go_loopw [10, 4] (fun i x wq => ∃ (m : Nat) (z : Int), m ≤ bs.length ∧ i = .int .i64 m ∧ x = .int .u32 z ∧ 0 ≤ z ∧ z < 4294967296 ∧ wq = W2) (fun i _ _ => bs.length - (intOf i).toNat)
  case atStart => exact ⟨0, _, by omega, rfl, rfl, by omega, by omega, rfl⟩
  case round =>
    obtain ⟨m, z, hm, rfl, rfl, z0, z1, rfl⟩ := hrel
    by_cases hl8 : m < bs.length
    · have i8 : (m : Int) < (bs.length : Int) := by omega
      obtain ⟨A', c', he, _, _, _, h5⟩ := (HO.out.below HB2.out).form
      injection he with e1 e2 e3
      subst e1
      rcases h5 with h5 | ⟨g, rfl, _, hg2, h7⟩
      · rw [h5] at hl8; simp at hl8
      have hcb := h7 m _ 0 (byteV bs[m]) (List.getElem?_eq_getElem hl8) rfl
      rw [Nat.add_zero, show m * kByte.size = m from Nat.mul_one m] at hcb
      obtain ⟨bb, hbb⟩ : ∃ bb, bb = bs[m] := ⟨_, rfl⟩
      rw [← hbb] at hcb
      unfold byteV at hcb
      clear h7 hbb
      have hq := bits_within BinOp.xor .u8 (z % 256) (bb.toNat : Int)
      rw [show IntKind.u8.min = 0 from rfl, show IntKind.u8.max = 255 from rfl] at hq
      have hq0 := hq.1
      have hq1 : bits BinOp.xor .u8 (z % 256) (bb.toNat : Int) < 256 := by omega
      obtain ⟨y, hy⟩ : ∃ y, c[(bits BinOp.xor .u8 (z % 256) (bb.toNat : Int)).toNat]? = some y := ⟨c[(bits BinOp.xor .u8 (z % 256) (bb.toNat : Int)).toNat]'(by omega), Array.getElem?_eq_getElem _⟩
      obtain ⟨y0, y1, y2, rfl⟩ := HC.out.all _ _ hy
      have hcy := HCELL.out (bits BinOp.xor .u8 (z % 256) (bb.toNat : Int)).toNat
      rw [hy] at hcy
      have hbx := bits_within BinOp.xor .u32 y0 (z / 256)
      rw [show IntKind.u32.min = 0 from rfl, show IntKind.u32.max = 4294967295 from rfl] at hbx
      clear hy hq
      go_wp2_with fail
      exact ⟨⟨m + 1, _, hl8, by congr 1, rfl, hbx.1, by omega, trivial⟩, by simp only [intOf]; omega⟩
    · have hbx := bits_within BinOp.xor .u32 4294967295 z
      rw [show IntKind.u32.min = 0 from rfl, show IntKind.u32.max = 4294967295 from rfl] at hbx
      go_wp2_with fail
      go_ret
      refine ⟨(bits BinOp.xor .u32 4294967295 z).toNat, by omega, ?_, HB2.out⟩
      rw [Int.toNat_of_nonneg hbx.1]
      rfl
end Go.Proofs.YtnhlnhmjnnopaaaGreatDoor

/- pack's table: what it holds, as a function. -/
namespace Go.Proofs.YtnhlnhmjnnopaaaGreatDoor
open Go.RowKit

def stepZ (z : Int) : Int := if 0 < bits BinOp.and .u32 z 1 then bits BinOp.xor .u32 (z / 2) 3988292384 else z / 2
def iterZ : Nat → Int → Int
  | 0, z => z
  | n + 1, z => stepZ (iterZ n z)
def rowZ (k : Nat) : Int := iterZ 8 (k : Int)
theorem stepZ_in {z : Int} (h0 : 0 ≤ z) (h1 : z < 4294967296) : 0 ≤ stepZ z ∧ stepZ z < 4294967296 := by
  have hbx := bits_within BinOp.xor .u32 (z / 2) 3988292384
  rw [show IntKind.u32.min = 0 from rfl, show IntKind.u32.max = 4294967295 from rfl] at hbx
  unfold stepZ
  split <;> omega
theorem iterZ_in (n : Nat) {z : Int} (h0 : 0 ≤ z) (h1 : z < 4294967296) : 0 ≤ iterZ n z ∧ iterZ n z < 4294967296 := by
  induction n with
  | zero => exact ⟨h0, h1⟩
  | succ n ih => exact stepZ_in ih.1 ih.2
theorem rowZ_in {k : Nat} (h : k < 256) : 0 ≤ rowZ k ∧ rowZ k < 4294967296 := iterZ_in 8 (by omega) (by omega)
/-- the first k places are told -/
def tabTo (k : Nat) : Array Value := Array.ofFn (n := 256) fun i => .int .u32 (if i.val < k then rowZ i.val else 0)
theorem tabTo_size (k : Nat) : (tabTo k).size = 256 := by unfold tabTo; simp
theorem tabTo_at (k i : Nat) (h : i < 256) : (tabTo k)[i]? = some (.int .u32 (if i < k then rowZ i else 0)) := by
  unfold tabTo
  rw [Array.getElem?_ofFn, dif_pos h]
theorem tabTo_zero : tabTo 0 = Array.replicate 256 (.int .u32 0) := by
  apply Array.ext_getElem?
  intro i
  by_cases h : i < 256
  · rw [tabTo_at 0 i h, Array.getElem?_replicate, if_pos h]
    rfl
  · rw [Array.getElem?_eq_none (by rw [tabTo_size]; omega), Array.getElem?_replicate, if_neg h]
theorem tabTo_succ (k : Nat) (h : k < 256) : (tabTo k).setIfInBounds k (.int .u32 (rowZ k)) = tabTo (k + 1) := by
  apply Array.ext_getElem?
  intro i
  rw [Array.getElem?_setIfInBounds]
  by_cases hi : i < 256
  · by_cases e : k = i
    · subst e
      rw [if_pos rfl, if_pos (by rw [tabTo_size]; exact h), tabTo_at _ _ hi, if_pos (by omega)]
    · rw [if_neg e, tabTo_at _ _ hi, tabTo_at _ _ hi]
      by_cases hk : i < k
      · rw [if_pos hk, if_pos (by omega)]
      · rw [if_neg hk, if_neg (by omega)]
  · have e : ¬ k = i := by omega
    rw [if_neg e, Array.getElem?_eq_none (by rw [tabTo_size]; omega), Array.getElem?_eq_none (by rw [tabTo_size]; omega)]
theorem tabTo_tab (k : Nat) : TabC (tabTo k) := ⟨tabTo_size k, fun i v hv => by
  by_cases h : i < 256
  · rw [tabTo_at k i h] at hv
    injection hv with hv
    by_cases hk : i < k
    · rw [if_pos hk] at hv
      exact ⟨_, (rowZ_in h).1, (rowZ_in h).2, hv.symm⟩
    · rw [if_neg hk] at hv
      exact ⟨0, by decide, by decide, hv.symm⟩
  · rw [Array.getElem?_eq_none (by rw [tabTo_size]; omega)] at hv
    cases hv⟩
set_option maxHeartbeats 4000000 in
set_option maxRecDepth 100000 in
theorem table_is (w : World) : Calls Tryz.prog 50 #[] w fun e w' => e = .returned (.agg (tabTo 256)) ∧ w' = w.alloc (.cells (tabTo 256) 99) := by
  have hza := (zero_of_info infoTab).1
  have HZ := Lib.hid (zero_of_info infoTab).2
  go_enter Tryz.func50, Tryz.ntmps50
  go_wp2_with fail
  go_loopw [3] (fun i wr => ∃ k : Nat, k ≤ 256 ∧ i = .int .i64 k ∧ wr = w.alloc (.cells (tabTo k) 99)) (fun i _ => 256 - (intOf i).toNat)
  case atStart => exact ⟨0, by decide, rfl, by rw [tabTo_zero]⟩
  case round =>
    obtain ⟨k, hk, rfl, rfl⟩ := hrel
    have HT := Lib.hid (tabTo_tab k)
    by_cases hlt : k < 256
    · have i0 : (k : Int) < 256 := by omega
      have HS := Lib.hid (tabTo_succ k hlt)
      obtain ⟨c, hc⟩ : ∃ c, c = tabTo k := ⟨_, rfl⟩
      rw [← hc] at HT HS ⊢
      clear hc
      go_wp2_with fail
      go_loopw [8, 2] (fun i x wq => ∃ m : Nat, m ≤ 8 ∧ i = .int .i64 m ∧ x = .int .u32 (iterZ m (k : Int)) ∧ wq = w.alloc (.cells c 99)) (fun i _ _ => 8 - (intOf i).toNat)
      case atStart =>
        refine ⟨0, by decide, rfl, ?_, rfl⟩
        have : IntKind.u32.wrap (k : Int) = (k : Int) := by
          rw [show ∀ m : Int, IntKind.u32.wrap m = m % 4294967296 from fun m => by simp [IntKind.wrap, IntKind.bits, IntKind.signed]]
          omega
        simp [iterZ, this]
      case round =>
        obtain ⟨m, hm, rfl, rfl, rfl⟩ := hrel
        by_cases hl8 : m < 8
        · have i8 : (m : Int) < 8 := by omega
          have hz := iterZ_in m (z := (k : Int)) (by omega) (by omega)
          obtain ⟨z, hzz⟩ : ∃ z, z = iterZ m (k : Int) := ⟨_, rfl⟩
          rw [← hzz] at hz ⊢
          have HZZ := Lib.hid (show iterZ (m + 1) (k : Int) = stepZ z from by rw [hzz]; rfl)
          obtain ⟨z0, z1⟩ := hz
          clear hzz
          go_wp2_with fail
          · exact ⟨⟨m + 1, hl8, by congr 1, by rw [HZZ.out]; unfold stepZ; rw [if_pos (by first | assumption | omega)], trivial⟩, by simp only [intOf]; omega⟩
          · exact ⟨⟨m + 1, hl8, by congr 1, by rw [HZZ.out]; unfold stepZ; rw [if_neg (by first | assumption | omega)], trivial⟩, by simp only [intOf]; omega⟩
        · obtain rfl : m = 8 := by omega
          obtain ⟨u, hu⟩ : ∃ u, c[k]? = some u := ⟨c[k]'(by rw [HT.out.size]; exact hlt), Array.getElem?_eq_getElem _⟩
          have hro : iterZ 8 (k : Int) = rowZ k := rfl
          rw [hro]
          clear hro
          generalize hrz : rowZ k = z at *
          go_wp2_with fail
          exact ⟨⟨k + 1, hlt, by congr 1, by rw [← HS.out]⟩, by simp only [intOf]; omega⟩
    · obtain rfl : k = 256 := by omega
      obtain ⟨c, hc⟩ : ∃ c, c = tabTo 256 := ⟨_, rfl⟩
      rw [← hc] at HT
      have HC := Lib.hid hc
      clear hc
      have htab : tabTo 256 = c := HC.out.symm
      rw [htab]
      clear htab
      have hsz := HT.out.size
      have hld := run_loadAt_new (P := Tryz.prog) w 99 c 256 47 Tryz.underlying99 (by rw [hsz]; exact HZ.out)
      have hsc := run_storeCells_new (P := Tryz.prog) w 99 c c (by rw [hsz]; exact HZ.out) rfl HT.out.one
      have hlv := run_loadVar_new (P := Tryz.prog) w 99 c 256 47 Tryz.underlying99 (by rw [hsz]; exact HZ.out)
      go_wp2_with fail
      unfold Oper.wp execOp
      simp only [Act.eval, Sem.run_bind]
      erw [hld]
      simp only [Result.andThen_ok, Sem.run_pure]
      rw [Oper.upon_value]
      clear hld
      go_wp2_with fail
      (try simp only [Exit.inBlock, Exit.then])
      refine bodyPost_ret (v := .agg c) ?_ rfl ⟨by rw [HC.out], by rw [HC.out]⟩
      exact results_cell_row rfl _ _ w.heap.size 99 c (0, 0) _ rfl (heap_alloc_last w _) Tryz.underlying99 rfl (by rw [hsz]; exact HZ.out)
end Go.Proofs.YtnhlnhmjnnopaaaGreatDoor

/- pack.Sum, as a function of the bytes. -/
namespace Go.Proofs.YtnhlnhmjnnopaaaGreatDoor
open Go.RowKit

def sumStep (z : Int) (b : UInt8) : Int := bits BinOp.xor .u32 (rowZ (bits BinOp.xor .u8 (z % 256) (b.toNat : Int)).toNat) (z / 256)
def sumTo (bs : List UInt8) : Int := bs.foldl sumStep 4294967295
def sumZ (bs : List UInt8) : Int := bits BinOp.xor .u32 4294967295 (sumTo bs)
theorem xor32_in (a b : Int) : 0 ≤ bits BinOp.xor .u32 a b ∧ bits BinOp.xor .u32 a b < 4294967296 := by
  have hbx := bits_within BinOp.xor .u32 a b
  rw [show IntKind.u32.min = 0 from rfl, show IntKind.u32.max = 4294967295 from rfl] at hbx
  omega
theorem sumZ_in (bs : List UInt8) : 0 ≤ sumZ bs ∧ sumZ bs < 4294967296 := xor32_in _ _
theorem sumTo_in (bs : List UInt8) : 0 ≤ sumTo bs ∧ sumTo bs < 4294967296 := by
  rcases List.eq_nil_or_concat bs with rfl | ⟨l, b, rfl⟩
  · exact ⟨by decide, by decide⟩
  · unfold sumTo
    rw [List.concat_eq_append, List.foldl_append]
    exact xor32_in _ _
theorem sumTo_snoc (bs : List UInt8) (b : UInt8) : sumTo (bs ++ [b]) = sumStep (sumTo bs) b := by unfold sumTo; rw [List.foldl_append]; rfl
set_option maxHeartbeats 4000000 in
set_option maxRecDepth 100000 in
theorem sum_is (base : Nat) (A : Option Addr) (bs : List UInt8) (cp : Nat) (w : World) (hO : OwnsG kByte w base (.slice A bs.length cp) bs) (hl : bs.length ≤ 1000000000000) :
    Calls Tryz.prog 19 #[.slice A bs.length cp] w fun e w' => e = .returned (.int .u32 (sumZ bs)) ∧ Below w.heap.size w w' := by
  have hza := (zero_of_info infoTab).1
  have HZ := Lib.hid (zero_of_info infoTab).2
  have HO := Lib.hid hO
  have HKT := Lib.hid (fun W => table_is W)
  clear hO
  go_enter Tryz.func19, Tryz.ntmps19
  go_wp2_with fail
  refine (HKT.out _).mono ?_
  rintro e w1 ⟨rfl, rfl⟩
  have HC := Lib.hid (tabTo_tab 256)
  obtain ⟨c, hcc⟩ : ∃ c, c = tabTo 256 := ⟨_, rfl⟩
  have HCC := Lib.hid hcc
  rw [← hcc] at HC ⊢
  have hsc : ∀ W : World, (storeCells ⟨W.heap.size, 0, none⟩ c.toList 0).run Tryz.prog (W.alloc (.cells (Array.replicate 256 (.int .u32 0)) 99)) = .ok () (W.alloc (.cells c 99)) := fun W => run_storeCells_new (P := Tryz.prog) W 99 _ c (by rw [HC.out.size]; exact HZ.out) (by rw [HC.out.size]; simp) HC.out.one
  have hs2 := hsc (w.alloc (.cells c 99))
  simp only [World.size_alloc] at hs2
  have hcs := HC.out.size
  clear hsc hcc
  go_wp2_with fail
  obtain ⟨W2, hW2⟩ : ∃ W2, W2 = (w.alloc (.cells c 99)).alloc (.cells c 99) := ⟨_, rfl⟩
  have hb2 : Below w.heap.size w W2 := by rw [hW2]; exact (by (repeat (first | with_reducible exact Below.refl _ _ | with_reducible refine bel_set ?_ ?_ | with_reducible refine bel_alloc ?_ ?_ | with_reducible refine Below.drew ?_ | with_reducible refine bel_drewN _ ?_ | with_reducible refine bel_call ?_ (by assumption) ?_)); all_goals (first | (simp; done) | omega | (simp; omega)))
  have HB2 := Lib.hid hb2
  have hcell : ∀ i : Nat, W2.cell? ⟨w.heap.size + 1, i, none⟩ = c[i]? := fun i => by rw [hW2]; go_simp
  have HCELL := Lib.hid hcell
  rw [← hW2]
  clear hs2 hza hW2 hb2 hcell
  go_loopw [10, 4] (fun i x wq => ∃ m : Nat, m ≤ bs.length ∧ i = .int .i64 m ∧ x = .int .u32 (sumTo (bs.take m)) ∧ wq = W2) (fun i _ _ => bs.length - (intOf i).toNat)
  case atStart => exact ⟨0, by omega, rfl, by rw [List.take_zero]; rfl, rfl⟩
  case round =>
    obtain ⟨m, hm, rfl, rfl, rfl⟩ := hrel
    by_cases hl8 : m < bs.length
    · have i8 : (m : Int) < (bs.length : Int) := by omega
      obtain ⟨A', c', he, _, _, _, h5⟩ := (HO.out.below HB2.out).form
      injection he with e1 e2 e3
      subst e1
      rcases h5 with h5 | ⟨g, rfl, _, hg2, h7⟩
      · rw [h5] at hl8; simp at hl8
      have hcb := h7 m _ 0 (byteV bs[m]) (List.getElem?_eq_getElem hl8) rfl
      rw [Nat.add_zero, show m * kByte.size = m from Nat.mul_one m] at hcb
      obtain ⟨bb, hbb⟩ : ∃ bb, bb = bs[m] := ⟨_, rfl⟩
      rw [← hbb] at hcb
      unfold byteV at hcb
      have hnx : sumTo (bs.take (m + 1)) = sumStep (sumTo (bs.take m)) bb := by
        rw [List.take_succ_eq_append_getElem hl8, ← hbb, sumTo_snoc]
      obtain ⟨z0, z1⟩ := sumTo_in (bs.take m)
      obtain ⟨z, hz⟩ : ∃ z, z = sumTo (bs.take m) := ⟨_, rfl⟩
      rw [← hz] at hnx z0 z1 ⊢
      have HNX := Lib.hid hnx
      clear h7 hbb hnx hz
      have hq := bits_within BinOp.xor .u8 (z % 256) (bb.toNat : Int)
      rw [show IntKind.u8.min = 0 from rfl, show IntKind.u8.max = 255 from rfl] at hq
      have hq0 := hq.1
      have hq1 : bits BinOp.xor .u8 (z % 256) (bb.toNat : Int) < 256 := by omega
      have hcy : wr.cell? ⟨w.heap.size + 1, (bits BinOp.xor .u8 (z % 256) (bb.toNat : Int)).toNat, none⟩ = some (.int .u32 (rowZ (bits BinOp.xor .u8 (z % 256) (bb.toNat : Int)).toNat)) := by
        rw [HCELL.out, HCC.out, tabTo_at _ _ (by omega), if_pos (by omega)]
      have HST : Hid (sumStep z bb = bits BinOp.xor .u32 (rowZ (bits BinOp.xor .u8 (z % 256) (bb.toNat : Int)).toNat) (z / 256)) := Lib.hid rfl
      generalize hrr : rowZ (bits BinOp.xor .u8 (z % 256) (bb.toNat : Int)).toNat = y0 at *
      clear hq hrr
      go_wp2_with fail
      exact ⟨⟨m + 1, hl8, by congr 1, by rw [HNX.out, HST.out], trivial⟩, by simp only [intOf]; omega⟩
    · obtain rfl : m = bs.length := by omega
      rw [List.take_length]
      have HSZ : Hid (sumZ bs = bits BinOp.xor .u32 4294967295 (sumTo bs)) := Lib.hid rfl
      generalize sumTo bs = z at *
      go_wp2_with fail
      go_ret
      exact ⟨by rw [HSZ.out]; rfl, HB2.out⟩
end Go.Proofs.YtnhlnhmjnnopaaaGreatDoor

/- strings.SplitAfter at a line's end. -/
namespace Go.Proofs.YtnhlnhmjnnopaaaGreatDoor
open Go.RowKit

def linesOf (s : ByteArray) : List ByteArray := Lib.splitB ⟨#[10]⟩ 1 (Lib.countB s ⟨#[10]⟩) s
set_option maxHeartbeats 1000000 in
theorem split_after (s : ByteArray) (w : World) (hM : MaxL w) (hs : s.size < 4294967281) :
    Calls Tryz.prog 39 #[.string s, .string ⟨#[10]⟩] w fun e w' => e = .returned (.slice (some ⟨w.heap.size, 0, none⟩) (linesOf s).length (linesOf s).length) ∧ w' = w.alloc (.cells ((linesOf s).map Value.string).toArray 9) := by
  obtain ⟨m, hm⟩ := hM
  have hc := Lib.countB_le ⟨#[10]⟩ (by decide) s.size s (Nat.le_refl _)
  have h := Tryz.strings_genSplit s ⟨#[10]⟩ 1 (-1) (Lib.countB s ⟨#[10]⟩ + 1) m w hs hm (by decide) (by decide) (by decide) (by decide) (by rw [if_pos (by decide)]; omega)
  have hl := Lib.splitB_all ⟨#[10]⟩ (by decide) 1 (Lib.countB s ⟨#[10]⟩) s rfl
  rw [Nat.add_sub_cancel, ← hl, Lib.cellsOf_full] at h
  have HK := Lib.hid h
  clear h hl hm
  go_enter Tryz.func39, Tryz.ntmps39
  go_wp2_with fail
  refine HK.out.mono ?_
  rintro e w' ⟨rfl, rfl⟩
  go_wp2_with fail
  go_ret
  exact ⟨rfl, rfl⟩
end Go.Proofs.YtnhlnhmjnnopaaaGreatDoor
