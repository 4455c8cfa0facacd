/- EntMapOps, PackNumber, PackText, PackTable, PackSum: texts put together. -/
import Derived.Test.YtnhlnhmjnnopaaaGreatDoorDt3
import Derived.Shelf.SlIter.Keys
import Derived.Shelf.SlIter.Sorted
import Derived.Shelf.SortM.Plain
import Derived.Shelf.SortM.SortNone
import Derived.Shelf.SlMaps.Copy
import Derived.Shelf.SlMaps.DeleteFunc
import Derived.TacticsInMore
import Derived.Deep.RegionLaw
import Derived.BigRegion
import Derived.Deep.WholeRow
set_option linter.unusedVariables false
set_option linter.unusedSimpArgs false
/- maps.Keys, slices.Sorted, maps.Copy, maps.DeleteFunc at maps from keys to texts. -/
namespace Go.Proofs.YtnhlnhmjnnopaaaGreatDoor
open Go.RowKit Go.Maps Go.Sort Go.Shelf Go.Lib

theorem sorts_str (m : Nat) : AnyZ.SortsIn Tryz.prog Tryz.sortedM_ren Fence.wide m :=
  ⟨fun blk off cap ss W hH hblk hsz => callsIn_wide.2 (AnyM.slices_Sort_string Tryz.sortM blk off cap ss W hH hblk hsz),
   fun p cap W => callsIn_wide.2 (AnyM.slices_Sort_string_none Tryz.sortM p cap W)⟩
theorem keys_calls (mb : Option Nat) (W : World) : Calls Tryz.prog 23 #[.map mb] W fun e w' =>
    e = .returned (.func (.func 53) #[] #[.pointer (some ⟨W.heap.size, 0, none⟩)]) ∧ w' = W.alloc (.cells #[.map mb] 57) :=
  (callsIn_wide (n := 5)).1 (AnyZ.keys_in Tryz.keysM Fence.wide 5 trivial rfl mb W)
theorem enc_lb (l : List UInt8) : encStr l = .string (lb l) := rfl
set_option maxHeartbeats 2000000 in
theorem sorted_calls {W : World} {mb n : Nat} {l : List EntC} (h : EMap W mb n l) (hl : l.length ≤ 1000000) (Bm : Nat) (hc : W.cell? ⟨Bm, 0, none⟩ = some (.map (some mb))) :
    Calls Tryz.prog 22 #[.func (.func 53) #[] #[.pointer (some ⟨Bm, 0, none⟩)]] W fun e w' =>
      ∃ v, e = .returned v ∧ OwnsS w' W.heap.size v (sortK l) ∧ Below W.heap.size W w' := by
  obtain ⟨es, hown, hE, hK⟩ := h
  have hap := own_apart hown
  have hsz : Maps.size (.map es : VD) = l.length := hE.size hap hK
  have hseq : SeqGives Fence.wide 2 Tryz.prog 53 #[.pointer (some ⟨Bm, 0, none⟩)] encStr (fun ss => ss.Perm (strKeys (.map es : VD))) (Maps.size (.map es : VD)) W :=
    AnyZ.keys_gives (ρ := Tryz.keysM_ren) { Tryz.keysM with } Fence.wide _ trivial rfl (by omega) Bm mb n (.map es) _ (lt_of_cell hc) hc hown
  have cS := AnyZ.sorted_in Tryz.sortedM Fence.wide 5 trivial trivial trivial trivial rfl (by omega) (sorts_str _) (enters_of Tryz.func52 (by kernel_rfl) rfl) 53 #[.pointer (some ⟨Bm, 0, none⟩)] trivial (enters_of Tryz.func53 (by kernel_rfl) rfl) _ _ (by rw [hsz]; unfold maxLen; omega) (by rw [hsz]; omega) _ hseq
  change CallsIn _ _ Tryz.prog 22 _ _ _ at cS
  refine (callsIn_wide (n := 5)).1 (cS.mono ?_)
  rintro e w' ⟨v, ss, rfl, hS, hrow, _, hb⟩
  have hS2 : ss.Perm (keysL l) := hS.trans (hE.keys hap hK)
  have hm : ss.mergeSort (fun x y => decide (x ≤ y)) = (keysL l).mergeSort leB := mergeSort_of_perm hS2
  rw [hm] at hrow
  have hlen : ss.length = (sortK l).length := by rw [sortK_len, hS2.length_eq]; unfold keysL; rw [List.length_map]
  refine ⟨v, rfl, ?_, hb⟩
  unfold OwnsS
  rw [← hlen]
  have : (sortK l).map Value.string = ((keysL l).mergeSort leB).map encStr := by
    unfold sortK
    rw [List.map_map]
    rfl
  rw [this]
  exact hrow
theorem copy_calls {W : World} {md ms nd ns : Nat} {l l2 : List EntC} (h : EMap W md nd l) (h2 : EMap W ms ns l2) (hne : md ≠ ms) (hn : nd + l2.length ≤ 1000000) :
    Calls Tryz.prog 27 #[.map (some md), .map (some ms)] W fun e w' =>
      e = .returned (.tuple #[]) ∧ EMap w' md (nd + l2.length) (mergeE l l2) ∧ Off [md] W w' := by
  obtain ⟨es, hown, hE, hK⟩ := h
  obtain ⟨es2, hown2, hE2, hK2⟩ := h2
  have hsz : Maps.size (.map es2 : VD) = l2.length := hE2.size (own_apart hown2) hK2
  have hc := AnyX.maps_Copy Tryz.copyM (string_keyed Tryz.underlying9) heldE md ms nd ns (.map es) (.map es2) W hown hown2 hne (by rw [hsz]; unfold maxLen; omega)
  change Calls Tryz.prog 27 _ _ _ at hc
  refine hc.mono ?_
  rintro e w' ⟨rfl, h3, _, h5⟩
  obtain ⟨es', q1, q2⟩ := hE.merge hE2 (own_apart hown2)
  rw [q1, hsz] at h3
  exact ⟨rfl, ⟨es', h3, q2, mergeE_one hK hK2⟩, grown_off h5 (fun k hk => by cases hk; simp)⟩
theorem of_pred {W : World} {mb n : Nat} {l : List EntC} {s : ByteArray} (val : Value) (xb : Nat) (hc : W.cell? ⟨xb, 0, none⟩ = some (.map (some mb))) (h : EMap W mb n l) (hs : s.size ≤ maxLen) :
    Calls Tryz.prog 25 #[.string s, val, .pointer (some ⟨xb, 0, none⟩)] W fun e w' => e = .returned (.bool (memB (l.map (·.key)) s)) ∧ w' = W := by
  have hlk := em_ok h Tryz.underlying57 (zero_str W) hs
  go_enter Tryz.func25, Tryz.ntmps25
  go_wp2_with fail
  go_ret
  exact ⟨rfl, rfl⟩
def predE (l : List EntC) (kl : Lit) (_ : VD) : Bool := match kl with | .string x => memB (l.map (·.key)) (lb x) | _ => false
theorem delete_calls {W : World} {ma mb na nb : Nat} {l l2 : List EntC} (h : EMap W ma na l) (h2 : EMap W mb nb l2) (hne : ma ≠ mb) (xb : Nat) (hc : W.cell? ⟨xb, 0, none⟩ = some (.map (some mb))) :
    Calls Tryz.prog 24 #[.map (some ma), .func (.func 25) #[] #[.pointer (some ⟨xb, 0, none⟩)]] W fun e w' =>
      e = .returned (.tuple #[]) ∧ EMap w' ma na (goneE l l2) ∧ Off [ma] W w' := by
  obtain ⟨es, hown, hE, hK⟩ := h
  have hxa : xb ≠ ma := by
    rintro rfl
    obtain ⟨es0, clock, h0, _⟩ := hown
    simp only [World.cell?, h0] at hc
    cases hc
  have hd := AnyDf.maps_DeleteFunc Tryz.delM (string_keyed Tryz.underlying9) heldE (predE l2) 25 #[.pointer (some ⟨xb, 0, none⟩)] ma na (.map es) W (enters_of Tryz.func25 (by kernel_rfl) rfl) hown (fun W2 key val kl yd yp hg hkey hv => by
    obtain ⟨x, rfl, rfl, hx⟩ := Maps.keyOf_str Tryz.underlying9 hkey
    have hoff : Off [ma] W W2 := grown_off hg (fun k hk => by cases hk; simp)
    refine (of_pred (s := lb x) val xb (hoff.cell hc (by simp [hxa])) (h2.off hoff (by simp [Ne.symm hne])) hx).mono ?_
    rintro e w' ⟨rfl, rfl⟩
    exact ⟨rfl, World.grownBy.refl _ _⟩)
  change Calls Tryz.prog 24 _ _ _ at hd
  refine hd.mono ?_
  rintro e w' ⟨rfl, h3, h4⟩
  obtain ⟨es', q1, q2⟩ := hE.gone (b := l2) (predE l2) (fun e he => by
    show memB _ (lb e.key.data.toList) = _
    rw [lb_list])
  rw [q1] at h3
  exact ⟨rfl, ⟨es', h3, q2, hK.filter _⟩, grown_off h4 (fun k hk => by cases hk; simp)⟩
end Go.Proofs.YtnhlnhmjnnopaaaGreatDoor

/- pack's writer: number. -/
namespace Go.Proofs.YtnhlnhmjnnopaaaGreatDoor
open Go.RowKit

/-- a number's bytes -/
def wordB (n size : Nat) : List UInt8 := (List.range size).map fun i => UInt8.ofNat (n >>> (8 * (size - 1 - i)))
theorem wordB_len (n size : Nat) : (wordB n size).length = size := by unfold wordB; simp
theorem wordB_at (n size j : Nat) (h : j < size) : (wordB n size).take (j + 1) = (wordB n size).take j ++ [UInt8.ofNat (n >>> (8 * (size - 1 - j)))] := by
  rw [List.take_succ_eq_append_getElem (by rw [wordB_len]; exact h)]
  congr 1
  unfold wordB
  simp
theorem word_val (n k : Nat) (hn : n < 4294967296) : IntKind.u8.wrap ((n : Int) / 2 ^ min k 32) = ((UInt8.ofNat (n >>> k)).toNat : Int) := by
  have h1 : (n : Int) / 2 ^ min k 32 = ((n / 2 ^ min k 32 : Nat) : Int) := by norm_cast
  rw [h1, show ∀ m : Int, IntKind.u8.wrap m = m % 256 from fun m => by simp [IntKind.wrap, IntKind.bits, IntKind.signed], UInt8.toNat_ofNat', Nat.shiftRight_eq_div_pow]
  by_cases h : k ≤ 32
  · rw [Nat.min_eq_left h]
    omega
  · rw [Nat.min_eq_right (by omega)]
    have h2 : 2 ^ 32 ≤ 2 ^ k := Nat.pow_le_pow_right (by decide) (by omega)
    have e1 : n / 2 ^ 32 = 0 := Nat.div_eq_of_lt (by omega)
    have e2 : n / 2 ^ k = 0 := Nat.div_eq_of_lt (by omega)
    rw [e1, e2]
    rfl
set_option maxHeartbeats 4000000 in
set_option maxRecDepth 100000 in
theorem pack_number {p : Prop} (base wb : Nat) (v : Value) (bs : List UInt8) (n size : Nat) (w : World) (hW : WAt p w base wb v bs) (hb : base ≤ w.heap.size) (hn : n < 4294967296) (hz1 : 1 ≤ size) (hz : size ≤ 8) (hl : bs.length ≤ 1000000000) :
    Calls Tryz.prog 15 #[.pointer (some ⟨wb, 0, none⟩), .int .u32 n, .int .i64 size] w fun e w' => e = .returned (.tuple #[]) ∧ Wrote False w w' base wb v (bs ++ wordB n size) := by
  have e0 : IntKind.i64.wrap ((size : Int) - 1) = (size : Int) - 1 := IntWalk.i64_in _ (by omega)
  have e1 : IntKind.i64.wrap (8 * ((size : Int) - 1)) = 8 * (size : Int) - 8 := by rw [IntWalk.i64_in _ (by omega)]; omega
  have HW := Lib.hid hW
  clear hW
  go_enter Tryz.func15, Tryz.ntmps15
  go_wp2_with fail
  go_loopw [6] (fun i wr => ∃ j : Nat, j ≤ size ∧ i = .int .i64 (8 * (size : Int) - 8 - 8 * (j : Int)) ∧ Hid (Wrote (j = 0) w wr base wb v (bs ++ (wordB n size).take j))) (fun i _ => (intOf i + 8).toNat)
  case atStart => exact ⟨0, Nat.zero_le _, by congr 1; omega, Lib.hid (by rw [List.take_zero, List.append_nil]; exact Wrote.refl (HW.out.mono fun _ => rfl))⟩
  case round =>
    obtain ⟨j, hj, rfl, HX⟩ := hrel
    by_cases hlt : j < size
    · obtain ⟨v1, hW1, hF1⟩ := HX.out.at_
      have hwl := wordB_len n size
      obtain ⟨cs, hcs⟩ : ∃ cs, cs = bs ++ (wordB n size).take j := ⟨_, rfl⟩
      have hcl : cs.length = bs.length + j := by rw [hcs, List.length_append, List.length_take, hwl]; omega
      obtain ⟨cB, hcB⟩ : ∃ cB, cB = UInt8.ofNat (n >>> (8 * (size - 1 - j))) := ⟨_, rfl⟩
      have hval : IntKind.u8.wrap ((n : Int) / 2 ^ min (8 * (size : Int) - 8 - 8 * (j : Int)).toNat 32) = (cB.toNat : Int) := by
        rw [show (8 * (size : Int) - 8 - 8 * (j : Int)).toNat = 8 * (size - 1 - j) by omega, hcB]
        exact word_val _ _ hn
      have hnext : bs ++ (wordB n size).take (j + 1) = cs ++ [cB] := by rw [wordB_at _ _ _ hlt, hcs, hcB, List.append_assoc]
      rw [← hcs] at hW1
      obtain ⟨A1, c1, rfl, _⟩ := hW1.own.form
      have p0 := hW1.c0
      have p1 := hW1.ty.frozen 0
      have plt := lt_of_cell p0
      have i0 : (0 : Int) ≤ 8 * (size : Int) - 8 - 8 * (j : Int) := by omega
      have e2 : IntKind.i64.wrap (8 * (size : Int) - 8 - 8 * (j : Int) - 8) = 8 * (size : Int) - 8 - 8 * ((j + 1 : Nat) : Int) := by rw [IntWalk.i64_in _ (by omega)]; omega
      have hbL : Below wr.heap.size wr (wr.alloc (.cells #[.int .u8 cB.toNat] 5)).drew := ((Below.refl _ _).alloc (Nat.le_refl _) _).drew
      have HW2 := Lib.hid (hW1.below hbL)
      have HXX := Lib.hid HX.out.off
      have HF := Lib.hid hF1
      have HBL := Lib.hid hbL
      have X0 : Hid (∀ i u, (kByte.cells cB)[i]? = some u → (wr.alloc (.cells #[.int .u8 cB.toNat] 5)).drew.cell? ⟨wr.heap.size, i, none⟩ = some u) := Lib.hid (fun i u hu => by
        match i, u, hu with
        | 0, _, hu => injection hu with hu; subst hu; go_simp; rfl)
      have HB2 : Hid (base ≤ (wr.alloc (.cells #[.int .u8 cB.toNat] 5)).drew.heap.size) := Lib.hid (by have := HX.out.off.size; simp; omega)
      have HL1 : Hid ((cs.length + 1) * 1 ≤ 140737488355328) := Lib.hid (by omega)
      have HL2 : Hid (cs.length + 1 ≤ 9223372036854775807) := Lib.hid (by omega)
      have HNX := Lib.hid hnext
      clear hW1 hF1 hcs hcl hcB hnext hbL hwl HX
      go_wp2_with fail
      go_region_law (apply step_append_byte (s := .tmp 17) (x := .tmp 22) (t := cB) (hown := HW2.out.own) (hc := X0.out) (hb := HB2.out) (hn := HL1.out) (hn2 := HL2.out); (any_goals rfl); intro v' w3 ho hoff hfr; have HST := Lib.hid (HW2.out.store ho hoff hfr); have HFR := Lib.hid hfr; have P3 := hoff.cell HW2.out.c0 HW2.out.not; have P4 := (hoff.frozen (lt_of_cell HW2.out.c0) HW2.out.not).trans (HW2.out.ty.frozen 0); obtain ⟨A2, c2, rfl, _⟩ := ho.form; clear ho hoff hfr)
      all_goals
        rw [List.length_append, List.length_singleton] at HST
        have HW3 := Lib.hid (Wrote.trans (HXX.out.below HBL.out HXX.out.size) HF.out HST.out)
        rw [← HNX.out] at HW3
        clear HST HXX HF HBL HW2 X0 HB2 HL1 HL2 HNX HFR P3 P4 p0 p1
        go_wp2_with fail
        refine ⟨⟨j + 1, hlt, ?_, Lib.hid (HW3.out.mono (fun h => h.elim))⟩, ?_⟩
        · congr 1
        · simp only [intOf]; omega
    · obtain rfl : j = size := by omega
      have HX2 := HX
      rw [List.take_of_length_le (by rw [wordB_len]; omega)] at HX2
      go_wp2_with fail
      go_end0
      exact ⟨rfl, HX2.out.mono (fun h => by omega)⟩
end Go.Proofs.YtnhlnhmjnnopaaaGreatDoor

/- pack's writer: text. -/
namespace Go.Proofs.YtnhlnhmjnnopaaaGreatDoor
open Go.RowKit

set_option maxHeartbeats 4000000 in
set_option maxRecDepth 100000 in
theorem pack_text {p : Prop} (base wb : Nat) (v : Value) (bs : List UInt8) (s : ByteArray) (size : Nat) (w : World) (hW : WAt p w base wb v bs) (hb : base ≤ w.heap.size) (hn : s.size < 4294967296) (hz1 : 1 ≤ size) (hz : size ≤ 8) (hl : bs.length ≤ 1000000000) :
    Calls Tryz.prog 14 #[.pointer (some ⟨wb, 0, none⟩), .string s, .int .i64 size] w fun e w' => e = .returned (.tuple #[]) ∧ Wrote False w w' base wb v (bs ++ wordB s.size size ++ s.data.toList) := by
  have e0 : IntKind.u32.wrap (s.size : Int) = (s.size : Int) := by
    rw [show ∀ m : Int, IntKind.u32.wrap m = m % 4294967296 from fun m => by simp [IntKind.wrap, IntKind.bits, IntKind.signed]]
    omega
  have HN := Lib.hid (fun W (hW : WAt p W base wb v bs) (hb : base ≤ W.heap.size) => pack_number base wb v bs s.size size W hW hb hn hz1 hz hl)
  have HW := Lib.hid hW
  clear hW
  go_enter Tryz.func14, Tryz.ntmps14
  go_wp2_with fail
  refine (HN.out _ HW.out hb).mono ?_
  rintro e w1 ⟨rfl, h1⟩
  obtain ⟨v1, hW1, hF1⟩ := h1.at_
  have hwl := wordB_len s.size size
  obtain ⟨cs, hcs⟩ : ∃ cs, cs = bs ++ wordB s.size size := ⟨_, rfl⟩
  have HL1 : Hid (cs.length + s.size ≤ 140737488355328) := Lib.hid (by rw [hcs, List.length_append, hwl]; omega)
  rw [← hcs] at hW1
  have HCS := Lib.hid hcs
  have HOFF := Lib.hid h1.off
  obtain ⟨A1, c1, rfl, _⟩ := hW1.own.form
  have HF1 := Lib.hid hF1
  have p0 := hW1.c0
  have p1 := hW1.ty.frozen 0
  have HW1 := Lib.hid hW1
  have HB1 : Hid (base ≤ w1.heap.size) := Lib.hid (Nat.le_trans hb h1.off.size)
  clear h1 hF1 hW1 hwl hcs
  go_wp2_with (at_builtin; refine wpList_append_bytes rfl _ _ rfl s rfl rfl HW1.out.own.own HB1.out HL1.out ?_; intro v' w3 ho hoff hfr; have HST := Lib.hid (HW1.out.store ho hoff hfr); have P3 := hoff.cell HW1.out.c0 HW1.out.not; have P4 := (hoff.frozen (lt_of_cell HW1.out.c0) HW1.out.not).trans (HW1.out.ty.frozen 0); obtain ⟨A2, c2, rfl, _⟩ := ho.form; clear ho hoff hfr)
  have hal : (cs ++ s.data.toList).length = cs.length + s.size := by rw [List.length_append, Array.length_toList]; rfl
  all_goals
    go_end0
    refine ⟨rfl, ?_⟩
    rw [← HCS.out]
    have HST2 := HST.out
    rw [hal] at HST2
    exact Wrote.trans HOFF.out HF1.out HST2
end Go.Proofs.YtnhlnhmjnnopaaaGreatDoor

/- pack's table: whatever it holds, it holds 256 numbers of 32 bits. -/
namespace Go.Proofs.YtnhlnhmjnnopaaaGreatDoor
open Go.RowKit

def U32 (v : Value) : Prop := ∃ z : Int, 0 ≤ z ∧ z < 4294967296 ∧ v = .int .u32 z
structure TabC (c : Array Value) : Prop where
  size : c.size = 256
  all : ∀ i : Nat, ∀ v, c[i]? = some v → U32 v
theorem u32_wrap (z : Int) : 0 ≤ IntKind.u32.wrap z ∧ IntKind.u32.wrap z < 4294967296 := by
  rw [show ∀ m : Int, IntKind.u32.wrap m = m % 4294967296 from fun m => by simp [IntKind.wrap, IntKind.bits, IntKind.signed]]
  omega
theorem TabC.zero : TabC (Array.replicate 256 (.int .u32 0)) := ⟨by simp, fun i v hv => by
  rw [Array.getElem?_replicate] at hv
  split at hv
  · injection hv with hv; exact ⟨0, by decide, by decide, hv.symm⟩
  · cases hv⟩
theorem TabC.set {c : Array Value} (h : TabC c) (i : Nat) {v : Value} (hv : U32 v) : TabC (c.setIfInBounds i v) := ⟨by rw [Array.size_setIfInBounds]; exact h.size, fun j u hu => by
  rw [Array.getElem?_setIfInBounds] at hu
  split at hu
  · split at hu
    · injection hu with hu; rw [← hu]; exact hv
    · cases hu
  · exact h.all j u hu⟩
theorem TabC.one {c : Array Value} (h : TabC c) : c.all (·.oneCell') = true := by
  rw [Array.all_eq_true]
  intro i hi
  obtain ⟨z, _, _, e⟩ := h.all i _ (Array.getElem?_eq_getElem hi)
  rw [e]
  rfl
theorem infoTab : (Tryz.prog.info? 99).map (fun i => (i.zero, i.size)) = some (some (.agg (Array.replicate 256 (.int .u32 0))), 256) := by kernel_rfl
set_option maxHeartbeats 4000000 in
set_option maxRecDepth 100000 in
theorem pack_table (w : World) : Calls Tryz.prog 50 #[] w fun e w' => ∃ c, TabC c ∧ e = .returned (.agg c) ∧ w' = w.alloc (.cells c 99) := by
  have hza := (zero_of_info infoTab).1
  have HZ := Lib.hid (zero_of_info infoTab).2
  go_enter Tryz.func50, Tryz.ntmps50
  go_wp2_with fail
  go_loopw [3] (fun i wr => ∃ (k : Nat) (c : Array Value), k ≤ 256 ∧ i = .int .i64 k ∧ Hid (TabC c) ∧ wr = w.alloc (.cells c 99)) (fun i _ => 256 - (intOf i).toNat)
  case atStart => exact ⟨0, _, by decide, rfl, Lib.hid TabC.zero, rfl⟩
  case round =>
    obtain ⟨k, c, hk, rfl, HT, rfl⟩ := hrel
    by_cases hlt : k < 256
    · have i0 : (k : Int) < 256 := by omega
      go_wp2_with fail
      go_loopw [8, 2] (fun i x wq => ∃ (m : Nat) (z : Int), m ≤ 8 ∧ i = .int .i64 m ∧ x = .int .u32 z ∧ 0 ≤ z ∧ z < 4294967296 ∧ wq = w.alloc (.cells c 99)) (fun i _ _ => 8 - (intOf i).toNat)
      case atStart => exact ⟨0, _, by decide, rfl, rfl, by omega, by omega, rfl⟩
      case round =>
        obtain ⟨m, z, hm, rfl, rfl, z0, z1, rfl⟩ := hrel
        by_cases hl8 : m < 8
        · have i8 : (m : Int) < 8 := by omega
          have hbx := bits_within BinOp.xor .u32 (z / 2) 3988292384
          rw [show IntKind.u32.min = 0 from rfl, show IntKind.u32.max = 4294967295 from rfl] at hbx
          go_wp2_with fail
          · exact ⟨⟨m + 1, _, hl8, by congr 1, rfl, hbx.1, by omega, trivial⟩, by simp only [intOf]; omega⟩
          · exact ⟨⟨m + 1, _, hl8, by congr 1, rfl, by omega, by omega, trivial⟩, by simp only [intOf]; omega⟩
        · obtain ⟨u, hu⟩ : ∃ u, c[k]? = some u := ⟨c[k]'(by rw [HT.out.size]; exact hlt), Array.getElem?_eq_getElem _⟩
          go_wp2_with fail
          exact ⟨⟨k + 1, _, hlt, by congr 1, Lib.hid (HT.out.set k ⟨z, z0, z1, rfl⟩), rfl⟩, by simp only [intOf]; omega⟩
    · have hsz := HT.out.size
      have hld := run_loadAt_new (P := Tryz.prog) w 99 c 256 47 Tryz.underlying99 (by rw [hsz]; exact HZ.out)
      have hsc := run_storeCells_new (P := Tryz.prog) w 99 c c (by rw [hsz]; exact HZ.out) rfl HT.out.one
      have hlv := run_loadVar_new (P := Tryz.prog) w 99 c 256 47 Tryz.underlying99 (by rw [hsz]; exact HZ.out)
      go_wp2_with fail
      unfold Oper.wp execOp
      simp only [Act.eval, Sem.run_bind]
      erw [hld]
      simp only [Result.andThen_ok, Sem.run_pure]
      rw [Oper.upon_value]
      clear hld
      go_wp2_with fail
      (try simp only [Exit.inBlock, Exit.then])
      refine bodyPost_ret (v := .agg c) ?_ rfl ⟨c, HT.out, rfl, rfl⟩
      exact results_cell_row rfl _ _ w.heap.size 99 c (0, 0) _ rfl (heap_alloc_last w _) Tryz.underlying99 rfl (by rw [hsz]; exact HZ.out)
end Go.Proofs.YtnhlnhmjnnopaaaGreatDoor

/- pack.Sum: some number of 32 bits. -/
namespace Go.Proofs.YtnhlnhmjnnopaaaGreatDoor
open Go.RowKit

set_option maxHeartbeats 4000000 in
set_option maxRecDepth 100000 in
theorem pack_sum (base : Nat) (A : Option Addr) (bs : List UInt8) (cp : Nat) (w : World) (hO : OwnsG kByte w base (.slice A bs.length cp) bs) (hl : bs.length ≤ 1000000000000) :
    Calls Tryz.prog 19 #[.slice A bs.length cp] w fun e w' => ∃ n : Nat, n < 4294967296 ∧ e = .returned (.int .u32 n) ∧ Below w.heap.size w w' := by
  have hza := (zero_of_info infoTab).1
  have HZ := Lib.hid (zero_of_info infoTab).2
  have HO := Lib.hid hO
  have KT := fun W => pack_table W
  have HKT := Lib.hid KT
  clear hO KT
  go_enter Tryz.func19, Tryz.ntmps19
  go_wp2_with fail
  refine (HKT.out _).mono ?_
  rintro e w1 ⟨c, hc, rfl, rfl⟩
  have hsc : ∀ W : World, (storeCells ⟨W.heap.size, 0, none⟩ c.toList 0).run Tryz.prog (W.alloc (.cells (Array.replicate 256 (.int .u32 0)) 99)) = .ok () (W.alloc (.cells c 99)) := fun W => run_storeCells_new (P := Tryz.prog) W 99 _ c (by rw [hc.size]; exact HZ.out) (by rw [hc.size]; simp) hc.one
  have hs2 := hsc (w.alloc (.cells c 99))
  simp only [World.size_alloc] at hs2
  have HC := Lib.hid hc
  have hcs := hc.size
  clear hsc hc
  go_wp2_with fail
  obtain ⟨W2, hW2⟩ : ∃ W2, W2 = (w.alloc (.cells c 99)).alloc (.cells c 99) := ⟨_, rfl⟩
  have hb2 : Below w.heap.size w W2 := by rw [hW2]; exact (by (repeat (first | with_reducible exact Below.refl _ _ | with_reducible refine bel_set ?_ ?_ | with_reducible refine bel_alloc ?_ ?_ | with_reducible refine Below.drew ?_ | with_reducible refine bel_drewN _ ?_ | with_reducible refine bel_call ?_ (by assumption) ?_)); all_goals (first | (simp; done) | omega | (simp; omega)))
  have HB2 := Lib.hid hb2
  have hcell : ∀ i : Nat, W2.cell? ⟨w.heap.size + 1, i, none⟩ = c[i]? := fun i => by rw [hW2]; go_simp
  have HCELL := Lib.hid hcell
  rw [← hW2]
  clear hs2 hza hW2 hb2 hcell
  go_loopw [10, 4] (fun i x wq => ∃ (m : Nat) (z : Int), m ≤ bs.length ∧ i = .int .i64 m ∧ x = .int .u32 z ∧ 0 ≤ z ∧ z < 4294967296 ∧ wq = W2) (fun i _ _ => bs.length - (intOf i).toNat)
  case atStart => exact ⟨0, _, by omega, rfl, rfl, by omega, by omega, rfl⟩
  case round =>
    obtain ⟨m, z, hm, rfl, rfl, z0, z1, rfl⟩ := hrel
    by_cases hl8 : m < bs.length
    · have i8 : (m : Int) < (bs.length : Int) := by omega
      obtain ⟨A', c', he, _, _, _, h5⟩ := (HO.out.below HB2.out).form
      injection he with e1 e2 e3
      subst e1
      rcases h5 with h5 | ⟨g, rfl, _, hg2, h7⟩
      · rw [h5] at hl8; simp at hl8
      have hcb := h7 m _ 0 (byteV bs[m]) (List.getElem?_eq_getElem hl8) rfl
      rw [Nat.add_zero, show m * kByte.size = m from Nat.mul_one m] at hcb
      obtain ⟨bb, hbb⟩ : ∃ bb, bb = bs[m] := ⟨_, rfl⟩
      rw [← hbb] at hcb
      unfold byteV at hcb
      clear h7 hbb
      have hq := bits_within BinOp.xor .u8 (z % 256) (bb.toNat : Int)
      rw [show IntKind.u8.min = 0 from rfl, show IntKind.u8.max = 255 from rfl] at hq
      have hq0 := hq.1
      have hq1 : bits BinOp.xor .u8 (z % 256) (bb.toNat : Int) < 256 := by omega
      obtain ⟨y, hy⟩ : ∃ y, c[(bits BinOp.xor .u8 (z % 256) (bb.toNat : Int)).toNat]? = some y := ⟨c[(bits BinOp.xor .u8 (z % 256) (bb.toNat : Int)).toNat]'(by omega), Array.getElem?_eq_getElem _⟩
      obtain ⟨y0, y1, y2, rfl⟩ := HC.out.all _ _ hy
      have hcy := HCELL.out (bits BinOp.xor .u8 (z % 256) (bb.toNat : Int)).toNat
      rw [hy] at hcy
      have hbx := bits_within BinOp.xor .u32 y0 (z / 256)
      rw [show IntKind.u32.min = 0 from rfl, show IntKind.u32.max = 4294967295 from rfl] at hbx
      clear hy hq
      go_wp2_with fail
      exact ⟨⟨m + 1, _, hl8, by congr 1, rfl, hbx.1, by omega, trivial⟩, by simp only [intOf]; omega⟩
    · have hbx := bits_within BinOp.xor .u32 4294967295 z
      rw [show IntKind.u32.min = 0 from rfl, show IntKind.u32.max = 4294967295 from rfl] at hbx
      go_wp2_with fail
      go_ret
      refine ⟨(bits BinOp.xor .u32 4294967295 z).toNat, by omega, ?_, HB2.out⟩
      rw [Int.toNat_of_nonneg hbx.1]
      rfl
end Go.Proofs.YtnhlnhmjnnopaaaGreatDoor
