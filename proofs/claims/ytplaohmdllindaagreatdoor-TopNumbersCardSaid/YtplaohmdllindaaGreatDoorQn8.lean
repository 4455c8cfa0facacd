/- LexBare, LexBareG, MsgReader, MsgReaderG: texts put together. -/
import Derived.Test.YtplaohmdllindaaGreatDoorQn1
import Derived.Test.YtplaohmdllindaaGreatDoorQn2
import Derived.WalkLawsBesides
import Derived.BigQuiet
import Derived.Deep.RegionHeld3
import Derived.Lib.IndexAny
set_option linter.unusedVariables false
set_option linter.unusedSimpArgs false
/- lex.Bare at "{a}" and at no text. -/
namespace Go.Proofs.YtplaohmdllindaaGreatDoor
open Go.RowKit

theorem signs_plain (w : World) : Calls Tryz.prog 128 #[.bool false] w fun e w' => e = .returned (.string ⟨#[123, 125]⟩) ∧ w' = w := by
  go_enter Tryz.func128, Tryz.ntmps128
  go_wp2_with fail
  go_ret
  exact ⟨rfl, rfl⟩

end Go.Proofs.YtplaohmdllindaaGreatDoor

/- lex.Bare at a text without quotes: up to the first sign. -/
namespace Go.Proofs.YtplaohmdllindaaGreatDoor
open Go.RowKit

def bsL (mark : Bool) : List UInt8 := if mark then [123, 125, 35] else [123, 125]
def bsS (mark : Bool) : ByteArray := if mark then ⟨#[123, 125, 35]⟩ else ⟨#[123, 125]⟩
theorem bsS_list (mark : Bool) : (bsS mark).data.toList = bsL mark := by cases mark <;> rfl
def bsB (mark : Bool) (c : UInt8) : Bool := (bsL mark).contains c
theorem signs_g (mark : Bool) (w : World) : Calls Tryz.prog 128 #[.bool mark] w fun e w' => e = .returned (.string (bsS mark)) ∧ w' = w := by
  cases mark
  · exact signs_plain w
  · go_enter Tryz.func128, Tryz.ntmps128
    go_wp2_with fail
    go_ret
    exact ⟨rfl, rfl⟩
def signAt (s : ByteArray) (mark : Bool) (i : Nat) : Bool := match s.data.toList[i]? with | some c => bsB mark c | none => false
theorem byte_at (s : ByteArray) (i : Nat) (h : i < s.size) : s.data.toList[i]? = some s[i] := by
  rw [List.getElem?_eq_getElem (by simpa using h)]
  rfl
theorem byte_backQ (c : UInt8) : ((c.toNat : Int).toNat).toUInt8 = c := by simp
set_option maxHeartbeats 1000000 in
theorem sign_g (a b i : Nat) (s : ByteArray) (mark : Bool) (w : World) (h0 : w.cell? ⟨a, 0, none⟩ = some (.string s)) (h1 : w.cell? ⟨b, 0, none⟩ = some (.bool mark)) (hi : i ≤ 1000000000000) :
    Calls Tryz.prog 126 #[.int .i64 i, .pointer (some ⟨a, 0, none⟩), .pointer (some ⟨b, 0, none⟩)] w fun e w' => e = .returned (.bool (signAt s mark i)) ∧ ∃ n, w' = w.drewN n := by
  by_cases hlt : i < s.size
  · obtain ⟨c, hc⟩ : ∃ c, c = s[i] := ⟨_, rfl⟩
    have hat : signAt s mark i = bsB mark c := by unfold signAt; rw [byte_at s i hlt, hc]
    have hI : ∀ W : World, Calls Tryz.prog 127 #[.string (bsS mark), .int .u8 (c.toNat : Int)] W fun e w' => e = .returned (.int .i64 (Lib.indexByte (bsL mark) c)) ∧ W = w' := fun W =>
      (Tryz.strings_IndexByte (bsS mark) (c.toNat : Int) W).mono fun e w' h => by
        rw [byte_backQ, bsS_list] at h
        exact ⟨h.1, h.2.symm⟩
    have HI := Lib.hid hI
    have HG := Lib.hid (fun W => (signs_g mark W).mono fun _ _ h => (⟨h.1, h.2.symm⟩ : _ ∧ W = _))
    have hsg : bsB mark c = decide (0 ≤ Lib.indexByte (bsL mark) c) := Lib.contains_iff_indexByte _ _
    rw [hat, hsg]
    have i1 : (i : Int) < (s.size : Int) := by omega
    have i0 : (0 : Int) ≤ (i : Int) := by omega
    have hcs : s[i] = c := hc.symm
    clear hat hsg hI hc
    generalize Lib.indexByte (bsL mark) c = ix at *
    generalize bsS mark = sg at *
    by_cases hx : 0 ≤ ix
    all_goals (
      go_enter Tryz.func126, Tryz.ntmps126
      go_wp2_with fail
      go_quiet (first
        | (go_at_call 128; (first | exact Calls.quiet_add_left (HG.out _) | exact Calls.quiet_left (HG.out _)))
        | (go_at_call 127; (first | exact Calls.quiet_add_left (HI.out _) | exact Calls.quiet_left (HI.out _))))
      go_wp2_with fail
      go_ret
      exact ⟨by simp [hx], _, rfl⟩)
  · have hat : signAt s mark i = false := by
      unfold signAt
      rw [List.getElem?_eq_none (by simpa using hlt)]
    rw [hat]
    have i1 : ¬ (i : Int) < (s.size : Int) := by omega
    clear hat
    go_enter Tryz.func126, Tryz.ntmps126
    go_wp2_with fail
    go_quiet (fail)
    go_wp2_with fail
    go_ret
    exact ⟨rfl, _, rfl⟩
theorem carryB {B : Nat} {W w1 : World} {b o : Nat} {v : Value} (hb : Below B W w1) (h : W.cell? ⟨b, o, none⟩ = some v) (hl : b < B) : w1.cell? ⟨b, o, none⟩ = some v := by
  rw [← h]
  simp only [World.cell?, hb.block b hl]
theorem ext_drop (s : ByteArray) (j : Nat) : (s.extract j s.size).data.toList = s.data.toList.drop j := by
  rw [ByteArray.data_extract, Array.toList_extract]
  have : s.size = s.data.toList.length := by simp
  rw [this]
  unfold List.extract
  rw [List.take_of_length_le (by rw [List.length_drop]; exact Nat.le_refl _)]
abbrev SU (B : Nat) (W3 W : World) : Prop := Hid (Below B W3 W)
/-- no quote, no sign ahead of place k -/
def BareTo (s : ByteArray) (mark : Bool) (k : Nat) : Prop := k ≤ s.size ∧ (∀ j, j < k → ∃ c, s.data.toList[j]? = some c ∧ bsB mark c = false ∧ c ≠ 39) ∧ (k = s.size ∨ signAt s mark k = true)
set_option maxHeartbeats 4000000 in
theorem bare_g (s : ByteArray) (mark : Bool) (k : Nat) (w : World) (hk : BareTo s mark k) (hs : s.size ≤ 1000000000) :
    Calls Tryz.prog 67 #[.string s, .bool mark] w fun e w' => e = .returned (.tuple #[.string ⟨(s.data.toList.take k).toArray⟩, .int .i64 k, .nilIface]) ∧ Below w.heap.size w w' := by
  obtain ⟨hk1, hk2, hk3⟩ := hk
  have hmf : ∀ (fn : Fn) (first cap : Array Value) (w : World), (Instr.makeFunc fn first cap).run Tryz.prog w = .ok (.func fn first cap) w := fun _ _ _ _ => rfl
  have hcf : ∀ (args : Array Value) (w : World), (callFunc 126 args).run Tryz.prog w = .ok (.enter 126 args) w := enters_of Tryz.func126 (by kernel_rfl) rfl
  have hB := Lib.fresh_isBuilder 95 5 ((w.alloc (.cells #[.string s] 9)).alloc (.cells #[.bool mark] 4))
  have hw : Below w.heap.size w (((w.alloc (.cells #[.string s] 9)).alloc (.cells #[.bool mark] 4)).alloc (.cells #[.pointer none, .slice none 0 0] 95)) := belx
  have f0 : (((w.alloc (.cells #[.string s] 9)).alloc (.cells #[.bool mark] 4)).alloc (.cells #[.pointer none, .slice none 0 0] 95)).cell? ⟨w.heap.size, 0, none⟩ = some (.string s) := by go_simp
  have f1 : (((w.alloc (.cells #[.string s] 9)).alloc (.cells #[.bool mark] 4)).alloc (.cells #[.pointer none, .slice none 0 0] 95)).cell? ⟨w.heap.size + 1, 0, none⟩ = some (.bool mark) := by go_simp
  have hs3 : (((w.alloc (.cells #[.string s] 9)).alloc (.cells #[.bool mark] 4)).alloc (.cells #[.pointer none, .slice none 0 0] 95)).heap.size = w.heap.size + 3 := by simp
  have hs2 : ((w.alloc (.cells #[.string s] 9)).alloc (.cells #[.bool mark] 4)).heap.size = w.heap.size + 1 + 1 := by simp
  rw [hs2] at hB
  obtain ⟨W3, hW⟩ : ∃ W3, W3 = ((w.alloc (.cells #[.string s] 9)).alloc (.cells #[.bool mark] 4)).alloc (.cells #[.pointer none, .slice none 0 0] 95) := ⟨_, rfl⟩
  rw [← hW] at hB hw f0 f1 hs3
  have HW := Lib.hid hW
  have HB := Lib.hid (Lib.IsBuilderF.of hB)
  have HS := Lib.hid hs3
  have HWB := Lib.hid hw
  have HK2 := Lib.hid hk2
  have HK3 := Lib.hid hk3
  clear hB hW hs2 hw hs3 hk2 hk3
  go_enter Tryz.func67, Tryz.ntmps67
  go_wp2_with fail
  rw [← HW.out]
  have F0 := Lib.hid f0
  go_loopw [9] (fun i wr => ∃ j : Nat, j ≤ k ∧ i = .int .i64 j ∧ Hid (Lib.IsBuilderF 95 5 (w.heap.size + 1 + 1) (w.heap.size + 1 + 1) (Lib.byteCells (s.data.toList.take j)) wr ∧ Below (w.heap.size + 1 + 1) W3 wr)) (fun i _ => k - (intOf i).toNat)
  case atStart => exact ⟨0, Nat.zero_le _, rfl, Lib.hid ⟨by rw [List.take_zero]; exact HB.out, Below.refl _ _⟩⟩
  case round =>
    obtain ⟨j, hj, rfl, HX⟩ := hrel
    have f0 := carryB HX.out.2 f0 (by omega)
    have f1 := carryB HX.out.2 f1 (by omega)
    have i0 : (0 : Int) ≤ (j : Int) := by omega
    have HBW : Hid (Below w.heap.size w wr) := Lib.hid (HWB.out.trans (HX.out.2.mono (by omega)))
    have hsz : w.heap.size + 1 + 1 < wr.heap.size := by have := HX.out.2.size; have := HS.out; omega
    have lf := lt_of_cell f0
    have lf1 := lt_of_cell f1
    have HSA := Lib.hid (sign_g w.heap.size (w.heap.size + 1) j s mark wr f0 f1 (by omega))
    by_cases hlt : j < k
    · obtain ⟨c, hc, hsg, hq⟩ := HK2.out j hlt
      have hjs : j < s.size := by omega
      have hsj : s[j] = c := by
        have := byte_at s j hjs
        rw [hc] at this
        injection this with this
        exact this.symm
      have hat : signAt s mark j = false := by unfold signAt; rw [hc]; exact hsg
      rw [hat] at HSA
      have i1 : (j : Int) < (s.size : Int) := by omega
      have i2 : (j : Int) ≤ (s.size : Int) := by omega
      have hqi : ¬ (c.toNat : Int) = 39 := fun e => hq (by
        have : c.toNat = 39 := by omega
        exact UInt8.toNat_inj.1 this)
      have e1 : IntKind.i64.wrap ((j : Int) + 1) = ((j + 1 : Nat) : Int) := by rw [IntWalk.i64_in _ (by omega)]; omega
      have hnp : Lib.hasPrefix (s.extract j s.size).data.toList [39, 39] = false := by
        have hl : (s.extract j s.size).data.toList = s.data.toList.drop j := ext_drop s j
        have hd : s.data.toList.drop j = c :: s.data.toList.drop (j + 1) := by
          obtain ⟨h1, h2⟩ := List.getElem?_eq_some_iff.1 hc
          rw [List.drop_eq_getElem_cons h1, h2]
        rw [hl, hd]
        unfold Lib.hasPrefix
        show ((39 : UInt8) == c && _) = false
        rw [show ((39 : UInt8) == c) = false from beq_eq_false_iff_ne.2 (Ne.symm hq), Bool.false_and]
      have HP := Lib.hid (fun W => Tryz.strings_HasPrefix (s.extract j s.size) ⟨#[39, 39]⟩ W)
      have htk : s.data.toList.take (j + 1) = s.data.toList.take j ++ [c] := by rw [List.take_add_one, hc]; rfl
      have HTK := Lib.hid htk
      have hll : (s.data.toList.take j).length ≤ 1000000000 := by rw [List.length_take]; omega
      have HLL := Lib.hid hll
      have HNP := Lib.hid hnp
      clear hc hsg hq hat hnp htk hll
      go_wp2_with fail
      refine HSA.out.mono ?_
      rintro e w1 ⟨rfl, n, rfl⟩
      go_wp2_with fail
      refine (HP.out _).mono ?_
      rintro e w2 ⟨rfl, rfl⟩
      rw [HNP.out]
      have hB1 : Lib.IsBuilderF 95 5 (w.heap.size + 1 + 1) (w.heap.size + 1 + 1) (Lib.byteCells (s.data.toList.take j)) (wr.drewN n) := HX.out.1
      have KW := Lib.hid (Builder_WriteByte (w.heap.size + 1 + 1) (w.heap.size + 1 + 1) _ (c.toNat : Int) (wr.drewN n) hB1 (by rw [Lib.byteCells_length]; have := HLL.out; omega) (by show w.heap.size + 1 + 1 ≤ wr.heap.size; omega))
      clear hB1
      go_wp2_with fail
      refine KW.out.mono ?_
      rintro e w3 ⟨rfl, hB3, hb3, _⟩
      have HB3 : Hid (Lib.IsBuilderF 95 5 (w.heap.size + 1 + 1) (w.heap.size + 1 + 1) (Lib.byteCells (s.data.toList.take (j + 1))) w3 ∧ Below (w.heap.size + 1 + 1) W3 w3) := Lib.hid ⟨by
        rw [HTK.out, Lib.byteCells_append, show Lib.byteCells [c] = [.int .u8 c.toNat] from rfl]
        exact Or.inr hB3, Below.trans (bel_drewN n HX.out.2) hb3⟩
      clear hB3 hb3
      go_wp2_with fail
      exact ⟨⟨j + 1, hlt, by congr 1, HB3⟩, by simp only [intOf]; omega⟩
    · obtain rfl : j = k := by omega
      rcases HK3.out with hk | hk
      · have i1 : ¬ (j : Int) < (s.size : Int) := by omega
        have hB1 : Lib.IsBuilderF 95 5 (w.heap.size + 1 + 1) (w.heap.size + 1 + 1) (Lib.byteCells (s.data.toList.take j)) wr := HX.out.1
        clear HSA
        have hB2 : Lib.IsBuilderF 95 5 (w.heap.size + 1 + 1) (w.heap.size + 1 + 1) (Lib.byteCells (s.data.toList.take j)) wr.drew := hB1
        have KS := Lib.hid (Tryz.Builder_String_any_k (w.heap.size + 1 + 1) (w.heap.size + 1 + 1) _ wr.drew hB2 (by show w.heap.size + 1 + 1 ≤ wr.heap.size; omega))
        have HB0 : Hid (Below (w.heap.size + 1 + 1) W3 wr.drew) := Lib.hid (HX.out.2.drew)
        clear hB1 hB2
        go_upto_region 18 with fail
        refine wp_region_held_drew (S := SU (w.heap.size + 1 + 1) W3) (by kernel_rfl) ?_ (fun hHeld => ?_)
        · exact HB0
        refine wpAnyH_take (i := 1) (v := ?v1) rfl (by kernel_rfl) (by kernel_rfl) (by kernel_rfl) (fun _ _ _ h => h) (Or.inl ⟨rfl, ?hy1⟩) hHeld ?rest1
        case hy1 => (intro w8 hSw; have p0 := carryB hSw.out F0.out (by omega); clear hSw; go_simp; try with_reducible rfl)
        try simp only [Act.put, List.setIfInBounds_toArray, List.set_cons_zero, List.set_cons_succ, List.getElem_toArray, List.getElem_cons_zero, List.getElem_cons_succ]
        refine wpAnyH_take (i := 2) (v := ?v2) rfl (by kernel_rfl) (by kernel_rfl) (by kernel_rfl) (fun _ _ _ h => h) (Or.inl ⟨rfl, ?hy2⟩) hHeld ?rest2
        case hy2 => (intro w8 hSw; clear hSw; go_simp; try with_reducible rfl)
        try simp only [Act.put, List.setIfInBounds_toArray, List.set_cons_zero, List.set_cons_succ, List.getElem_toArray, List.getElem_cons_zero, List.getElem_cons_succ]
        refine wpAnyH_ready (rs := [0]) (by kernel_rfl) (by simp) (AllReadyH.cons rfl (fun K hK => ?_) (AllReadyH.nil))
        clear hHeld
        go_simp
        go_at_call 30
        refine KS.out.mono ?_
        rintro e w2 ⟨rfl, _, hb2, _⟩
        have hNew : SU (w.heap.size + 1 + 1) W3 w2 := Lib.hid (HB0.out.trans hb2)
        try dsimp only
        refine hK.out _ _ hNew (fun _ => ?_)
        have hHeld := hNew
        have HB2 := Lib.hid (HWB.out.trans (hNew.out.mono (by omega)))
        clear hK K hNew hb2
        try simp only [Act.put, List.setIfInBounds_toArray, List.set_cons_zero, List.set_cons_succ, List.getElem_toArray, List.getElem_cons_zero, List.getElem_cons_succ]
        refine wpAnyH_take (i := 3) (v := ?v3) rfl (by kernel_rfl) (by kernel_rfl) (by kernel_rfl) (fun _ _ _ h => h) (Or.inl ⟨rfl, ?hy3⟩) hHeld ?rest3
        case hy3 => (intro w8 hSw; clear hSw; go_simp; try with_reducible rfl)
        try simp only [Act.put, List.setIfInBounds_toArray, List.set_cons_zero, List.set_cons_succ, List.getElem_toArray, List.getElem_cons_zero, List.getElem_cons_succ]
        refine wpAnyH_take (i := 4) (v := ?v4) rfl (by kernel_rfl) (by kernel_rfl) (by kernel_rfl) (fun _ _ _ h => h) (Or.inl ⟨rfl, ?hy4⟩) hHeld ?rest4
        case hy4 => (intro w8 hSw; clear hSw; go_simp; try with_reducible rfl)
        try simp only [Act.put, List.setIfInBounds_toArray, List.set_cons_zero, List.set_cons_succ, List.getElem_toArray, List.getElem_cons_zero, List.getElem_cons_succ]
        refine wpAnyH_take (i := 5) (v := ?v5) rfl (by kernel_rfl) (by kernel_rfl) (by kernel_rfl) (fun _ _ _ h => h) (Or.inl ⟨rfl, ?hy5⟩) hHeld ?rest5
        case hy5 => (intro w8 hSw; clear hSw; go_simp; try with_reducible rfl)
        try simp only [Act.put, List.setIfInBounds_toArray, List.set_cons_zero, List.set_cons_succ, List.getElem_toArray, List.getElem_cons_zero, List.getElem_cons_succ]
        refine wpAnyH_done (by kernel_rfl) ?_ _
        try dsimp only
        go_wp2_with fail
        go_ret3
        exact ⟨by first | rfl | (simp only [hk]; rfl), HB2.out⟩
      · have i1 : (j : Int) < (s.size : Int) := by
          unfold signAt at hk
          by_cases h : j < s.size
          · omega
          · rw [List.getElem?_eq_none (by simpa using h)] at hk
            cases hk
        rw [hk] at HSA
        have HBR := Lib.hid HBW.out
        go_wp2_with fail
        refine HSA.out.mono ?_
        rintro e w1 ⟨rfl, n, rfl⟩
        have hB1 : Lib.IsBuilderF 95 5 (w.heap.size + 1 + 1) (w.heap.size + 1 + 1) (Lib.byteCells (s.data.toList.take j)) (wr.drewN n) := HX.out.1
        have KS := Lib.hid (Tryz.Builder_String_any_k (w.heap.size + 1 + 1) (w.heap.size + 1 + 1) _ (wr.drewN n) hB1 (by show w.heap.size + 1 + 1 ≤ wr.heap.size; omega))
        clear hB1
        go_wp2_with fail
        refine KS.out.mono ?_
        rintro e w2 ⟨rfl, _, hb2, _⟩
        have HB2 := Lib.hid (Below.trans (bel_drewN n HBW.out) (hb2.mono (by omega)))
        clear hb2
        go_wp2_with fail
        go_ret3
        exact ⟨rfl, HB2.out⟩
end Go.Proofs.YtplaohmdllindaaGreatDoor

/- msg.reader's cut, word, arg at "{a}". -/
namespace Go.Proofs.YtplaohmdllindaaGreatDoor
open Go.RowKit

theorem cut_no (r : Nat) (s p : ByteArray) (w : World) (h0 : w.cell? ⟨r, 0, none⟩ = some (.string s)) (h1 : Lib.hasPrefix s.data.toList p.data.toList = false) :
    Calls Tryz.prog 68 #[.pointer (some ⟨r, 0, none⟩), .string p] w fun e w' => e = .returned (.bool false) ∧ w' = w := by
  have H1 := Lib.hid h1
  clear h1
  go_enter Tryz.func68, Tryz.ntmps68
  go_wp2_with fail
  refine (Tryz.strings_CutPrefix s p _).mono ?_
  rintro e w1 ⟨rfl, rfl⟩
  rw [H1.out]
  go_wp2_with fail
  go_ret
  exact ⟨rfl, rfl⟩

/-- the reader of a text -/
def RdAt (w : World) (r : Nat) (s : ByteArray) (d : Int) : Prop := w.cell? ⟨r, 0, none⟩ = some (.string s) ∧ w.cell? ⟨r, 1, none⟩ = some (.int .i64 d) ∧ w.frozen? ⟨r, 0, none⟩ = false ∧ w.frozen? ⟨r, 1, none⟩ = false
theorem RdAt.below {w w' : World} {r : Nat} {s : ByteArray} {d : Int} (h : RdAt w r s d) (hb : Below w.heap.size w w') : RdAt w' r s d :=
  ⟨carry hb h.1, carry hb h.2.1, carryF hb (lt_of_cell h.1) h.2.2.1, carryF hb (lt_of_cell h.1) h.2.2.2⟩
theorem RdAt.set {w : World} {r : Nat} {s : ByteArray} {d : Int} (h : RdAt w r s d) (t : ByteArray) : RdAt (w.setCell ⟨r, 0, none⟩ (.string t)) r t d :=
  ⟨cell_same h.1, cell_other h.2.1 (by simp), by rw [World.frozen?_setCell]; exact h.2.2.1, by rw [World.frozen?_setCell]; exact h.2.2.2⟩
end Go.Proofs.YtplaohmdllindaaGreatDoor

/- msg.reader: word, need at any text. -/
namespace Go.Proofs.YtplaohmdllindaaGreatDoor
open Go.RowKit

end Go.Proofs.YtplaohmdllindaaGreatDoor
