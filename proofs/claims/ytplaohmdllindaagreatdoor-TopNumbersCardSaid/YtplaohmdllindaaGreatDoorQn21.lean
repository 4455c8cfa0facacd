/- RuleParsed, RuleParsed2: texts put together. -/
import Derived.Test.YtplaohmdllindaaGreatDoorQn4
import Derived.Test.YtplaohmdllindaaGreatDoorQn20
import Derived.Test.YtplaohmdllindaaGreatDoorQn12
import Derived.Deep.DeepCutAuto
import Derived.Test.YtplaohmdllindaaGreatDoorQn1
set_option linter.unusedVariables false
set_option linter.unusedSimpArgs false
/- rule.parsed. -/
namespace Go.Proofs.YtplaohmdllindaaGreatDoor
open Go.RowKit Go.Shelf
attribute [local go_sem] Oper.semAt_some

def cutA (s sep : ByteArray) : ByteArray := ⟨(Lib.cut s.data.toList sep.data.toList).1.toArray⟩
def cutZ (s sep : ByteArray) : ByteArray := ⟨(Lib.cut s.data.toList sep.data.toList).2.1.toArray⟩
def cutI (s sep : ByteArray) : Bool := (Lib.cut s.data.toList sep.data.toList).2.2
def eqS : ByteArray := ⟨#[32, 61, 32]⟩
def neS : ByteArray := ⟨#[32, 33, 61, 32]⟩
def pctS : ByteArray := ⟨#[32, 37, 32]⟩
def dotS : ByteArray := ⟨#[46, 46]⟩
def comS : ByteArray := ⟨#[44]⟩
theorem cut_sizes (s sep : ByteArray) : (cutA s sep).size ≤ s.size ∧ (cutZ s sep).size ≤ s.size := by
  have h : (Lib.cut s.data.toList sep.data.toList).1.length ≤ s.size ∧ (Lib.cut s.data.toList sep.data.toList).2.1.length ≤ s.size := by
    unfold Lib.cut
    split
    · simp
      omega
    · simp
  refine ⟨?_, ?_⟩
  · show (Lib.cut s.data.toList sep.data.toList).1.toArray.size ≤ _
    simpa using h.1
  · show (Lib.cut s.data.toList sep.data.toList).2.1.toArray.size ≤ _
    simpa using h.2
def rangeB (w : ByteArray) : Int × Int := if cutI w dotS then (numberB (cutA w dotS), numberB (cutZ w dotS)) else (numberB (cutA w dotS), numberB (cutA w dotS))
def headB' (s : ByteArray) : ByteArray := if cutI s eqS then cutA s eqS else cutA s neS
def tailB (s : ByteArray) : ByteArray := if cutI s eqS then cutZ s eqS else cutZ s neS
def opB (h : ByteArray) : UInt8 := if (cutA h pctS).size = 1 then (cutA h pctS).data[0]! else 0
def mdB (h : ByteArray) : Int := if cutI h pctS then numberB (cutZ h pctS) else 0
def parsedB (s : ByteArray) : RelC := { op := opB (headB' s), md := mdB (headB' s), neg := !cutI s eqS, rs := (pieces comS (tailB s)).map rangeB }

/-- a cut, as the walk meets it -/
theorem cut_any (s sep : ByteArray) (w : World) (hs : s.size < 4294967281) (hM : MaxL w) :
    Calls Tryz.prog 34 #[.string s, .string sep] w fun e w' => e = .returned (.tuple #[.string (cutA s sep), .string (cutZ s sep), .bool (cutI s sep)]) ∧ Below w.heap.size w w' := by
  obtain ⟨m, hm⟩ := hM
  refine (Tryz.strings_Cut s sep m w hs hm).mono ?_
  rintro e w' ⟨rfl, n, rfl⟩
  exact ⟨rfl, bel_drewN _ (Below.refl _ _)⟩
set_option maxHeartbeats 1000000 in
theorem split_seq (s sep : ByteArray) (w : World) :
    Calls Tryz.prog 57 #[.string s, .string sep] w fun e w' => e = .returned (.func (.func 180) #[] #[.pointer (some ⟨w.heap.size + 1, 0, none⟩), .pointer (some ⟨w.heap.size, 0, none⟩), .pointer (some ⟨w.heap.size + 2, 0, none⟩)]) ∧ w' = ((w.alloc (.cells #[.string s] 9)).alloc (.cells #[.string sep] 9)).alloc (.cells #[.int .i64 0] 3) := by
  have K : Calls Tryz.prog 115 #[.string s, .string sep, .int .i64 0] w fun e w' => e = .returned (.func (.func 180) #[] #[.pointer (some ⟨w.heap.size + 1, 0, none⟩), .pointer (some ⟨w.heap.size, 0, none⟩), .pointer (some ⟨w.heap.size + 2, 0, none⟩)]) ∧ w' = ((w.alloc (.cells #[.string s] 9)).alloc (.cells #[.string sep] 9)).alloc (.cells #[.int .i64 0] 3) := by
    go_enter Tryz.func115, Tryz.ntmps115
    go_wp2_with fail
    go_ret
    exact ⟨rfl, rfl⟩
  have HK := Lib.hid K
  clear K
  go_enter Tryz.func57, Tryz.ntmps57
  go_wp2_with fail
  refine HK.out.mono ?_
  rintro e w' ⟨rfl, rfl⟩
  go_wp2_with fail
  go_ret
  exact ⟨rfl, rfl⟩
end Go.Proofs.YtplaohmdllindaaGreatDoor

/- rule.parsed: the walk. -/
namespace Go.Proofs.YtplaohmdllindaaGreatDoor
open Go.RowKit Go.Shelf
attribute [local go_sem] Oper.semAt_some

theorem one_byte {b : ByteArray} (h : b.size = 1) : ∃ c, b = ⟨#[c]⟩ := by
  obtain ⟨⟨l⟩⟩ := b
  match l, h with
  | [c], _ => exact ⟨c, rfl⟩
/-- A rel's box. -/
def RelBox (W : World) (b : Nat) (op : UInt8) (md : Int) (neg : Bool) (v : Value) : Prop := W.heap[b]? = some (.cells #[.int .u8 op.toNat, .int .i64 md, .bool neg, v] 141 (0, 0))
theorem RelBox.cells {W : World} {b : Nat} {op : UInt8} {md : Int} {neg : Bool} {v : Value} (h : RelBox W b op md neg v) :
    W.cell? ⟨b, 0, none⟩ = some (.int .u8 op.toNat) ∧ W.cell? ⟨b, 1, none⟩ = some (.int .i64 md) ∧ W.cell? ⟨b, 2, none⟩ = some (.bool neg) ∧ W.cell? ⟨b, 3, none⟩ = some v := by
  have h' : W.heap[b]? = some (.cells #[.int .u8 op.toNat, .int .i64 md, .bool neg, v] 141 (0, 0)) := h
  refine ⟨?_, ?_, ?_, ?_⟩ <;> simp [World.cell?, h']
theorem RelBox.free {W : World} {b : Nat} {op : UInt8} {md : Int} {neg : Bool} {v : Value} (h : RelBox W b op md neg v) (i : Nat) : W.frozen? ⟨b, i, none⟩ = false := by
  have h' : W.heap[b]? = some (.cells #[.int .u8 op.toNat, .int .i64 md, .bool neg, v] 141 (0, 0)) := h
  simp [World.frozen?, h']
theorem RelBox.lt {W : World} {b : Nat} {op : UInt8} {md : Int} {neg : Bool} {v : Value} (h : RelBox W b op md neg v) : b < W.heap.size := (Array.getElem?_eq_some_iff.1 h).1
theorem set_block {W : World} {b i : Nat} {cs : Array Value} {t : TypeId} {u : Value} (h : W.heap[b]? = some (.cells cs t (0, 0))) : (W.setCell ⟨b, i, none⟩ u).heap[b]? = some (.cells (cs.setIfInBounds i u) t (0, 0)) := by
  obtain ⟨hlt, hk⟩ := Array.getElem?_eq_some_iff.1 h
  show (W.heap.modify b _)[b]? = _
  rw [Array.getElem?_eq_getElem (by rw [Array.size_modify]; exact hlt), Array.getElem_modify_self, hk]
  rfl
theorem RelBox.setOp {W : World} {b : Nat} {op : UInt8} {md : Int} {neg : Bool} {v : Value} (h : RelBox W b op md neg v) (c : UInt8) : RelBox (W.setCell ⟨b, 0, none⟩ (.int .u8 c.toNat)) b c md neg v := set_block h
theorem RelBox.setMd {W : World} {b : Nat} {op : UInt8} {md : Int} {neg : Bool} {v : Value} (h : RelBox W b op md neg v) (c : Int) : RelBox (W.setCell ⟨b, 1, none⟩ (.int .i64 c)) b op c neg v := set_block h
theorem RelBox.setNeg {W : World} {b : Nat} {op : UInt8} {md : Int} {neg : Bool} {v : Value} (h : RelBox W b op md neg v) (c : Bool) : RelBox (W.setCell ⟨b, 2, none⟩ (.bool c)) b op md c v := set_block h
theorem RelBox.setRs {W : World} {b : Nat} {op : UInt8} {md : Int} {neg : Bool} {v : Value} (h : RelBox W b op md neg v) (c : Value) : RelBox (W.setCell ⟨b, 3, none⟩ c) b op md neg c := set_block h
theorem RelBox.below {W W' : World} {b : Nat} {op : UInt8} {md : Int} {neg : Bool} {v : Value} (h : RelBox W b op md neg v) (hb : Below W.heap.size W W') : RelBox W' b op md neg v := (hb.block b h.lt).trans h
theorem RelBox.other {W : World} {b b' i : Nat} {op : UInt8} {md : Int} {neg : Bool} {v u : Value} (h : RelBox W b op md neg v) (hne : b ≠ b') : RelBox (W.setCell ⟨b', i, none⟩ u) b op md neg v := (Below.heap_setCell W ⟨b', i, none⟩ u b hne).trans h

/-- Both boxes of parsed: the result's, and r's. -/
def PB (w W : World) (b : Nat) (op : UInt8) (md : Int) (neg : Bool) (v : Value) : Prop := RelBox W w.heap.size 0 0 false (.slice none 0 0) ∧ RelBox W b op md neg v ∧ Below w.heap.size w W ∧ w.heap.size < b
theorem PB.below {w W W' : World} {b : Nat} {op : UInt8} {md : Int} {neg : Bool} {v : Value} (h : PB w W b op md neg v) (hb : Below W.heap.size W W') : PB w W' b op md neg v :=
  ⟨h.1.below hb, h.2.1.below hb, h.2.2.1.trans (hb.mono h.2.2.1.size), h.2.2.2⟩
theorem PB.set {w W : World} {b i : Nat} {op op' : UInt8} {md md' : Int} {neg neg' : Bool} {v v' u : Value} (h : PB w W b op md neg v) (h' : RelBox (W.setCell ⟨b, i, none⟩ u) b op' md' neg' v') : PB w (W.setCell ⟨b, i, none⟩ u) b op' md' neg' v' :=
  ⟨h.1.other (by have := h.2.2.2; omega), h', h.2.2.1.setCell (by have := h.2.2.2; show w.heap.size ≤ b; omega) _, h.2.2.2⟩

def kRng : Kind (Int × Int) where
  e := 225
  sl := 139
  size := 2
  bytes := 16
  cells := fun p => [.int .i64 p.1, .int .i64 p.2]
  zero := .agg #[.int .i64 0, .int .i64 0]
  hsl := Tryz.underlying139
  hi := by
    have h : (Tryz.prog.info? 225).map (fun i => (i.zero, i.size, i.bytes)) = some (some (.agg #[.int .i64 0, .int .i64 0]), 2, 16) := by kernel_rfl
    obtain ⟨i, hi, h2⟩ := Option.map_eq_some_iff.1 h
    simp only [Prod.mk.injEq] at h2
    exact ⟨i, hi, h2.1, h2.2.1, h2.2.2⟩
  hzs := rfl
  hpos := by decide
  hlen := fun _ => rfl
  hone := fun t u hu => by simp at hu; rcases hu with rfl | rfl <;> rfl

/-- The loop's invariant. -/
def PI (w : World) (b B : Nat) (opc : UInt8) (md : Int) (neg : Bool) (pre : List ByteArray) (W : World) : Prop :=
  ∃ (A : Option Addr) (n : Nat), RelBox W b opc md neg (.slice A (pre.map rangeB).length n) ∧ OwnsG kRng W B (.slice A (pre.map rangeB).length n) (pre.map rangeB) ∧ RelBox W w.heap.size 0 0 false (.slice none 0 0) ∧ Below w.heap.size w W

theorem new_cell (w : World) (cs : Array Value) (t : TypeId) (i : Nat) : (w.alloc (.cells cs t)).cell? ⟨w.heap.size, i, none⟩ = cs[i]? := by
  have := World.alloc_heap_new w (.cells cs t)
  simp only [World.cell?, this]
  rfl
theorem RelBox.off {W W' : World} {b : Nat} {op : UInt8} {md : Int} {neg : Bool} {v : Value} (h : RelBox W b op md neg v) {L : List Nat} (hb : Off L W W') (hl : b ∉ L) : RelBox W' b op md neg v := (hb.block b h.lt hl).trans h
theorem put_other (W : World) {D k : Nat} (o : Obj) (h : k ≠ D) : (W.putObj D o).heap[k]? = W.heap[k]? := by
  show (W.heap.setIfInBounds D o)[k]? = _
  rw [Array.getElem?_setIfInBounds_ne (Ne.symm h)]
theorem keep_eq {B B' : Nat} {L : List Nat} {W W' : World} (h : Keep B L W W') (e : B' = B) : Keep B' L W W' := e ▸ h
/-- the world behind a turn of the loop -/
theorem pi_end {w W2 W3 W4 : World} {b B : Nat} {opc : UInt8} {md : Int} {neg : Bool} {A : Option Addr} {n : Nat} {pre : List ByteArray} {x : ByteArray} {v' : Value}
    (g : RelBox W2 b opc md neg (.slice A (pre.map rangeB).length n) ∧ OwnsG kRng W2 B (.slice A (pre.map rangeB).length n) (pre.map rangeB) ∧ RelBox W2 w.heap.size 0 0 false (.slice none 0 0) ∧ Below w.heap.size w W2)
    (hwb : w.heap.size < b) (hbB : b < B) (hBW : B ≤ W2.heap.size) (h3 : Below W2.heap.size W2 W3) (h4 : OwnsG kRng W4 B v' (pre.map rangeB ++ [rangeB x])) (h5 : Off (Value.slice A (pre.map rangeB).length n).ownBlock.toList W3 W4) :
    RelBox W4 b opc md neg (.slice A (pre.map rangeB).length n) ∧ Keep B [b] W2 (W4.setCell ⟨b, 3, none⟩ v') ∧ PI w b B opc md neg (pre ++ [x]) (W4.setCell ⟨b, 3, none⟩ v') := by
  obtain ⟨g1, g2, g3, g4⟩ := g
  have hblk := g2.block
  have hb1 : b ∉ (Value.slice A (pre.map rangeB).length n).ownBlock.toList := fun h => by have := (hblk b h).1; omega
  have hw1 : w.heap.size ∉ (Value.slice A (pre.map rangeB).length n).ownBlock.toList := fun h => by have := (hblk _ h).1; omega
  have r1 := (g1.below h3).off h5 hb1
  have hB4 : Below w.heap.size w W4 := Below.trans (g4.trans (h3.mono g4.size)) (h5.toBelow (fun k hk => by have := (hblk k hk).1; omega) (by have := g4.size; have := h3.size; omega))
  refine ⟨r1, ?_, ?_⟩
  · refine Keep.set ?_ b 3 v' (by simp)
    refine Keep.row ((Keep.refl B [b] W2).below h3 (Nat.le_refl _)) h5 (fun k hk _ => ?_)
    obtain ⟨h1, cur, h2⟩ := hblk k hk
    exact ⟨h1, fun o ho => by rw [h2] at ho; cases ho; rfl⟩
  · obtain ⟨A', c, rfl, _⟩ := h4.form
    refine ⟨A', c, ?_, ?_, ?_, ?_⟩
    · have := r1.setRs (.slice A' (pre.map rangeB ++ [rangeB x]).length c)
      rw [List.map_append, List.map_cons, List.map_nil]
      exact this
    · rw [List.map_append, List.map_cons, List.map_nil]
      refine h4.kept (fun g cur hg _ => Below.heap_setCell W4 ⟨b, 3, none⟩ _ g (fun e => ?_))
      have := (h4.block g (by rw [hg]; simp)).1
      simp at e
      omega
    · exact ((g3.below h3).off h5 hw1).other (by omega)
    · exact hB4.setCell (by show w.heap.size ≤ b; omega) _

set_option maxHeartbeats 8000000 in
theorem rule_parsed (s : ByteArray) (w : World) (hE : RuleEnv w) (hs : s.size < 4294967281) :
    Calls Tryz.prog 58 #[.string s] w fun e w' => (∃ d : RelD, d.c = parsedB s ∧ e = .returned d.val ∧ OwnsG kRng w' w.heap.size (.slice d.A d.c.rs.length d.n) d.c.rs) ∧ Below w.heap.size w w' := by
  have hh : (headB' s).size ≤ s.size ∧ (tailB s).size ≤ s.size := by
    unfold headB' tailB
    split <;> exact ⟨(cut_sizes _ _).1, (cut_sizes _ _).2⟩
  have KE : Hid (∀ W, Below w.heap.size w W → Calls Tryz.prog 34 #[.string s, .string ⟨#[32, 61, 32]⟩] W fun e w' => e = .returned (.tuple #[.string (cutA s eqS), .string (cutZ s eqS), .bool (cutI s eqS)]) ∧ Below W.heap.size W w') := Lib.hid (fun W hb => cut_any s eqS W (by omega) (hE.below hb).maxl)
  have KN : Hid (∀ W, Below w.heap.size w W → Calls Tryz.prog 34 #[.string s, .string ⟨#[32, 33, 61, 32]⟩] W fun e w' => e = .returned (.tuple #[.string (cutA s neS), .string (cutZ s neS), .bool (cutI s neS)]) ∧ Below W.heap.size W w') := Lib.hid (fun W hb => cut_any s neS W (by omega) (hE.below hb).maxl)
  have KP : Hid (∀ W, Below w.heap.size w W → Calls Tryz.prog 34 #[.string (headB' s), .string ⟨#[32, 37, 32]⟩] W fun e w' => e = .returned (.tuple #[.string (cutA (headB' s) pctS), .string (cutZ (headB' s) pctS), .bool (cutI (headB' s) pctS)]) ∧ Below W.heap.size W w') := Lib.hid (fun W hb => cut_any (headB' s) pctS W (by omega) (hE.below hb).maxl)
  have HE := Lib.hid hE
  clear hE
  have HQ0 : Hid (∀ q, cutI s eqS = q → headB' s = (if q then cutA s eqS else cutA s neS) ∧ tailB s = (if q then cutZ s eqS else cutZ s neS)) := Lib.hid (fun q hq => by subst hq; exact ⟨rfl, rfl⟩)
  generalize hq : cutI s eqS = q at KE
  have HQ := Lib.hid (HQ0.out q hq)
  have Hq := Lib.hid hq
  clear hq HQ0
  refine (callsIn_wide (n := 9)).1 ?_
  refine callsIn_of_wp_marks Tryz.func58 rfl trivial ?_ rfl
  simp only [Tryz.ntmps58, List.size_toArray, List.length_cons, List.length_nil, Nat.reduceAdd, Nat.reduceSub, Array.replicate_succ, Array.replicate_zero, List.push_toArray, List.append_toArray, List.nil_append, List.cons_append]
  refine (wpIn_wide).2 ?_
  go_upto_if 21 with fail
  refine (KE.out _ belx).mono ?_
  rintro e w1 ⟨rfl, hb⟩
  have hbw : Below w.heap.size w w1 := belx
  have hr0 : RelBox w1 w.heap.size 0 0 false (.slice none 0 0) := RelBox.below (W := w.alloc (.cells #[.int .u8 0, .int .i64 0, .bool false, .slice none 0 0] 141)) (World.alloc_heap_new w _) hb
  have hs1 : w1.heap.size = w1.heap.size := rfl
  have z1 : w.heap.size < w1.heap.size := hr0.lt
  have HR0 := Lib.hid hr0
  have HBW := Lib.hid hbw
  clear hb hr0 hbw hs1
  go_upto_if 21 with fail
  go_cut [3, 4] from 22 to 28 (fun s3 s4 wx => s3 = .string (headB' s) ∧ s4 = .string (tailB s) ∧ Hid (PB w wx w1.heap.size 0 0 (!q) (.slice none 0 0)))
  case first =>
    have hP1 : PB w (w1.alloc (.cells #[.int .u8 0, .int .i64 0, .bool false, .slice none 0 0] 141)) w1.heap.size 0 0 false (.slice none 0 0) :=
      ⟨HR0.out.below ((Below.refl _ _).alloc (Nat.le_refl _) _), World.alloc_heap_new w1 _, HBW.out.alloc (by omega) _, z1⟩
    have HP1 := Lib.hid hP1
    clear hP1
    cases q
    · go_wp2_with fail
      refine (KN.out _ (HBW.out.alloc (by omega) _)).mono ?_
      rintro e w2 ⟨rfl, hb2⟩
      have HP2 := Lib.hid (HP1.out.below hb2)
      obtain ⟨c0, c1, c2, c3⟩ := HP2.out.2.1.cells
      have f2 := HP2.out.2.1.free 2
      have HP3 := Lib.hid (HP2.out.set (HP2.out.2.1.setNeg true))
      clear hb2 c0 c1 c3
      go_wp2_with fail
      go_meet
      exact ⟨by rw [HQ.out.1]; rfl, by rw [HQ.out.2]; rfl, HP3⟩
    · go_wp2_with fail
      go_meet
      exact ⟨by rw [HQ.out.1]; rfl, by rw [HQ.out.2]; rfl, HP1⟩
  case rest =>
    obtain ⟨rfl, rfl, HP⟩ := hcut
    have hh2 := cut_sizes (headB' s) pctS
    have KM : Hid (∀ W, Below w.heap.size w W → Calls Tryz.prog 116 #[.string (cutZ (headB' s) pctS)] W fun e w' => e = .returned (.int .i64 (numberB (cutZ (headB' s) pctS))) ∧ Below W.heap.size W w') := Lib.hid (fun W hb => rule_number _ W (HE.out.below hb) (by omega))
    obtain ⟨hd, hhd⟩ : ∃ hd, hd = headB' s := ⟨_, rfl⟩
    rw [← hhd] at KP KM hh hh2 ⊢
    clear KE KN HR0 HBW HQ
    generalize hT : tailB s = T at *
    have HT := Lib.hid hT
    have Hhd := Lib.hid hhd
    clear hT hhd
    generalize hdv : cutI hd pctS = dv at *
    have HDV := Lib.hid hdv
    generalize hCA : cutA hd pctS = CA at *
    have HCA := Lib.hid hCA
    generalize hCZ : cutZ hd pctS = CZ at *
    have HCZ := Lib.hid hCZ
    clear hdv hCA hCZ
    go_upto_if 37 with fail
    refine (KP.out _ HP.out.2.2.1).mono ?_
    rintro e w2 ⟨rfl, hb2⟩
    have HP2 := Lib.hid (HP.out.below hb2)
    clear hb2
    go_upto_if 37 with fail
    go_cut [] from 38 to 40 (fun wx => Hid (PB w wx w1.heap.size (opB hd) 0 (!q) (.slice none 0 0)))
    case first =>
      obtain ⟨c0, c1, c2, c3⟩ := HP2.out.2.1.cells
      have f0 := HP2.out.2.1.free 0
      by_cases h1 : CA.size = 1
      · obtain ⟨c, rfl⟩ := one_byte h1
        have ho : opB hd = c := by
          unfold opB
          rw [HCA.out]
          rfl
        have HP3 : Hid (PB w (w2.setCell ⟨w1.heap.size, 0, none⟩ (.int .u8 c.toNat)) w1.heap.size (opB hd) 0 (!q) (.slice none 0 0)) := Lib.hid (by rw [ho]; exact HP2.out.set (HP2.out.2.1.setOp c))
        clear h1 ho c1 c2 c3
        go_wp2_with fail
        go_meet
        exact HP3
      · have ho : opB hd = 0 := by
          unfold opB
          rw [HCA.out, if_neg h1]
        have HP3 : Hid (PB w w2 w1.heap.size (opB hd) 0 (!q) (.slice none 0 0)) := Lib.hid (by rw [ho]; exact HP2.out)
        have h2 : ((CA.size : Int) == 1) = false := by rw [beq_eq_false_iff_ne]; omega
        clear ho h1
        go_wp2_with fail
        go_meet
        exact HP3
    case rest =>
      clear HP HP2
      obtain ⟨opc, hopc⟩ : ∃ c, c = opB hd := ⟨_, rfl⟩
      rw [← hopc] at hcut
      have HOP := Lib.hid hopc
      clear hopc HCA
      go_upto_if 41 with fail
      go_cut [] from 42 to 44 (fun wx => Hid (PB w wx w1.heap.size opc (mdB hd) (!q) (.slice none 0 0)))
      case first =>
        cases dv
        · have hm : mdB hd = 0 := by unfold mdB; rw [HDV.out]; rfl
          have HP3 : Hid (PB w wc w1.heap.size opc (mdB hd) (!q) (.slice none 0 0)) := Lib.hid (by rw [hm]; exact hcut.out)
          clear hm
          go_wp2_with fail
          go_meet
          exact HP3
        · have hm : mdB hd = numberB CZ := by unfold mdB; rw [HDV.out, HCZ.out]; rfl
          go_wp2_with fail
          refine (KM.out _ hcut.out.2.2.1).mono ?_
          rintro e w3 ⟨rfl, hb3⟩
          have HP3 := Lib.hid (hcut.out.below hb3)
          obtain ⟨c0, c1, c2, c3⟩ := HP3.out.2.1.cells
          have f1 := HP3.out.2.1.free 1
          have HP4 : Hid (PB w (w3.setCell ⟨w1.heap.size, 1, none⟩ (.int .i64 (numberB CZ))) w1.heap.size opc (mdB hd) (!q) (.slice none 0 0)) := Lib.hid (by rw [hm]; exact HP3.out.set (HP3.out.2.1.setMd _))
          clear hb3 c0 c2 c3 hm
          go_wp2_with fail
          go_meet
          exact HP4
      case rest =>
        have HPB := hcut
        clear hcut
        obtain ⟨mdc, hmdc⟩ : ∃ c, c = mdB hd := ⟨_, rfl⟩
        rw [← hmdc] at HPB
        have HMD := Lib.hid hmdc
        clear hmdc KP KM HDV HCZ hh2
        have hsz := HPB.out.2.2.1.size
        have hbl := HPB.out.2.1.lt
        go_wp2_with fail
        refine (split_seq T ⟨#[44]⟩ _).mono ?_
        rintro e w4 ⟨rfl, rfl⟩
        go_wp2_with fail
        refine wp_splitSeq wc.heap.size comS T (by decide) (by omega) (by decide) rfl (((Boxed.new wc _ _).alloc _).alloc _) ⟨by have := Boxed.new (wc.alloc (.cells #[.string T] 9)) 9 (.string ⟨#[44]⟩); simp at this; exact this.alloc _, by have := Boxed.new ((wc.alloc (.cells #[.string T] 9)).alloc (.cells #[.string ⟨#[44]⟩] 9)) 3 (.int .i64 0); simpa using this⟩ [w1.heap.size] (by simp; omega)
          (PI w w1.heap.size (wc.heap.size + 3) opc mdc (!q)) ?hI ?hIM ?h0 ?round ?done
        case hI =>
          rintro pre W W' ⟨A, n, g1, g2, g3, g4⟩ ht
          refine ⟨A, n, ht.block _ _ g1 (by omega) (.inr rfl), g2.turn ht (by omega), ht.block _ _ g3 (by omega) (.inr rfl), Below.turn g4 ht (by omega) (by simp; omega) (Nat.le_refl _)⟩
        case hIM =>
          rintro pre W ⟨A, n, g1, g2, g3, g4⟩
          exact (HE.out.below g4).maxl
        case h0 =>
          exact ⟨none, 0, ((HPB.out.2.1.below ((Below.refl _ _).alloc (Nat.le_refl _) _)).below ((Below.refl _ _).alloc (Nat.le_refl _) _)).below ((Below.refl _ _).alloc (Nat.le_refl _) _), OwnsG.nil _ _,
            ((HPB.out.1.below ((Below.refl _ _).alloc (Nat.le_refl _) _)).below ((Below.refl _ _).alloc (Nat.le_refl _) _)).below ((Below.refl _ _).alloc (Nat.le_refl _) _), ((HPB.out.2.2.1.alloc hsz _).alloc (by simp; omega) _).alloc (by simp; omega) _⟩
        case round =>
          intro l pre x post W hps hl
          have hxs := pieces_size comS (by decide) _ T rfl x (by rw [hps]; simp)
          have hpl := pieces_len comS (by decide) _ T rfl
          rw [hps] at hpl
          simp only [List.length_append, List.length_cons] at hpl
          gi_wp2
          refine ⟨trivial, ?_⟩
          rintro W2 ⟨hr, hrec⟩ ⟨A, n, g1, g2, g3, g4⟩
          have hBW : wc.heap.size + 3 ≤ W2.heap.size := by have := (Array.getElem?_eq_some_iff.1 hrec).1; simp at hl; omega
          have HG := Lib.hid (And.intro g1 (And.intro g2 (And.intro g3 g4)))
          obtain ⟨c0, c1, c2, c3⟩ := g1.cells
          clear g1 g2 g3 g4 hrec hps
          obtain ⟨dx, hdx⟩ : ∃ d, d = cutI x dotS := ⟨_, rfl⟩
          obtain ⟨ca, hca⟩ : ∃ d, d = cutA x dotS := ⟨_, rfl⟩
          obtain ⟨cz, hcz⟩ : ∃ d, d = cutZ x dotS := ⟨_, rfl⟩
          have hcs := cut_sizes x dotS
          have KX : Calls Tryz.prog 34 #[.string x, .string ⟨#[46, 46]⟩] W2 fun e w' => e = .returned (.tuple #[.string (cutA x dotS), .string (cutZ x dotS), .bool (cutI x dotS)]) ∧ Below W2.heap.size W2 w' := cut_any x dotS W2 (by omega) (HE.out.below HG.out.2.2.2).maxl
          rw [← hdx, ← hca, ← hcz] at KX
          rw [← hca, ← hcz] at hcs
          have HRG : Hid (rangeB x = if dx then (numberB ca, numberB cz) else (numberB ca, numberB ca)) := Lib.hid (by unfold rangeB; rw [← hdx, ← hca, ← hcz])
          have HKX := Lib.hid KX
          clear KX hdx hca hcz
          gi_wp2
          refine ⟨trivial, (CallsIn.inRound l (callsIn_wide.2 HKX.out)).mono ?_⟩
          rintro e w5 ⟨rfl, hb5⟩
          have c0 := carry hb5 c0
          have c1 := carry hb5 c1
          have c2 := carry hb5 c2
          have c3 := carry hb5 c3
          have HB5 := Lib.hid hb5
          have KA : Hid (∀ W, Below w.heap.size w W → Calls Tryz.prog 116 #[.string ca] W fun e w' => e = .returned (.int .i64 (numberB ca)) ∧ Below W.heap.size W w') := Lib.hid (fun W hb => rule_number _ W (HE.out.below hb) (by omega))
          have KZ : Hid (∀ W, Below w.heap.size w W → Calls Tryz.prog 116 #[.string cz] W fun e w' => e = .returned (.int .i64 (numberB cz)) ∧ Below W.heap.size W w') := Lib.hid (fun W hb => rule_number _ W (HE.out.below hb) (by omega))
          clear hb5 HKX
          cases dx
          · gi_wp2
            have hmx : Tryz.prog.follows .mixedOrders = true := by kernel_rfl
            have HBW5 : Hid (Below w.heap.size w w5) := Lib.hid (HG.out.2.2.2.trans (HB5.out.mono HG.out.2.2.2.size))
            refine wpIn_region_any hmx ?_
            change wpAnyIn _ _ _ _ _ _ _ _ _ (World.drew _)
            refine take_r (i := 0) (v := ?_) (by kernel_rfl) rfl (by kernel_rfl) (by kernel_rfl) (by kernel_rfl) (fun _ _ _ h => h) (by rfl) ?hy (fun _ => rfl) ?_
            case hy => (intro w; go_simp; try with_reducible rfl)
            refine take_r (i := 2) (v := ?_) (by kernel_rfl) rfl (by kernel_rfl) (by kernel_rfl) (by kernel_rfl) (fun _ _ _ h => h) (by rfl) ?hy (fun _ => rfl) ?_
            case hy => (intro w; go_simp; try with_reducible rfl)
            refine take_r (i := 4) (v := ?_) (by kernel_rfl) rfl (by kernel_rfl) (by kernel_rfl) (by kernel_rfl) (fun _ _ _ h => h) (by rfl) ?hy (fun _ => rfl) ?_
            case hy => (intro w; go_simp; try with_reducible rfl)
            have HBwr : Hid (Below W2.heap.size W2 w5.drew) := Lib.hid HB5.out.drew
            have c3 : w5.drew.cell? ⟨w1.heap.size, 3, none⟩ = some (.slice A (pre.map rangeB).length n) := c3
            clear c0 c1 c2
            generalize w5.drew = wr at *
            have q3 := lt_of_cell c3
            refine wpAnyIn_ready (rs := [1, 3]) (by kernel_rfl) (by simp) ?_
            refine AllReadyIn.cons rfl (fun K hK => ?_) ?_
            · go_simp
              refine hK _ _ ?_
              clear hK K
              refine wpAnyIn_ready (rs := [3]) (by kernel_rfl) (by simp) ?_
              refine AllReadyIn.cons rfl (fun K hK => ?_) ?_
              · go_simp
                refine ⟨trivial, (CallsIn.inRound l (callsIn_wide.2 (KA.out wr (Below.trans HG.out.2.2.2 (Below.mono HBwr.out HG.out.2.2.2.size))))).mono ?_⟩
                rintro e wx ⟨rfl, hbx⟩
                have HBwx : Hid (Below W2.heap.size W2 wx) := Lib.hid (HBwr.out.trans (hbx.mono HBwr.out.size))
                have c3 := carry hbx c3
                have q3 := lt_of_cell c3
                refine hK _ _ ?_
                clear hK K hbx
                refine wpAnyIn_ready (rs := [5]) (by kernel_rfl) (by simp) ?_
                refine AllReadyIn.cons rfl (fun K hK => ?_) ?_
                · go_simp
                  refine ⟨trivial, (CallsIn.inRound l (callsIn_wide.2 (KA.out wx (Below.trans HG.out.2.2.2 (Below.mono HBwx.out HG.out.2.2.2.size))))).mono ?_⟩
                  rintro e wy ⟨rfl, hbx⟩
                  have HBwy : Hid (Below W2.heap.size W2 wy) := Lib.hid (HBwx.out.trans (hbx.mono HBwx.out.size))
                  have c3 := carry hbx c3
                  have q3 := lt_of_cell c3
                  refine hK _ _ ?_
                  clear hK K hbx
                  refine take_r (i := 6) (v := ?_) (by kernel_rfl) rfl (by kernel_rfl) (by kernel_rfl) (by kernel_rfl) (fun _ _ _ h => h) (by rfl) ?hy (fun _ => rfl) ?_
                  case hy => (intro w; go_simp; try with_reducible rfl)
                  refine wpAnyIn_ready (rs := [7]) (by kernel_rfl) (by simp) ?_
                  refine AllReadyIn.cons rfl (fun K hK => ?_) ?_
                  · go_simp
                    refine hK _ _ ?_
                    clear hK K
                    refine wpAnyIn_ready (rs := [8]) (by kernel_rfl) (by simp) ?_
                    refine AllReadyIn.cons rfl (fun K hK => ?_) AllReadyIn.nil
                    rw [if_pos (by rfl)]
                    have hrx : kRng.cells (rangeB x) = [.int .i64 (numberB ca), .int .i64 (numberB ca)] := by rw [HRG.out]; rfl
                    have hn8 : ((pre.map rangeB).length + 1) * kRng.bytes ≤ 140737488355328 := by simp [kRng]; omega
                    have hn9 : (pre.map rangeB).length + 1 ≤ 9223372036854775807 := by simp; omega
                    refine operIn_append_g (k := kRng) (.tmp 58) (.tmp 64) rfl (base := wc.heap.size + 3) (v := .slice A (pre.map rangeB).length n) (b := wy.heap.size) (c := 1) (ts := pre.map rangeB) (rangeB x) (by go_simp) (by go_simp) (HG.out.2.1.below (HBwy.out.alloc HBwy.out.size _)) (by rw [hrx]; intro i u hu; rw [new_cell, List.getElem?_toArray]; exact hu) (by have := HBwy.out.size; simp; omega) hn8 hn9 ?_
                    intro v' w8 hO hF
                    obtain ⟨A8, c8, hv8, _⟩ := hO.form
                    rw [show (pre.map rangeB ++ [rangeB x]).length = pre.length + 1 by simp] at hv8
                    subst hv8
                    have HE8 := Lib.hid (pi_end HG.out z1 (by omega) hBW (HBwy.out.alloc HBwy.out.size (.cells #[.int .i64 (numberB ca), .int .i64 (numberB ca)] 225)) hO hF)
                    have d3 := HE8.out.1.cells.2.2.2
                    have f3 := HE8.out.1.free 3
                    refine hK _ _ ?_
                    clear hK K hO hF hrx hn8 hn9
                    refine wpAnyIn_ready (rs := [9]) (by kernel_rfl) (by simp) ?_
                    refine AllReadyIn.cons rfl (fun K hK => ?_) AllReadyIn.nil
                    go_simp
                    refine hK _ _ ?_
                    clear hK K
                    refine wpAnyIn_ready (rs := [10]) (by kernel_rfl) (by simp) ?_
                    refine AllReadyIn.cons rfl (fun K hK => ?_) AllReadyIn.nil
                    go_simp
                    refine hK _ _ ?_
                    clear hK K
                    refine wpAnyIn_done (by kernel_rfl) ?_ _
                    exact ⟨keep_eq HE8.out.2.1 (by simp), HE8.out.2.2⟩
                  exact AllReadyIn.nil
                exact AllReadyIn.nil
              exact AllReadyIn.nil
            refine AllReadyIn.cons rfl (fun K hK => ?_) ?_
            · go_simp
              refine ⟨trivial, (CallsIn.inRound l (callsIn_wide.2 (KA.out wr (Below.trans HG.out.2.2.2 (Below.mono HBwr.out HG.out.2.2.2.size))))).mono ?_⟩
              rintro e wx ⟨rfl, hbx⟩
              have HBwx : Hid (Below W2.heap.size W2 wx) := Lib.hid (HBwr.out.trans (hbx.mono HBwr.out.size))
              have c3 := carry hbx c3
              have q3 := lt_of_cell c3
              refine hK _ _ ?_
              clear hK K hbx
              refine wpAnyIn_ready (rs := [1, 5]) (by kernel_rfl) (by simp) ?_
              refine AllReadyIn.cons rfl (fun K hK => ?_) ?_
              · go_simp
                refine hK _ _ ?_
                clear hK K
                refine wpAnyIn_ready (rs := [5]) (by kernel_rfl) (by simp) ?_
                refine AllReadyIn.cons rfl (fun K hK => ?_) ?_
                · go_simp
                  refine ⟨trivial, (CallsIn.inRound l (callsIn_wide.2 (KA.out wx (Below.trans HG.out.2.2.2 (Below.mono HBwx.out HG.out.2.2.2.size))))).mono ?_⟩
                  rintro e wy ⟨rfl, hbx⟩
                  have HBwy : Hid (Below W2.heap.size W2 wy) := Lib.hid (HBwx.out.trans (hbx.mono HBwx.out.size))
                  have c3 := carry hbx c3
                  have q3 := lt_of_cell c3
                  refine hK _ _ ?_
                  clear hK K hbx
                  refine take_r (i := 6) (v := ?_) (by kernel_rfl) rfl (by kernel_rfl) (by kernel_rfl) (by kernel_rfl) (fun _ _ _ h => h) (by rfl) ?hy (fun _ => rfl) ?_
                  case hy => (intro w; go_simp; try with_reducible rfl)
                  refine wpAnyIn_ready (rs := [7]) (by kernel_rfl) (by simp) ?_
                  refine AllReadyIn.cons rfl (fun K hK => ?_) ?_
                  · go_simp
                    refine hK _ _ ?_
                    clear hK K
                    refine wpAnyIn_ready (rs := [8]) (by kernel_rfl) (by simp) ?_
                    refine AllReadyIn.cons rfl (fun K hK => ?_) AllReadyIn.nil
                    rw [if_pos (by rfl)]
                    have hrx : kRng.cells (rangeB x) = [.int .i64 (numberB ca), .int .i64 (numberB ca)] := by rw [HRG.out]; rfl
                    have hn8 : ((pre.map rangeB).length + 1) * kRng.bytes ≤ 140737488355328 := by simp [kRng]; omega
                    have hn9 : (pre.map rangeB).length + 1 ≤ 9223372036854775807 := by simp; omega
                    refine operIn_append_g (k := kRng) (.tmp 58) (.tmp 64) rfl (base := wc.heap.size + 3) (v := .slice A (pre.map rangeB).length n) (b := wy.heap.size) (c := 1) (ts := pre.map rangeB) (rangeB x) (by go_simp) (by go_simp) (HG.out.2.1.below (HBwy.out.alloc HBwy.out.size _)) (by rw [hrx]; intro i u hu; rw [new_cell, List.getElem?_toArray]; exact hu) (by have := HBwy.out.size; simp; omega) hn8 hn9 ?_
                    intro v' w8 hO hF
                    obtain ⟨A8, c8, hv8, _⟩ := hO.form
                    rw [show (pre.map rangeB ++ [rangeB x]).length = pre.length + 1 by simp] at hv8
                    subst hv8
                    have HE8 := Lib.hid (pi_end HG.out z1 (by omega) hBW (HBwy.out.alloc HBwy.out.size (.cells #[.int .i64 (numberB ca), .int .i64 (numberB ca)] 225)) hO hF)
                    have d3 := HE8.out.1.cells.2.2.2
                    have f3 := HE8.out.1.free 3
                    refine hK _ _ ?_
                    clear hK K hO hF hrx hn8 hn9
                    refine wpAnyIn_ready (rs := [9]) (by kernel_rfl) (by simp) ?_
                    refine AllReadyIn.cons rfl (fun K hK => ?_) AllReadyIn.nil
                    go_simp
                    refine hK _ _ ?_
                    clear hK K
                    refine wpAnyIn_ready (rs := [10]) (by kernel_rfl) (by simp) ?_
                    refine AllReadyIn.cons rfl (fun K hK => ?_) AllReadyIn.nil
                    go_simp
                    refine hK _ _ ?_
                    clear hK K
                    refine wpAnyIn_done (by kernel_rfl) ?_ _
                    exact ⟨keep_eq HE8.out.2.1 (by simp), HE8.out.2.2⟩
                  exact AllReadyIn.nil
                exact AllReadyIn.nil
              refine AllReadyIn.cons rfl (fun K hK => ?_) ?_
              · go_simp
                refine ⟨trivial, (CallsIn.inRound l (callsIn_wide.2 (KA.out wx (Below.trans HG.out.2.2.2 (Below.mono HBwx.out HG.out.2.2.2.size))))).mono ?_⟩
                rintro e wy ⟨rfl, hbx⟩
                have HBwy : Hid (Below W2.heap.size W2 wy) := Lib.hid (HBwx.out.trans (hbx.mono HBwx.out.size))
                have c3 := carry hbx c3
                have q3 := lt_of_cell c3
                refine hK _ _ ?_
                clear hK K hbx
                refine take_r (i := 6) (v := ?_) (by kernel_rfl) rfl (by kernel_rfl) (by kernel_rfl) (by kernel_rfl) (fun _ _ _ h => h) (by rfl) ?hy (fun _ => rfl) ?_
                case hy => (intro w; go_simp; try with_reducible rfl)
                refine wpAnyIn_ready (rs := [1, 7]) (by kernel_rfl) (by simp) ?_
                refine AllReadyIn.cons rfl (fun K hK => ?_) ?_
                · go_simp
                  refine hK _ _ ?_
                  clear hK K
                  refine wpAnyIn_ready (rs := [7]) (by kernel_rfl) (by simp) ?_
                  refine AllReadyIn.cons rfl (fun K hK => ?_) ?_
                  · go_simp
                    refine hK _ _ ?_
                    clear hK K
                    refine wpAnyIn_ready (rs := [8]) (by kernel_rfl) (by simp) ?_
                    refine AllReadyIn.cons rfl (fun K hK => ?_) AllReadyIn.nil
                    rw [if_pos (by rfl)]
                    have hrx : kRng.cells (rangeB x) = [.int .i64 (numberB ca), .int .i64 (numberB ca)] := by rw [HRG.out]; rfl
                    have hn8 : ((pre.map rangeB).length + 1) * kRng.bytes ≤ 140737488355328 := by simp [kRng]; omega
                    have hn9 : (pre.map rangeB).length + 1 ≤ 9223372036854775807 := by simp; omega
                    refine operIn_append_g (k := kRng) (.tmp 58) (.tmp 64) rfl (base := wc.heap.size + 3) (v := .slice A (pre.map rangeB).length n) (b := wy.heap.size) (c := 1) (ts := pre.map rangeB) (rangeB x) (by go_simp) (by go_simp) (HG.out.2.1.below (HBwy.out.alloc HBwy.out.size _)) (by rw [hrx]; intro i u hu; rw [new_cell, List.getElem?_toArray]; exact hu) (by have := HBwy.out.size; simp; omega) hn8 hn9 ?_
                    intro v' w8 hO hF
                    obtain ⟨A8, c8, hv8, _⟩ := hO.form
                    rw [show (pre.map rangeB ++ [rangeB x]).length = pre.length + 1 by simp] at hv8
                    subst hv8
                    have HE8 := Lib.hid (pi_end HG.out z1 (by omega) hBW (HBwy.out.alloc HBwy.out.size (.cells #[.int .i64 (numberB ca), .int .i64 (numberB ca)] 225)) hO hF)
                    have d3 := HE8.out.1.cells.2.2.2
                    have f3 := HE8.out.1.free 3
                    refine hK _ _ ?_
                    clear hK K hO hF hrx hn8 hn9
                    refine wpAnyIn_ready (rs := [9]) (by kernel_rfl) (by simp) ?_
                    refine AllReadyIn.cons rfl (fun K hK => ?_) AllReadyIn.nil
                    go_simp
                    refine hK _ _ ?_
                    clear hK K
                    refine wpAnyIn_ready (rs := [10]) (by kernel_rfl) (by simp) ?_
                    refine AllReadyIn.cons rfl (fun K hK => ?_) AllReadyIn.nil
                    go_simp
                    refine hK _ _ ?_
                    clear hK K
                    refine wpAnyIn_done (by kernel_rfl) ?_ _
                    exact ⟨keep_eq HE8.out.2.1 (by simp), HE8.out.2.2⟩
                  exact AllReadyIn.nil
                refine AllReadyIn.cons rfl (fun K hK => ?_) ?_
                · go_simp
                  refine hK _ _ ?_
                  clear hK K
                  refine wpAnyIn_ready (rs := [1]) (by kernel_rfl) (by simp) ?_
                  refine AllReadyIn.cons rfl (fun K hK => ?_) ?_
                  · go_simp
                    refine hK _ _ ?_
                    clear hK K
                    refine wpAnyIn_ready (rs := [8]) (by kernel_rfl) (by simp) ?_
                    refine AllReadyIn.cons rfl (fun K hK => ?_) AllReadyIn.nil
                    rw [if_pos (by rfl)]
                    have hrx : kRng.cells (rangeB x) = [.int .i64 (numberB ca), .int .i64 (numberB ca)] := by rw [HRG.out]; rfl
                    have hn8 : ((pre.map rangeB).length + 1) * kRng.bytes ≤ 140737488355328 := by simp [kRng]; omega
                    have hn9 : (pre.map rangeB).length + 1 ≤ 9223372036854775807 := by simp; omega
                    refine operIn_append_g (k := kRng) (.tmp 58) (.tmp 64) rfl (base := wc.heap.size + 3) (v := .slice A (pre.map rangeB).length n) (b := wy.heap.size) (c := 1) (ts := pre.map rangeB) (rangeB x) (by go_simp) (by go_simp) (HG.out.2.1.below (HBwy.out.alloc HBwy.out.size _)) (by rw [hrx]; intro i u hu; rw [new_cell, List.getElem?_toArray]; exact hu) (by have := HBwy.out.size; simp; omega) hn8 hn9 ?_
                    intro v' w8 hO hF
                    obtain ⟨A8, c8, hv8, _⟩ := hO.form
                    rw [show (pre.map rangeB ++ [rangeB x]).length = pre.length + 1 by simp] at hv8
                    subst hv8
                    have HE8 := Lib.hid (pi_end HG.out z1 (by omega) hBW (HBwy.out.alloc HBwy.out.size (.cells #[.int .i64 (numberB ca), .int .i64 (numberB ca)] 225)) hO hF)
                    have d3 := HE8.out.1.cells.2.2.2
                    have f3 := HE8.out.1.free 3
                    refine hK _ _ ?_
                    clear hK K hO hF hrx hn8 hn9
                    refine wpAnyIn_ready (rs := [9]) (by kernel_rfl) (by simp) ?_
                    refine AllReadyIn.cons rfl (fun K hK => ?_) AllReadyIn.nil
                    go_simp
                    refine hK _ _ ?_
                    clear hK K
                    refine wpAnyIn_ready (rs := [10]) (by kernel_rfl) (by simp) ?_
                    refine AllReadyIn.cons rfl (fun K hK => ?_) AllReadyIn.nil
                    go_simp
                    refine hK _ _ ?_
                    clear hK K
                    refine wpAnyIn_done (by kernel_rfl) ?_ _
                    exact ⟨keep_eq HE8.out.2.1 (by simp), HE8.out.2.2⟩
                  exact AllReadyIn.nil
                exact AllReadyIn.nil
              exact AllReadyIn.nil
            exact AllReadyIn.nil
          · gi_wp2
            have hmx : Tryz.prog.follows .mixedOrders = true := by kernel_rfl
            have HBW5 : Hid (Below w.heap.size w w5) := Lib.hid (HG.out.2.2.2.trans (HB5.out.mono HG.out.2.2.2.size))
            refine wpIn_region_any hmx ?_
            change wpAnyIn _ _ _ _ _ _ _ _ _ (World.drew _)
            refine take_r (i := 0) (v := ?_) (by kernel_rfl) rfl (by kernel_rfl) (by kernel_rfl) (by kernel_rfl) (fun _ _ _ h => h) (by rfl) ?hy (fun _ => rfl) ?_
            case hy => (intro w; go_simp; try with_reducible rfl)
            refine take_r (i := 2) (v := ?_) (by kernel_rfl) rfl (by kernel_rfl) (by kernel_rfl) (by kernel_rfl) (fun _ _ _ h => h) (by rfl) ?hy (fun _ => rfl) ?_
            case hy => (intro w; go_simp; try with_reducible rfl)
            refine take_r (i := 4) (v := ?_) (by kernel_rfl) rfl (by kernel_rfl) (by kernel_rfl) (by kernel_rfl) (fun _ _ _ h => h) (by rfl) ?hy (fun _ => rfl) ?_
            case hy => (intro w; go_simp; try with_reducible rfl)
            have HBwr : Hid (Below W2.heap.size W2 w5.drew) := Lib.hid HB5.out.drew
            have c3 : w5.drew.cell? ⟨w1.heap.size, 3, none⟩ = some (.slice A (pre.map rangeB).length n) := c3
            clear c0 c1 c2
            generalize w5.drew = wr at *
            have q3 := lt_of_cell c3
            refine wpAnyIn_ready (rs := [1, 3]) (by kernel_rfl) (by simp) ?_
            refine AllReadyIn.cons rfl (fun K hK => ?_) ?_
            · go_simp
              refine hK _ _ ?_
              clear hK K
              refine wpAnyIn_ready (rs := [3]) (by kernel_rfl) (by simp) ?_
              refine AllReadyIn.cons rfl (fun K hK => ?_) ?_
              · go_simp
                refine ⟨trivial, (CallsIn.inRound l (callsIn_wide.2 (KA.out wr (Below.trans HG.out.2.2.2 (Below.mono HBwr.out HG.out.2.2.2.size))))).mono ?_⟩
                rintro e wx ⟨rfl, hbx⟩
                have HBwx : Hid (Below W2.heap.size W2 wx) := Lib.hid (HBwr.out.trans (hbx.mono HBwr.out.size))
                have c3 := carry hbx c3
                have q3 := lt_of_cell c3
                refine hK _ _ ?_
                clear hK K hbx
                refine wpAnyIn_ready (rs := [5]) (by kernel_rfl) (by simp) ?_
                refine AllReadyIn.cons rfl (fun K hK => ?_) ?_
                · go_simp
                  refine ⟨trivial, (CallsIn.inRound l (callsIn_wide.2 (KZ.out wx (Below.trans HG.out.2.2.2 (Below.mono HBwx.out HG.out.2.2.2.size))))).mono ?_⟩
                  rintro e wy ⟨rfl, hbx⟩
                  have HBwy : Hid (Below W2.heap.size W2 wy) := Lib.hid (HBwx.out.trans (hbx.mono HBwx.out.size))
                  have c3 := carry hbx c3
                  have q3 := lt_of_cell c3
                  refine hK _ _ ?_
                  clear hK K hbx
                  refine take_r (i := 6) (v := ?_) (by kernel_rfl) rfl (by kernel_rfl) (by kernel_rfl) (by kernel_rfl) (fun _ _ _ h => h) (by rfl) ?hy (fun _ => rfl) ?_
                  case hy => (intro w; go_simp; try with_reducible rfl)
                  refine wpAnyIn_ready (rs := [7]) (by kernel_rfl) (by simp) ?_
                  refine AllReadyIn.cons rfl (fun K hK => ?_) ?_
                  · go_simp
                    refine hK _ _ ?_
                    clear hK K
                    refine wpAnyIn_ready (rs := [8]) (by kernel_rfl) (by simp) ?_
                    refine AllReadyIn.cons rfl (fun K hK => ?_) AllReadyIn.nil
                    rw [if_pos (by rfl)]
                    have hrx : kRng.cells (rangeB x) = [.int .i64 (numberB ca), .int .i64 (numberB cz)] := by rw [HRG.out]; rfl
                    have hn8 : ((pre.map rangeB).length + 1) * kRng.bytes ≤ 140737488355328 := by simp [kRng]; omega
                    have hn9 : (pre.map rangeB).length + 1 ≤ 9223372036854775807 := by simp; omega
                    refine operIn_append_g (k := kRng) (.tmp 58) (.tmp 64) rfl (base := wc.heap.size + 3) (v := .slice A (pre.map rangeB).length n) (b := wy.heap.size) (c := 1) (ts := pre.map rangeB) (rangeB x) (by go_simp) (by go_simp) (HG.out.2.1.below (HBwy.out.alloc HBwy.out.size _)) (by rw [hrx]; intro i u hu; rw [new_cell, List.getElem?_toArray]; exact hu) (by have := HBwy.out.size; simp; omega) hn8 hn9 ?_
                    intro v' w8 hO hF
                    obtain ⟨A8, c8, hv8, _⟩ := hO.form
                    rw [show (pre.map rangeB ++ [rangeB x]).length = pre.length + 1 by simp] at hv8
                    subst hv8
                    have HE8 := Lib.hid (pi_end HG.out z1 (by omega) hBW (HBwy.out.alloc HBwy.out.size (.cells #[.int .i64 (numberB ca), .int .i64 (numberB cz)] 225)) hO hF)
                    have d3 := HE8.out.1.cells.2.2.2
                    have f3 := HE8.out.1.free 3
                    refine hK _ _ ?_
                    clear hK K hO hF hrx hn8 hn9
                    refine wpAnyIn_ready (rs := [9]) (by kernel_rfl) (by simp) ?_
                    refine AllReadyIn.cons rfl (fun K hK => ?_) AllReadyIn.nil
                    go_simp
                    refine hK _ _ ?_
                    clear hK K
                    refine wpAnyIn_ready (rs := [10]) (by kernel_rfl) (by simp) ?_
                    refine AllReadyIn.cons rfl (fun K hK => ?_) AllReadyIn.nil
                    go_simp
                    refine hK _ _ ?_
                    clear hK K
                    refine wpAnyIn_done (by kernel_rfl) ?_ _
                    exact ⟨keep_eq HE8.out.2.1 (by simp), HE8.out.2.2⟩
                  exact AllReadyIn.nil
                exact AllReadyIn.nil
              exact AllReadyIn.nil
            refine AllReadyIn.cons rfl (fun K hK => ?_) ?_
            · go_simp
              refine ⟨trivial, (CallsIn.inRound l (callsIn_wide.2 (KA.out wr (Below.trans HG.out.2.2.2 (Below.mono HBwr.out HG.out.2.2.2.size))))).mono ?_⟩
              rintro e wx ⟨rfl, hbx⟩
              have HBwx : Hid (Below W2.heap.size W2 wx) := Lib.hid (HBwr.out.trans (hbx.mono HBwr.out.size))
              have c3 := carry hbx c3
              have q3 := lt_of_cell c3
              refine hK _ _ ?_
              clear hK K hbx
              refine wpAnyIn_ready (rs := [1, 5]) (by kernel_rfl) (by simp) ?_
              refine AllReadyIn.cons rfl (fun K hK => ?_) ?_
              · go_simp
                refine hK _ _ ?_
                clear hK K
                refine wpAnyIn_ready (rs := [5]) (by kernel_rfl) (by simp) ?_
                refine AllReadyIn.cons rfl (fun K hK => ?_) ?_
                · go_simp
                  refine ⟨trivial, (CallsIn.inRound l (callsIn_wide.2 (KZ.out wx (Below.trans HG.out.2.2.2 (Below.mono HBwx.out HG.out.2.2.2.size))))).mono ?_⟩
                  rintro e wy ⟨rfl, hbx⟩
                  have HBwy : Hid (Below W2.heap.size W2 wy) := Lib.hid (HBwx.out.trans (hbx.mono HBwx.out.size))
                  have c3 := carry hbx c3
                  have q3 := lt_of_cell c3
                  refine hK _ _ ?_
                  clear hK K hbx
                  refine take_r (i := 6) (v := ?_) (by kernel_rfl) rfl (by kernel_rfl) (by kernel_rfl) (by kernel_rfl) (fun _ _ _ h => h) (by rfl) ?hy (fun _ => rfl) ?_
                  case hy => (intro w; go_simp; try with_reducible rfl)
                  refine wpAnyIn_ready (rs := [7]) (by kernel_rfl) (by simp) ?_
                  refine AllReadyIn.cons rfl (fun K hK => ?_) ?_
                  · go_simp
                    refine hK _ _ ?_
                    clear hK K
                    refine wpAnyIn_ready (rs := [8]) (by kernel_rfl) (by simp) ?_
                    refine AllReadyIn.cons rfl (fun K hK => ?_) AllReadyIn.nil
                    rw [if_pos (by rfl)]
                    have hrx : kRng.cells (rangeB x) = [.int .i64 (numberB ca), .int .i64 (numberB cz)] := by rw [HRG.out]; rfl
                    have hn8 : ((pre.map rangeB).length + 1) * kRng.bytes ≤ 140737488355328 := by simp [kRng]; omega
                    have hn9 : (pre.map rangeB).length + 1 ≤ 9223372036854775807 := by simp; omega
                    refine operIn_append_g (k := kRng) (.tmp 58) (.tmp 64) rfl (base := wc.heap.size + 3) (v := .slice A (pre.map rangeB).length n) (b := wy.heap.size) (c := 1) (ts := pre.map rangeB) (rangeB x) (by go_simp) (by go_simp) (HG.out.2.1.below (HBwy.out.alloc HBwy.out.size _)) (by rw [hrx]; intro i u hu; rw [new_cell, List.getElem?_toArray]; exact hu) (by have := HBwy.out.size; simp; omega) hn8 hn9 ?_
                    intro v' w8 hO hF
                    obtain ⟨A8, c8, hv8, _⟩ := hO.form
                    rw [show (pre.map rangeB ++ [rangeB x]).length = pre.length + 1 by simp] at hv8
                    subst hv8
                    have HE8 := Lib.hid (pi_end HG.out z1 (by omega) hBW (HBwy.out.alloc HBwy.out.size (.cells #[.int .i64 (numberB ca), .int .i64 (numberB cz)] 225)) hO hF)
                    have d3 := HE8.out.1.cells.2.2.2
                    have f3 := HE8.out.1.free 3
                    refine hK _ _ ?_
                    clear hK K hO hF hrx hn8 hn9
                    refine wpAnyIn_ready (rs := [9]) (by kernel_rfl) (by simp) ?_
                    refine AllReadyIn.cons rfl (fun K hK => ?_) AllReadyIn.nil
                    go_simp
                    refine hK _ _ ?_
                    clear hK K
                    refine wpAnyIn_ready (rs := [10]) (by kernel_rfl) (by simp) ?_
                    refine AllReadyIn.cons rfl (fun K hK => ?_) AllReadyIn.nil
                    go_simp
                    refine hK _ _ ?_
                    clear hK K
                    refine wpAnyIn_done (by kernel_rfl) ?_ _
                    exact ⟨keep_eq HE8.out.2.1 (by simp), HE8.out.2.2⟩
                  exact AllReadyIn.nil
                exact AllReadyIn.nil
              refine AllReadyIn.cons rfl (fun K hK => ?_) ?_
              · go_simp
                refine ⟨trivial, (CallsIn.inRound l (callsIn_wide.2 (KZ.out wx (Below.trans HG.out.2.2.2 (Below.mono HBwx.out HG.out.2.2.2.size))))).mono ?_⟩
                rintro e wy ⟨rfl, hbx⟩
                have HBwy : Hid (Below W2.heap.size W2 wy) := Lib.hid (HBwx.out.trans (hbx.mono HBwx.out.size))
                have c3 := carry hbx c3
                have q3 := lt_of_cell c3
                refine hK _ _ ?_
                clear hK K hbx
                refine take_r (i := 6) (v := ?_) (by kernel_rfl) rfl (by kernel_rfl) (by kernel_rfl) (by kernel_rfl) (fun _ _ _ h => h) (by rfl) ?hy (fun _ => rfl) ?_
                case hy => (intro w; go_simp; try with_reducible rfl)
                refine wpAnyIn_ready (rs := [1, 7]) (by kernel_rfl) (by simp) ?_
                refine AllReadyIn.cons rfl (fun K hK => ?_) ?_
                · go_simp
                  refine hK _ _ ?_
                  clear hK K
                  refine wpAnyIn_ready (rs := [7]) (by kernel_rfl) (by simp) ?_
                  refine AllReadyIn.cons rfl (fun K hK => ?_) ?_
                  · go_simp
                    refine hK _ _ ?_
                    clear hK K
                    refine wpAnyIn_ready (rs := [8]) (by kernel_rfl) (by simp) ?_
                    refine AllReadyIn.cons rfl (fun K hK => ?_) AllReadyIn.nil
                    rw [if_pos (by rfl)]
                    have hrx : kRng.cells (rangeB x) = [.int .i64 (numberB ca), .int .i64 (numberB cz)] := by rw [HRG.out]; rfl
                    have hn8 : ((pre.map rangeB).length + 1) * kRng.bytes ≤ 140737488355328 := by simp [kRng]; omega
                    have hn9 : (pre.map rangeB).length + 1 ≤ 9223372036854775807 := by simp; omega
                    refine operIn_append_g (k := kRng) (.tmp 58) (.tmp 64) rfl (base := wc.heap.size + 3) (v := .slice A (pre.map rangeB).length n) (b := wy.heap.size) (c := 1) (ts := pre.map rangeB) (rangeB x) (by go_simp) (by go_simp) (HG.out.2.1.below (HBwy.out.alloc HBwy.out.size _)) (by rw [hrx]; intro i u hu; rw [new_cell, List.getElem?_toArray]; exact hu) (by have := HBwy.out.size; simp; omega) hn8 hn9 ?_
                    intro v' w8 hO hF
                    obtain ⟨A8, c8, hv8, _⟩ := hO.form
                    rw [show (pre.map rangeB ++ [rangeB x]).length = pre.length + 1 by simp] at hv8
                    subst hv8
                    have HE8 := Lib.hid (pi_end HG.out z1 (by omega) hBW (HBwy.out.alloc HBwy.out.size (.cells #[.int .i64 (numberB ca), .int .i64 (numberB cz)] 225)) hO hF)
                    have d3 := HE8.out.1.cells.2.2.2
                    have f3 := HE8.out.1.free 3
                    refine hK _ _ ?_
                    clear hK K hO hF hrx hn8 hn9
                    refine wpAnyIn_ready (rs := [9]) (by kernel_rfl) (by simp) ?_
                    refine AllReadyIn.cons rfl (fun K hK => ?_) AllReadyIn.nil
                    go_simp
                    refine hK _ _ ?_
                    clear hK K
                    refine wpAnyIn_ready (rs := [10]) (by kernel_rfl) (by simp) ?_
                    refine AllReadyIn.cons rfl (fun K hK => ?_) AllReadyIn.nil
                    go_simp
                    refine hK _ _ ?_
                    clear hK K
                    refine wpAnyIn_done (by kernel_rfl) ?_ _
                    exact ⟨keep_eq HE8.out.2.1 (by simp), HE8.out.2.2⟩
                  exact AllReadyIn.nil
                refine AllReadyIn.cons rfl (fun K hK => ?_) ?_
                · go_simp
                  refine hK _ _ ?_
                  clear hK K
                  refine wpAnyIn_ready (rs := [1]) (by kernel_rfl) (by simp) ?_
                  refine AllReadyIn.cons rfl (fun K hK => ?_) ?_
                  · go_simp
                    refine hK _ _ ?_
                    clear hK K
                    refine wpAnyIn_ready (rs := [8]) (by kernel_rfl) (by simp) ?_
                    refine AllReadyIn.cons rfl (fun K hK => ?_) AllReadyIn.nil
                    rw [if_pos (by rfl)]
                    have hrx : kRng.cells (rangeB x) = [.int .i64 (numberB ca), .int .i64 (numberB cz)] := by rw [HRG.out]; rfl
                    have hn8 : ((pre.map rangeB).length + 1) * kRng.bytes ≤ 140737488355328 := by simp [kRng]; omega
                    have hn9 : (pre.map rangeB).length + 1 ≤ 9223372036854775807 := by simp; omega
                    refine operIn_append_g (k := kRng) (.tmp 58) (.tmp 64) rfl (base := wc.heap.size + 3) (v := .slice A (pre.map rangeB).length n) (b := wy.heap.size) (c := 1) (ts := pre.map rangeB) (rangeB x) (by go_simp) (by go_simp) (HG.out.2.1.below (HBwy.out.alloc HBwy.out.size _)) (by rw [hrx]; intro i u hu; rw [new_cell, List.getElem?_toArray]; exact hu) (by have := HBwy.out.size; simp; omega) hn8 hn9 ?_
                    intro v' w8 hO hF
                    obtain ⟨A8, c8, hv8, _⟩ := hO.form
                    rw [show (pre.map rangeB ++ [rangeB x]).length = pre.length + 1 by simp] at hv8
                    subst hv8
                    have HE8 := Lib.hid (pi_end HG.out z1 (by omega) hBW (HBwy.out.alloc HBwy.out.size (.cells #[.int .i64 (numberB ca), .int .i64 (numberB cz)] 225)) hO hF)
                    have d3 := HE8.out.1.cells.2.2.2
                    have f3 := HE8.out.1.free 3
                    refine hK _ _ ?_
                    clear hK K hO hF hrx hn8 hn9
                    refine wpAnyIn_ready (rs := [9]) (by kernel_rfl) (by simp) ?_
                    refine AllReadyIn.cons rfl (fun K hK => ?_) AllReadyIn.nil
                    go_simp
                    refine hK _ _ ?_
                    clear hK K
                    refine wpAnyIn_ready (rs := [10]) (by kernel_rfl) (by simp) ?_
                    refine AllReadyIn.cons rfl (fun K hK => ?_) AllReadyIn.nil
                    go_simp
                    refine hK _ _ ?_
                    clear hK K
                    refine wpAnyIn_done (by kernel_rfl) ?_ _
                    exact ⟨keep_eq HE8.out.2.1 (by simp), HE8.out.2.2⟩
                  exact AllReadyIn.nil
                exact AllReadyIn.nil
              exact AllReadyIn.nil
            exact AllReadyIn.nil
        case done =>
          rintro D W hD ⟨A, n, g1, g2, g3, g4⟩ hK
          obtain ⟨c0, c1, c2, c3⟩ := g1.cells
          obtain ⟨d0, d1, d2, d3⟩ := g3.cells
          have f0 := g3.free 0
          have f1 := g3.free 1
          have f2 := g3.free 2
          have f3 := g3.free 3
          have hpc : parsedB s = { op := opc, md := mdc, neg := !q, rs := (pieces comS T).map rangeB } := by
            unfold parsedB
            rw [HT.out, ← Hhd.out, Hq.out, ← HOP.out, ← HMD.out]
          have HGO := Lib.hid (And.intro g2 (And.intro g4 (And.intro hpc (And.intro hsz hbl))))
          have HR := Lib.hid g3
          clear g1 g2 g3 g4 hpc
          go_wp2
          clear c0 c1 c2 c3 d0 d1 d2 d3 f0 f1 f2 f3
          have hD' : w.heap.size < D := by simp at hD; omega
          have hne : D ≠ w.heap.size := by omega
          have e0 := (((HR.out.setOp opc).setMd mdc).setNeg (!q)).setRs (.slice A (pieces comS T).length n)
          have eb : Below w.heap.size W ((((W.setCell ⟨w.heap.size, 0, none⟩ (.int .u8 opc.toNat)).setCell ⟨w.heap.size, 1, none⟩ (.int .i64 mdc)).setCell ⟨w.heap.size, 2, none⟩ (.bool (!q))).setCell ⟨w.heap.size, 3, none⟩ (.slice A (pieces comS T).length n)) := belx
          have eo : ∀ k, k ≠ w.heap.size → ((((W.setCell ⟨w.heap.size, 0, none⟩ (.int .u8 opc.toNat)).setCell ⟨w.heap.size, 1, none⟩ (.int .i64 mdc)).setCell ⟨w.heap.size, 2, none⟩ (.bool (!q))).setCell ⟨w.heap.size, 3, none⟩ (.slice A (pieces comS T).length n)).heap[k]? = W.heap[k]? := by
            intro k hk
            rw [Below.heap_setCell _ ⟨w.heap.size, 3, none⟩ _ k hk, Below.heap_setCell _ ⟨w.heap.size, 2, none⟩ _ k hk, Below.heap_setCell _ ⟨w.heap.size, 1, none⟩ _ k hk, Below.heap_setCell _ ⟨w.heap.size, 0, none⟩ _ k hk]
          generalize hWE : ((((W.setCell ⟨w.heap.size, 0, none⟩ (.int .u8 opc.toNat)).setCell ⟨w.heap.size, 1, none⟩ (.int .i64 mdc)).setCell ⟨w.heap.size, 2, none⟩ (.bool (!q))).setCell ⟨w.heap.size, 3, none⟩ (.slice A (pieces comS T).length n)) = WE at *
          obtain ⟨c0, c1, c2, c3⟩ := e0.cells
          refine ⟨by simp, .inl ⟨_, _, rfl, run_takeDeferred ((eo D hne).trans hK), ?_⟩⟩
          have ep : ∀ k, k ≠ D → (WE.putObj D (.deferred none)).heap[k]? = WE.heap[k]? := fun k hk => put_other _ _ hk
          have e9 : RelBox (WE.putObj D (.deferred none)) w.heap.size opc mdc (!q) (.slice A (pieces comS T).length n) := (ep _ (by omega)).trans e0
          have b9 : Below w.heap.size w (WE.putObj D (.deferred none)) := by
            have h := HGO.out.2.1.trans eb
            exact ⟨h.1, h.2, h.3, by simpa using h.4, fun k hk => (ep k (by omega)).trans (h.5 k hk)⟩
          clear c0 c1 c2 c3
          obtain ⟨c0, c1, c2, c3⟩ := e9.cells
          refine ⟨relV opc mdc (!q) A (pieces comS T).length n, by simp [results, Tryz.results58, go_sem, c0, c1, c2, c3], ?_, b9⟩
          refine ⟨⟨{ op := opc, md := mdc, neg := !q, rs := (pieces comS T).map rangeB }, A, n⟩, HGO.out.2.2.1.symm, by simp [RelD.val], ?_⟩
          refine OwnsG.kept (HGO.out.1.base (by have := HGO.out.2.2.2.1; omega)) (fun g cur hg hc => ?_)
          have := (HGO.out.1.block g (by rw [hg]; simp)).1
          have h5 := HGO.out.2.2.2.1
          refine (ep g (fun e => ?_)).trans (eo g (by omega))
          rw [e, hK] at hc
          cases hc
end Go.Proofs.YtplaohmdllindaaGreatDoor
