/- RuleMem, RuleJoined, ContRune, RuleFine, RuleFine2, RuleCheck, RuleHolds, RuleAny: texts put together. -/
import Derived.Test.YtplaohmdllindaaGreatDoorQn1
import Derived.Test.YtplaohmdllindaaGreatDoorQn2
import Derived.Test.YtplaohmdllindaaGreatDoorQn11
import Derived.Test.YtplaohmdllindaaGreatDoorQn3
import Derived.Outline
import Derived.Laws.Runes
import Derived.Maps.Own
import Derived.Maps.OwnOps
set_option linter.unusedVariables false
set_option linter.unusedSimpArgs false
/- Rules in memory. -/
namespace Go.Proofs.YtplaohmdllindaaGreatDoor
open Go.RowKit

/-- these ranges lie there -/
def RngIn (w : World) (A : Option Addr) (rs : List (Int × Int)) : Prop :=
  rs = [] ∨ ∃ b o, A = some ⟨b, o, none⟩ ∧ ∀ (j : Nat) p, rs[j]? = some p → w.cell? ⟨b, o + j * 2, none⟩ = some (.int .i64 p.1) ∧ w.cell? ⟨b, o + j * 2 + 1, none⟩ = some (.int .i64 p.2)
theorem RngIn.below {w w' : World} {A : Option Addr} {rs : List (Int × Int)} (h : RngIn w A rs) (hb : Below w.heap.size w w') : RngIn w' A rs := by
  rcases h with h | ⟨b, o, h1, h2⟩
  · exact .inl h
  · exact .inr ⟨b, o, h1, fun j p hp => ⟨carry hb (h2 j p hp).1, carry hb (h2 j p hp).2⟩⟩
theorem RngIn.at {w : World} {A : Option Addr} {rs : List (Int × Int)} (h : RngIn w A rs) (hp : 0 < rs.length) : ∃ b o, A = some ⟨b, o, none⟩ ∧ ∀ (j : Nat) p, rs[j]? = some p → w.cell? ⟨b, o + j * 2, none⟩ = some (.int .i64 p.1) ∧ w.cell? ⟨b, o + j * 2 + 1, none⟩ = some (.int .i64 p.2) := by
  rcases h with h | h
  · rw [h] at hp; simp at hp
  · exact h

/-- a rel in memory -/
structure RelD where
  c : RelC
  A : Option Addr
  n : Nat
abbrev relV (op : UInt8) (md : Int) (neg : Bool) (A : Option Addr) (n c : Nat) : Value := .agg #[.int .u8 op.toNat, .int .i64 md, .bool neg, .slice A n c]
def RelD.val (r : RelD) : Value := relV r.c.op r.c.md r.c.neg r.A r.c.rs.length r.n
def RelD.cells (r : RelD) : List Value := [.int .u8 r.c.op.toNat, .int .i64 r.c.md, .bool r.c.neg, .slice r.A r.c.rs.length r.n]
/-- its ranges lie there, and are no more than can be -/
def RelD.fits (w : World) (r : RelD) : Prop := RngIn w r.A r.c.rs ∧ r.c.rs.length ≤ r.n ∧ r.n ≤ 9223372036854775807 ∧ (-9223372036854775808 ≤ r.c.md ∧ r.c.md ≤ 9223372036854775807) ∧ ∀ p ∈ r.c.rs, (-9223372036854775808 ≤ p.1 ∧ p.1 ≤ 9223372036854775807) ∧ (-9223372036854775808 ≤ p.2 ∧ p.2 ≤ 9223372036854775807)
theorem RelD.fits.below {w w' : World} {r : RelD} (h : r.fits w) (hb : Below w.heap.size w w') : r.fits w' := ⟨h.1.below hb, h.2⟩

/-- rels that lie in block g from o on -/
def RelsIn (w : World) (g o : Nat) (rs : List RelD) : Prop := ∀ (j : Nat) r i u, rs[j]? = some r → r.cells[i]? = some u → w.cell? ⟨g, o + j * 4 + i, none⟩ = some u
theorem RelsIn.below {w w' : World} {g o : Nat} {rs : List RelD} (h : RelsIn w g o rs) (hb : Below w.heap.size w w') : RelsIn w' g o rs := fun j t i u ht hu => carry hb (h j t i u ht hu)

/-- a row of rels in memory -/
structure PartD where
  rs : List RelD
  A : Option Addr
  n : Nat
def PartD.c (p : PartD) : List RelC := p.rs.map RelD.c
def PartD.fits (w : World) (p : PartD) : Prop := (p.rs = [] ∨ ∃ g o, p.A = some ⟨g, o, none⟩ ∧ RelsIn w g o p.rs) ∧ p.rs.length ≤ p.n ∧ p.n ≤ 9223372036854775807 ∧ ∀ r ∈ p.rs, r.fits w
theorem PartD.fits.below {w w' : World} {p : PartD} (h : p.fits w) (hb : Below w.heap.size w w') : p.fits w' := by
  refine ⟨?_, h.2.1, h.2.2.1, fun r hr => (h.2.2.2 r hr).below hb⟩
  rcases h.1 with h1 | ⟨g, o, h1, h2⟩
  · exact .inl h1
  · exact .inr ⟨g, o, h1, h2.below hb⟩

/-- a rule in memory -/
def RuleIn (w : World) (A : Option Addr) (ps : List PartD) : Prop :=
  (ps = [] ∨ ∃ g o, A = some ⟨g, o, none⟩ ∧ ∀ (j : Nat) p, ps[j]? = some p → w.cell? ⟨g, o + j, none⟩ = some (.slice p.A p.rs.length p.n)) ∧ ∀ p ∈ ps, p.fits w
theorem RuleIn.below {w w' : World} {A : Option Addr} {ps : List PartD} (h : RuleIn w A ps) (hb : Below w.heap.size w w') : RuleIn w' A ps := by
  refine ⟨?_, fun p hp => (h.2 p hp).below hb⟩
  rcases h.1 with h1 | ⟨g, o, h1, h2⟩
  · exact .inl h1
  · exact .inr ⟨g, o, h1, fun j p hp => carry hb (h2 j p hp)⟩
def ruleC (ps : List PartD) : RuleC := ps.map PartD.c
end Go.Proofs.YtplaohmdllindaaGreatDoor

/- rule.joined. -/
namespace Go.Proofs.YtplaohmdllindaaGreatDoor
open Go.RowKit

/-- A function value that tells an element's text. -/
def TextFn_rng (f : Nat) (lb : Array Value) (G : (Int × Int) → List UInt8) (rs : List (Int × Int)) (w0 : World) : Prop := ∀ r ∈ rs, ∀ W, Below w0.heap.size w0 W → Calls Tryz.prog f (#[.agg #[.int .i64 r.1, .int .i64 r.2]] ++ lb) W fun e w' => e = .returned (.string ⟨(G r).toArray⟩) ∧ Below W.heap.size W w'

set_option maxHeartbeats 2000000 in
theorem joined_rng (f : Nat) (lb : Array Value) (G : (Int × Int) → List UInt8) (eg : ∀ args w, (callFunc f args).run Tryz.prog w = .ok (.enter f args) w) (A : Option Addr) (rs : List (Int × Int)) (c : Nat) (sep : ByteArray) (w : World) (hf : TextFn_rng f lb G rs w) (hr : RngIn w A rs) (hc : rs.length ≤ c) (hc2 : rs.length ≤ 7000000000000)
    (hlen : (Lib.join (rs.map G) sep.data.toList).length ≤ 140737488355328) :
    Calls Tryz.prog 181 #[.slice A rs.length c, .string sep, .func (.func f) #[] lb] w fun e w' => e = .returned (.string ⟨(Lib.join (rs.map G) sep.data.toList).toArray⟩) ∧ Below w.heap.size w w' := by
  have HF := Lib.hid hf
  have HR := Lib.hid hr
  generalize hT : (⟨(Lib.join (rs.map G) sep.data.toList).toArray⟩ : ByteArray) = T
  have HT := Lib.hid hT
  have HL := Lib.hid hlen
  clear hf hr hT hlen
  go_enter Tryz.func181, Tryz.ntmps181
  go_wp2_with fail
  go_loopw [7, 12] (fun v i wr => ∃ (k : Nat) (B : Option Addr) (d : Nat) (xs : List ByteArray), k ≤ rs.length ∧ i = .int .i64 k ∧ v = .slice B xs.length d ∧ xs.length ≤ k ∧ Hid (OwnsS wr w.heap.size (.slice B xs.length d) xs) ∧ Hid (xs.map (·.data.toList) = (rs.take k).map G) ∧ Hid (Below w.heap.size w wr)) (fun _ i _ => rs.length - (intOf i).toNat)
  case atStart => exact ⟨0, none, 0, [], Nat.zero_le _, rfl, rfl, Nat.le_refl _, Lib.hid (OwnsS.nil _ _), Lib.hid rfl, Lib.hid (Below.refl _ _)⟩
  case round =>
    obtain ⟨k, B, d, xs, hk, rfl, rfl, hxs, HO, HX, HB⟩ := hrel
    have sB := HB.out.size
    by_cases hlt : k < rs.length
    · obtain ⟨p, hp⟩ : ∃ p, rs[k]? = some p := ⟨rs[k], List.getElem?_eq_getElem hlt⟩
      obtain ⟨b, o, rfl, hcell⟩ := (HR.out.below HB.out).at (by omega)
      obtain ⟨c0, c1⟩ := hcell k p hp
      have i0 : (0 : Int) ≤ (k : Int) := by omega
      have i1 : (k : Int) < (rs.length : Int) := by omega
      have i2 : (k : Int) ≤ (c : Int) := by omega
      have e1 : IntKind.i64.wrap ((k : Int) + 1) = (k : Int) + 1 := IntWalk.i64_in _ (by omega)
      have KF := Lib.hid (fun W (hb : Below wr.heap.size wr W) => HF.out p (List.mem_of_getElem? hp) W (HB.out.trans (hb.mono sB)))
      have HX2 : Hid ((xs ++ [(⟨(G p).toArray⟩ : ByteArray)]).map (·.data.toList) = (rs.take (k + 1)).map G) := Lib.hid (by
        rw [List.map_append, HX.out, List.take_add_one, hp, List.map_append]
        rfl)
      generalize (⟨(G p).toArray⟩ : ByteArray) = T1 at *
      obtain ⟨a, b2⟩ := p
      simp only at c0 c1 KF
      clear hcell hp
      go_wp2_with fail
      refine (KF.out _ belx).mono ?_
      rintro e w1 ⟨rfl, hb⟩
      have hb1 : Below wr.heap.size wr w1 := belx
      have s1 := hb1.size
      have HO1 := Lib.hid (HO.out.below hb1)
      have HB1 := Lib.hid (HB.out.trans (hb1.mono sB))
      clear hb hb1 HO KF
      go_wp2_with (at_builtin; refine wpList_append_one rfl _ _ rfl T1 rfl rfl (HO1.out.alloc _) (by go_simp) (by simp; omega) (by omega) ?_; intro v' w' ho hoff)
      have hbl := OwnsS.grown (HO1.out.alloc (.cells #[.string T1] 9)) hoff (by simp; omega)
      have HB3 : Hid (Below w.heap.size w w') := Lib.hid ((HB1.out.alloc (by omega) _).trans hbl)
      obtain ⟨A', d', rfl, _⟩ := ho.form
      have HO3 := Lib.hid ho
      have hl3 : (xs ++ [T1]).length ≤ k + 1 := by simp; omega
      clear ho hoff hbl
      go_roundw
      case rel => exact ⟨k + 1, A', d', _, by omega, by go_num, rfl, hl3, HO3, HX2, HB3⟩
      case measure => simp [intOf]; omega
    · obtain rfl : k = rs.length := by omega
      have hxx := HX.out
      rw [List.take_length] at hxx
      have KJ := Lib.hid (strings_joinW (A := B) (c := d) xs.length sep wr rfl HO.out.strs HO.out.cap.2 (by omega) (by rw [hxx]; exact HL.out))
      rw [hxx, HT.out] at KJ
      clear hxx
      go_wp2_with fail
      refine KJ.out.mono ?_
      rintro e w1 ⟨rfl, hb⟩
      go_wp2_with fail
      go_ret
      exact ⟨rfl, HB.out.trans (hb.mono sB)⟩

/-- A function value that tells an element's text. -/
def TextFn_rel (f : Nat) (lb : Array Value) (G : RelD → List UInt8) (rs : List RelD) (w0 : World) : Prop := ∀ r ∈ rs, ∀ W, Below w0.heap.size w0 W → Calls Tryz.prog f (#[relV r.c.op r.c.md r.c.neg r.A r.c.rs.length r.n] ++ lb) W fun e w' => e = .returned (.string ⟨(G r).toArray⟩) ∧ Below W.heap.size W w'

set_option maxHeartbeats 2000000 in
theorem joined_rel (f : Nat) (lb : Array Value) (G : RelD → List UInt8) (eg : ∀ args w, (callFunc f args).run Tryz.prog w = .ok (.enter f args) w) (A : Option Addr) (rs : List RelD) (c : Nat) (sep : ByteArray) (w : World) (hf : TextFn_rel f lb G rs w) (hr : (rs = [] ∨ ∃ g o, A = some ⟨g, o, none⟩ ∧ RelsIn w g o rs)) (hc : rs.length ≤ c) (hc2 : rs.length ≤ 7000000000000)
    (hlen : (Lib.join (rs.map G) sep.data.toList).length ≤ 140737488355328) :
    Calls Tryz.prog 119 #[.slice A rs.length c, .string sep, .func (.func f) #[] lb] w fun e w' => e = .returned (.string ⟨(Lib.join (rs.map G) sep.data.toList).toArray⟩) ∧ Below w.heap.size w w' := by
  have HF := Lib.hid hf
  have HR := Lib.hid hr
  generalize hT : (⟨(Lib.join (rs.map G) sep.data.toList).toArray⟩ : ByteArray) = T
  have HT := Lib.hid hT
  have HL := Lib.hid hlen
  clear hf hr hT hlen
  go_enter Tryz.func119, Tryz.ntmps119
  go_wp2_with fail
  go_loopw [7, 12] (fun v i wr => ∃ (k : Nat) (B : Option Addr) (d : Nat) (xs : List ByteArray), k ≤ rs.length ∧ i = .int .i64 k ∧ v = .slice B xs.length d ∧ xs.length ≤ k ∧ Hid (OwnsS wr w.heap.size (.slice B xs.length d) xs) ∧ Hid (xs.map (·.data.toList) = (rs.take k).map G) ∧ Hid (Below w.heap.size w wr)) (fun _ i _ => rs.length - (intOf i).toNat)
  case atStart => exact ⟨0, none, 0, [], Nat.zero_le _, rfl, rfl, Nat.le_refl _, Lib.hid (OwnsS.nil _ _), Lib.hid rfl, Lib.hid (Below.refl _ _)⟩
  case round =>
    obtain ⟨k, B, d, xs, hk, rfl, rfl, hxs, HO, HX, HB⟩ := hrel
    have sB := HB.out.size
    by_cases hlt : k < rs.length
    · obtain ⟨p, hp⟩ : ∃ p, rs[k]? = some p := ⟨rs[k], List.getElem?_eq_getElem hlt⟩
      obtain ⟨b, o, rfl, hcell⟩ : ∃ g o, A = some ⟨g, o, none⟩ ∧ RelsIn wr g o rs := by
        rcases HR.out with h | ⟨g, o, h1, h2⟩
        · rw [h] at hlt; simp at hlt
        · exact ⟨g, o, h1, h2.below HB.out⟩
      have c0 := hcell k _ 0 _ hp rfl
      have c1 := hcell k _ 1 _ hp rfl
      have c2 := hcell k _ 2 _ hp rfl
      have c3 := hcell k _ 3 _ hp rfl
      simp only [Nat.add_zero] at c0 c1 c2 c3
      have i0 : (0 : Int) ≤ (k : Int) := by omega
      have i1 : (k : Int) < (rs.length : Int) := by omega
      have i2 : (k : Int) ≤ (c : Int) := by omega
      have e1 : IntKind.i64.wrap ((k : Int) + 1) = (k : Int) + 1 := IntWalk.i64_in _ (by omega)
      have KF := Lib.hid (fun W (hb : Below wr.heap.size wr W) => HF.out p (List.mem_of_getElem? hp) W (HB.out.trans (hb.mono sB)))
      have HX2 : Hid ((xs ++ [(⟨(G p).toArray⟩ : ByteArray)]).map (·.data.toList) = (rs.take (k + 1)).map G) := Lib.hid (by
        rw [List.map_append, HX.out, List.take_add_one, hp, List.map_append]
        rfl)
      generalize (⟨(G p).toArray⟩ : ByteArray) = T1 at *
      obtain ⟨⟨op, md, neg, rr⟩, C, nn⟩ := p
      simp only at c0 c1 c2 c3 KF
      clear hcell hp
      go_wp2_with fail
      refine (KF.out _ belx).mono ?_
      rintro e w1 ⟨rfl, hb⟩
      have hb1 : Below wr.heap.size wr w1 := belx
      have s1 := hb1.size
      have HO1 := Lib.hid (HO.out.below hb1)
      have HB1 := Lib.hid (HB.out.trans (hb1.mono sB))
      clear hb hb1 HO KF
      go_wp2_with (at_builtin; refine wpList_append_one rfl _ _ rfl T1 rfl rfl (HO1.out.alloc _) (by go_simp) (by simp; omega) (by omega) ?_; intro v' w' ho hoff)
      have hbl := OwnsS.grown (HO1.out.alloc (.cells #[.string T1] 9)) hoff (by simp; omega)
      have HB3 : Hid (Below w.heap.size w w') := Lib.hid ((HB1.out.alloc (by omega) _).trans hbl)
      obtain ⟨A', d', rfl, _⟩ := ho.form
      have HO3 := Lib.hid ho
      have hl3 : (xs ++ [T1]).length ≤ k + 1 := by simp; omega
      clear ho hoff hbl
      go_roundw
      case rel => exact ⟨k + 1, A', d', _, by omega, by go_num, rfl, hl3, HO3, HX2, HB3⟩
      case measure => simp [intOf]; omega
    · obtain rfl : k = rs.length := by omega
      have hxx := HX.out
      rw [List.take_length] at hxx
      have KJ := Lib.hid (strings_joinW (A := B) (c := d) xs.length sep wr rfl HO.out.strs HO.out.cap.2 (by omega) (by rw [hxx]; exact HL.out))
      rw [hxx, HT.out] at KJ
      clear hxx
      go_wp2_with fail
      refine KJ.out.mono ?_
      rintro e w1 ⟨rfl, hb⟩
      go_wp2_with fail
      go_ret
      exact ⟨rfl, HB.out.trans (hb.mono sB)⟩

/-- A function value that tells an element's text. -/
def TextFn_part (f : Nat) (lb : Array Value) (G : PartD → List UInt8) (rs : List PartD) (w0 : World) : Prop := ∀ r ∈ rs, ∀ W, Below w0.heap.size w0 W → Calls Tryz.prog f (#[.slice r.A r.rs.length r.n] ++ lb) W fun e w' => e = .returned (.string ⟨(G r).toArray⟩) ∧ Below W.heap.size W w'

set_option maxHeartbeats 2000000 in
theorem joined_part (f : Nat) (lb : Array Value) (G : PartD → List UInt8) (eg : ∀ args w, (callFunc f args).run Tryz.prog w = .ok (.enter f args) w) (A : Option Addr) (rs : List PartD) (c : Nat) (sep : ByteArray) (w : World) (hf : TextFn_part f lb G rs w) (hr : (rs = [] ∨ ∃ g o, A = some ⟨g, o, none⟩ ∧ ∀ (j : Nat) p, rs[j]? = some p → w.cell? ⟨g, o + j, none⟩ = some (.slice p.A p.rs.length p.n))) (hc : rs.length ≤ c) (hc2 : rs.length ≤ 7000000000000)
    (hlen : (Lib.join (rs.map G) sep.data.toList).length ≤ 140737488355328) :
    Calls Tryz.prog 117 #[.slice A rs.length c, .string sep, .func (.func f) #[] lb] w fun e w' => e = .returned (.string ⟨(Lib.join (rs.map G) sep.data.toList).toArray⟩) ∧ Below w.heap.size w w' := by
  have HF := Lib.hid hf
  have HR := Lib.hid hr
  generalize hT : (⟨(Lib.join (rs.map G) sep.data.toList).toArray⟩ : ByteArray) = T
  have HT := Lib.hid hT
  have HL := Lib.hid hlen
  clear hf hr hT hlen
  go_enter Tryz.func117, Tryz.ntmps117
  go_wp2_with fail
  go_loopw [7, 12] (fun v i wr => ∃ (k : Nat) (B : Option Addr) (d : Nat) (xs : List ByteArray), k ≤ rs.length ∧ i = .int .i64 k ∧ v = .slice B xs.length d ∧ xs.length ≤ k ∧ Hid (OwnsS wr w.heap.size (.slice B xs.length d) xs) ∧ Hid (xs.map (·.data.toList) = (rs.take k).map G) ∧ Hid (Below w.heap.size w wr)) (fun _ i _ => rs.length - (intOf i).toNat)
  case atStart => exact ⟨0, none, 0, [], Nat.zero_le _, rfl, rfl, Nat.le_refl _, Lib.hid (OwnsS.nil _ _), Lib.hid rfl, Lib.hid (Below.refl _ _)⟩
  case round =>
    obtain ⟨k, B, d, xs, hk, rfl, rfl, hxs, HO, HX, HB⟩ := hrel
    have sB := HB.out.size
    by_cases hlt : k < rs.length
    · obtain ⟨p, hp⟩ : ∃ p, rs[k]? = some p := ⟨rs[k], List.getElem?_eq_getElem hlt⟩
      obtain ⟨b, o, rfl, hcell⟩ : ∃ g o, A = some ⟨g, o, none⟩ ∧ ∀ (j : Nat) p, rs[j]? = some p → wr.cell? ⟨g, o + j, none⟩ = some (.slice p.A p.rs.length p.n) := by
        rcases HR.out with h | ⟨g, o, h1, h2⟩
        · rw [h] at hlt; simp at hlt
        · exact ⟨g, o, h1, fun j p hp => carry HB.out (h2 j p hp)⟩
      have c0 := hcell k _ hp
      have i0 : (0 : Int) ≤ (k : Int) := by omega
      have i1 : (k : Int) < (rs.length : Int) := by omega
      have i2 : (k : Int) ≤ (c : Int) := by omega
      have e1 : IntKind.i64.wrap ((k : Int) + 1) = (k : Int) + 1 := IntWalk.i64_in _ (by omega)
      have KF := Lib.hid (fun W (hb : Below wr.heap.size wr W) => HF.out p (List.mem_of_getElem? hp) W (HB.out.trans (hb.mono sB)))
      have HX2 : Hid ((xs ++ [(⟨(G p).toArray⟩ : ByteArray)]).map (·.data.toList) = (rs.take (k + 1)).map G) := Lib.hid (by
        rw [List.map_append, HX.out, List.take_add_one, hp, List.map_append]
        rfl)
      generalize (⟨(G p).toArray⟩ : ByteArray) = T1 at *
      obtain ⟨ss, C, nn⟩ := p
      simp only at c0 KF
      clear hcell hp
      go_wp2_with fail
      refine (KF.out _ belx).mono ?_
      rintro e w1 ⟨rfl, hb⟩
      have hb1 : Below wr.heap.size wr w1 := belx
      have s1 := hb1.size
      have HO1 := Lib.hid (HO.out.below hb1)
      have HB1 := Lib.hid (HB.out.trans (hb1.mono sB))
      clear hb hb1 HO KF
      go_wp2_with (at_builtin; refine wpList_append_one rfl _ _ rfl T1 rfl rfl (HO1.out.alloc _) (by go_simp) (by simp; omega) (by omega) ?_; intro v' w' ho hoff)
      have hbl := OwnsS.grown (HO1.out.alloc (.cells #[.string T1] 9)) hoff (by simp; omega)
      have HB3 : Hid (Below w.heap.size w w') := Lib.hid ((HB1.out.alloc (by omega) _).trans hbl)
      obtain ⟨A', d', rfl, _⟩ := ho.form
      have HO3 := Lib.hid ho
      have hl3 : (xs ++ [T1]).length ≤ k + 1 := by simp; omega
      clear ho hoff hbl
      go_roundw
      case rel => exact ⟨k + 1, A', d', _, by omega, by go_num, rfl, hl3, HO3, HX2, HB3⟩
      case measure => simp [intOf]; omega
    · obtain rfl : k = rs.length := by omega
      have hxx := HX.out
      rw [List.take_length] at hxx
      have KJ := Lib.hid (strings_joinW (A := B) (c := d) xs.length sep wr rfl HO.out.strs HO.out.cap.2 (by omega) (by rw [hxx]; exact HL.out))
      rw [hxx, HT.out] at KJ
      clear hxx
      go_wp2_with fail
      refine KJ.out.mono ?_
      rintro e w1 ⟨rfl, hb⟩
      go_wp2_with fail
      go_ret
      exact ⟨rfl, HB.out.trans (hb.mono sB)⟩

end Go.Proofs.YtplaohmdllindaaGreatDoor

/- strings.ContainsRune("nivwft", c) at any byte. -/
namespace Go.Proofs.YtplaohmdllindaaGreatDoor
open Go.RowKit

def opsS : ByteArray := ⟨#[110, 105, 118, 119, 102, 116]⟩
theorem all_u8 {P : UInt8 → Prop} (h : ∀ n : Fin 256, P (UInt8.ofNat n.val)) : ∀ c, P c := by
  intro c
  have := h ⟨c.toNat, c.toNat_lt⟩
  simpa using this
theorem ops_low : ∀ c : UInt8, decide (0 ≤ Lib.indexByte opsS.data.toList c) = opsL.contains c := all_u8 (by decide +kernel)
theorem ops_high : ∀ c : UInt8, ¬ c.toNat < 128 → opsL.contains c = false := all_u8 (by decide +kernel)
theorem enc_high : ∀ c : UInt8, ¬ c.toNat < 128 → Utf8.encode (c.toNat : Int) = ⟨#[UInt8.ofNat (192 + c.toNat / 64), UInt8.ofNat (128 + c.toNat % 64)]⟩ := all_u8 (by decide +kernel)
theorem last_high : ∀ c : UInt8, ¬ c.toNat < 128 → ¬ ((UInt8.ofNat (128 + c.toNat % 64)).toNat < 128) := all_u8 (by decide +kernel)
theorem idx_high : ∀ b : UInt8, ¬ b.toNat < 128 → Lib.indexByte [118, 119, 102, 116] b = -1 := all_u8 (by decide +kernel)

set_option maxRecDepth 1000000 in
set_option maxHeartbeats 2000000 in
theorem idx_rune (c : UInt8) (hc : ¬ c.toNat < 128) (w : World) :
    Calls Tryz.prog 198 #[.string opsS, .int .i32 c.toNat] w fun e w' => e = .returned (.int .i64 (-1)) ∧ ∃ n, w' = w.drewN n := by
  have he := enc_high c hc
  have hb := last_high c hc
  have hv : Lib.validRune (c.toNat : Int) = true := by
    have : ∀ c : UInt8, Lib.validRune (c.toNat : Int) = true := all_u8 (by decide +kernel)
    exact this c
  generalize UInt8.ofNat (192 + c.toNat / 64) = b0 at *
  generalize UInt8.ofNat (128 + c.toNat % 64) = b1 at *
  have hi := idx_high b1 hb
  have HI := Lib.hid hi
  have HE := Lib.hid he
  clear he
  have HV := Tryz.utf8_ValidRune (c.toNat : Int)
  rw [hv] at HV
  replace HV := Lib.hid HV
  have c1 : c.toNat < 256 := c.toNat_lt
  have c2 : ¬ ((c.toNat : Int) < 128) := by omega
  have c3 : (0 : Int) ≤ (c.toNat : Int) := by omega
  have c4 : ¬ (c.toNat : Int) = 65533 := by omega
  unfold opsS
  clear hi hv
  go_enter Tryz.func198, Tryz.ntmps198
  go_wp2_with fail
  refine (HV.out _).mono ?_
  rintro e w' ⟨rfl, rfl⟩
  have hx : ∀ W, (convert 21 9 (.int .i32 c.toNat)).run Tryz.prog W = .ok (.string ⟨#[b0, b1]⟩) W := fun W => by rw [run_convert_int_string W _ _ _ _ (by kernel_rfl) Tryz.underlying9, HE.out]
  clear HE
  go_wp2_with fail
  go_step3
  go_wp2_with fail
  have hne : ((105 : Int) != (b1.toNat : Int)) = true := by rw [bne_iff_ne]; omega
  have hne2 : (((((ByteArray.mk #[110, 105, 118, 119, 102, 116])[1]'(by decide)).toNat : Nat) : Int) != (((ByteArray.mk #[b0, b1])[1]'(by show 1 < 2; omega)).toNat : Int)) = true := hne
  have KB : ∀ (T : ByteArray) W, T.data.toList = [118, 119, 102, 116] → Calls Tryz.prog 127 #[.string T, .int .u8 b1.toNat] W fun e w' => e = .returned (.int .i64 (-1)) ∧ w' = W := fun T W hT => by
    have := Tryz.strings_IndexByte T (b1.toNat : Int) W
    rw [show (b1.toNat : Int).toNat.toUInt8 = b1 by simp] at this
    rw [hT, HI.out] at this
    exact this
  have HK := Lib.hid KB
  clear KB HI hx
  go_loop [9] (fun i => i = .int .i64 1) (fun _ => 0)
  case atStart => rfl
  case round =>
    obtain rfl := hrel
    go_wp2_with fail
    go_step3
    go_wp2_with fail
    go_quiet (fail)
    have e1 : IntKind.i64.wrap (2 : Int) = 2 := by decide
    go_wp2_with fail
    go_quiet ((go_at_call 127; (first | exact Calls.quiet_add_left ((HK.out _ _ rfl).mono fun _ _ h => ⟨h.1, h.2.symm⟩) | exact Calls.quiet_left ((HK.out _ _ rfl).mono fun _ _ h => ⟨h.1, h.2.symm⟩))))
    all_goals go_wp2_with fail
    all_goals rw [Exit.noGoto_ret]
    all_goals go_wp2_with fail
    all_goals (try rw [Exit.noGoto_ret])
    all_goals go_ret
    all_goals exact ⟨rfl, _, rfl⟩

theorem cont_op (c : UInt8) (w : World) :
    Calls Tryz.prog 152 #[.string ⟨#[110, 105, 118, 119, 102, 116]⟩, .int .i32 c.toNat] w fun e w' => e = .returned (.bool (opsL.contains c)) ∧ ∃ n, w' = w.drewN n := by
  by_cases hc : c.toNat < 128
  · refine (Tryz.strings_ContainsRune_ascii opsS (c.toNat : Int) w (by omega) (by omega)).mono ?_
    rintro e w' ⟨rfl, rfl⟩
    refine ⟨?_, 0, rfl⟩
    rw [show (c.toNat : Int).toNat.toUInt8 = c by simp, ops_low c]
  · rw [ops_high c hc]
    have K := Lib.hid (idx_rune c hc w)
    go_enter Tryz.func152, Tryz.ntmps152
    go_wp2_with fail
    refine K.out.mono ?_
    rintro e w' ⟨rfl, n, rfl⟩
    go_wp2_with fail
    go_ret
    exact ⟨rfl, n, rfl⟩
end Go.Proofs.YtplaohmdllindaaGreatDoor

/- rule.fine. -/
namespace Go.Proofs.YtplaohmdllindaaGreatDoor
open Go.RowKit

set_option maxHeartbeats 1000000 in
theorem rng_bad (p : Int × Int) (w : World) :
    Calls Tryz.prog 183 #[.agg #[.int .i64 p.1, .int .i64 p.2]] w fun e w' => e = .returned (.bool (rngBad p)) ∧ Below w.heap.size w w' := by
  obtain ⟨a, b⟩ := p
  unfold rngBad
  simp only
  by_cases h1 : a < 0
  · rw [decide_eq_true h1]
    go_enter Tryz.func183, Tryz.ntmps183
    go_wp2_with fail
    go_ret
    exact ⟨rfl, belx⟩
  · by_cases h2 : b < a
    · rw [decide_eq_false h1, decide_eq_true h2]
      go_enter Tryz.func183, Tryz.ntmps183
      go_wp2_with fail
      go_ret
      exact ⟨rfl, belx⟩
    · rw [decide_eq_false h1, decide_eq_false h2]
      by_cases h3 : 1000000 < b
      · rw [decide_eq_true h3]
        go_enter Tryz.func183, Tryz.ntmps183
        go_wp2_with fail
        go_ret
        exact ⟨rfl, belx⟩
      · rw [decide_eq_false h3]
        go_enter Tryz.func183, Tryz.ntmps183
        go_wp2_with fail
        go_ret
        exact ⟨rfl, belx⟩

/-- A function value that tells something of a range. -/
def RngFn (f : Nat) (lb : Array Value) (P : Int × Int → Bool) (w0 : World) : Prop := ∀ (p : Int × Int) W, Below w0.heap.size w0 W → Calls Tryz.prog f (#[.agg #[.int .i64 p.1, .int .i64 p.2]] ++ lb) W fun e w' => e = .returned (.bool (P p)) ∧ Below W.heap.size W w'

def IdxRes (R : Bool) (e : Ending) : Prop := ∃ v : Int, e = .returned (.int .i64 v) ∧ decide (0 ≤ v) = R

set_option maxHeartbeats 1000000 in
theorem idx_rng (f : Nat) (lb : Array Value) (P : Int × Int → Bool) (eg : ∀ args w, (callFunc f args).run Tryz.prog w = .ok (.enter f args) w) (A : Option Addr) (rs : List (Int × Int)) (c : Nat) (w : World) (hf : RngFn f lb P w) (hr : RngIn w A rs) (hc : rs.length ≤ c) (hc2 : c ≤ 9223372036854775807) :
    Calls Tryz.prog 184 #[.slice A rs.length c, .func (.func f) #[] lb] w fun e w' => IdxRes (rs.any P) e ∧ Below w.heap.size w w' := by
  have HF := Lib.hid hf
  have HR := Lib.hid hr
  generalize hR : rs.any P = R
  have HRR := Lib.hid hR
  clear hf hr hR
  have HP : Hid (∀ v : Int, decide (0 ≤ v) = R → IdxRes R (.returned (.int .i64 v))) := Lib.hid (fun v h => ⟨v, rfl, h⟩)
  go_enter Tryz.func184, Tryz.ntmps184
  go_wp2_with fail
  go_loopw [5, 8] (fun _ i wr => ∃ k : Nat, k ≤ rs.length ∧ i = .int .i64 k ∧ Hid ((rs.take k).any P = false) ∧ Hid (Below w.heap.size w wr)) (fun _ i _ => rs.length - (intOf i).toNat)
  case atStart => exact ⟨0, Nat.zero_le _, rfl, Lib.hid rfl, Lib.hid (Below.refl _ _)⟩
  case round =>
    obtain ⟨k, hk, rfl, HN, HB⟩ := hrel
    by_cases hlt : k < rs.length
    · obtain ⟨b, o, rfl, hcell⟩ := (HR.out.below HB.out).at (by omega)
      obtain ⟨p, hp⟩ : ∃ p, rs[k]? = some p := ⟨rs[k], List.getElem?_eq_getElem hlt⟩
      obtain ⟨c0, c1⟩ := hcell k p hp
      have i0 : (0 : Int) ≤ (k : Int) := by omega
      have i1 : (k : Int) < (rs.length : Int) := by omega
      have i2 : (k : Int) ≤ (c : Int) := by omega
      have e1 : IntKind.i64.wrap ((k : Int) + 1) = (k : Int) + 1 := IntWalk.i64_in _ (by omega)
      have KF := Lib.hid (HF.out p wr HB.out)
      have hst : (rs.take (k + 1)).any P = P p := by
        rw [List.take_add_one, hp, List.any_append, HN.out]
        simp
      have hin : P p = true → R = true := fun h => by
        rw [← HRR.out, List.any_eq_true]
        exact ⟨p, List.mem_of_getElem? hp, h⟩
      obtain ⟨a, b2⟩ := p
      simp only at c0 c1 KF
      have sB := HB.out.size
      cases hq : P (a, b2)
      · have HS := Lib.hid (hst.trans hq)
        rw [hq] at KF
        clear hcell hst hin hp hq
        go_wp2_with fail
        refine KF.out.mono ?_
        rintro e w1 ⟨rfl, hb⟩
        go_wp2_with fail
        go_roundw
        case rel => exact ⟨k + 1, by omega, by go_num, HS, Lib.hid (HB.out.trans (hb.mono sB))⟩
        case measure => simp [intOf]; omega
      · have hR1 := hin hq
        have HD : Hid (decide ((0 : Int) ≤ (k : Int)) = R) := Lib.hid (by rw [hR1]; exact decide_eq_true i0)
        rw [hq] at KF
        clear hcell hst hin hp hq hR1
        go_wp2_with fail
        refine KF.out.mono ?_
        rintro e w1 ⟨rfl, hb⟩
        go_wp2_with fail
        go_ret
        exact ⟨HP.out _ HD.out, HB.out.trans (hb.mono sB)⟩
    · obtain rfl : k = rs.length := by omega
      have HD : Hid (decide ((0 : Int) ≤ -1) = R) := Lib.hid (by
        have := HN.out
        rw [List.take_length, HRR.out] at this
        rw [this]
        decide)
      go_wp2_with fail
      go_ret
      exact ⟨HP.out _ HD.out, HB.out⟩

theorem any_rng (f : Nat) (lb : Array Value) (P : Int × Int → Bool) (eg : ∀ args w, (callFunc f args).run Tryz.prog w = .ok (.enter f args) w) (A : Option Addr) (rs : List (Int × Int)) (c : Nat) (w : World) (hf : RngFn f lb P w) (hr : RngIn w A rs) (hc : rs.length ≤ c) (hc2 : c ≤ 9223372036854775807) :
    Calls Tryz.prog 124 #[.slice A rs.length c, .func (.func f) #[] lb] w fun e w' => e = .returned (.bool (rs.any P)) ∧ Below w.heap.size w w' := by
  have K := Lib.hid (idx_rng f lb P eg A rs c w hf hr hc hc2)
  clear hf hr
  generalize rs.any P = R at *
  go_enter Tryz.func124, Tryz.ntmps124
  go_wp2_with fail
  refine K.out.mono ?_
  rintro e w1 ⟨⟨v, rfl, hv⟩, hb⟩
  have HV := Lib.hid hv
  clear hv
  go_wp2_with fail
  go_ret
  exact ⟨ret_bool HV.out, hb⟩
end Go.Proofs.YtplaohmdllindaaGreatDoor

/- rule.fine and rule.check. -/
namespace Go.Proofs.YtplaohmdllindaaGreatDoor
open Go.RowKit

set_option maxHeartbeats 2000000 in
theorem rule_fine (r : RelD) (w : World) (h : r.fits w) :
    Calls Tryz.prog 121 #[relV r.c.op r.c.md r.c.neg r.A r.c.rs.length r.n] w fun e w' => e = .returned (.bool r.c.fine) ∧ Below w.heap.size w w' := by
  obtain ⟨⟨op, md, neg, rs⟩, A, n⟩ := r
  obtain ⟨h1, h2, h3, h4, _⟩ := h
  simp only at h1 h2 h3 h4
  have KC := Lib.hid (cont_op op)
  have KA := Lib.hid (fun W (hb : Below w.heap.size w W) => any_rng 183 #[] rngBad (enters_of Tryz.func183 (by kernel_rfl) rfl) A rs n W (fun p W' _ => rng_bad p W') (h1.below hb) h2 h3)
  have ho : op.toNat < 256 := op.toNat_lt
  have hf : (RelC.mk op md neg rs).fine = (opsL.contains op && !decide (md < 0) && !decide (1000000 < md) && !decide (rs.length = 0) && !rs.any rngBad) := rfl
  simp only
  rw [hf]
  clear h1 hf
  generalize opsL.contains op = q at *
  generalize rs.any rngBad = R at *
  cases q
  · simp only [Bool.false_and]
    go_enter Tryz.func121, Tryz.ntmps121
    go_wp2_with fail
    refine (KC.out _).mono ?_
    rintro e w1 ⟨rfl, m, rfl⟩
    go_wp2_with fail
    go_ret
    exact ⟨rfl, belx⟩
  · by_cases m0 : md < 0
    · rw [decide_eq_true m0]
      simp only [Bool.true_and, Bool.not_true, Bool.false_and]
      go_enter Tryz.func121, Tryz.ntmps121
      go_wp2_with fail
      refine (KC.out _).mono ?_
      rintro e w1 ⟨rfl, m, rfl⟩
      go_wp2_with fail
      go_ret
      exact ⟨rfl, belx⟩
    · by_cases m1 : 1000000 < md
      · rw [decide_eq_false m0, decide_eq_true m1]
        simp only [Bool.true_and, Bool.not_true, Bool.not_false, Bool.false_and]
        go_enter Tryz.func121, Tryz.ntmps121
        go_wp2_with fail
        refine (KC.out _).mono ?_
        rintro e w1 ⟨rfl, m, rfl⟩
        go_wp2_with fail
        go_ret
        exact ⟨rfl, belx⟩
      · by_cases l0 : rs.length = 0
        · rw [decide_eq_false m0, decide_eq_false m1, decide_eq_true l0]
          simp only [Bool.true_and, Bool.not_true, Bool.not_false, Bool.false_and]
          rw [l0]
          go_enter Tryz.func121, Tryz.ntmps121
          go_wp2_with fail
          refine (KC.out _).mono ?_
          rintro e w1 ⟨rfl, m, rfl⟩
          go_wp2_with fail
          go_ret
          exact ⟨rfl, belx⟩
        · rw [decide_eq_false m0, decide_eq_false m1, decide_eq_false l0]
          simp only [Bool.true_and, Bool.not_true, Bool.not_false, Bool.false_and]
          have l1 : ((rs.length : Int) == 0) = false := by rw [beq_eq_false_iff_ne]; omega
          go_enter Tryz.func121, Tryz.ntmps121
          go_wp2_with fail
          refine (KC.out _).mono ?_
          rintro e w1 ⟨rfl, m, rfl⟩
          go_wp2_with fail
          refine (KA.out _ belx).mono ?_
          rintro e w2 ⟨rfl, hb⟩
          go_wp2_with fail
          go_ret
          exact ⟨rfl, belx⟩
end Go.Proofs.YtplaohmdllindaaGreatDoor

/- rule.check. -/
namespace Go.Proofs.YtplaohmdllindaaGreatDoor
open Go.RowKit

theorem ruleErr_bad {r : RuleC} {p : List RelC} (hp : p ∈ r) (h : p = [] ∨ ∃ x ∈ p, x.fine = false) : ruleErr r = 3 := by
  unfold ruleErr
  split
  · rfl
  · rw [if_neg]
    intro hall
    have := List.all_eq_true.1 hall p hp
    rw [Bool.and_eq_true, Bool.not_eq_true', decide_eq_false_iff_not, List.all_eq_true] at this
    rcases h with h | ⟨x, hx, hf⟩
    · exact this.1 (by rw [h]; rfl)
    · rw [this.2 x hx] at hf
      cases hf
theorem ruleErr_good {r : RuleC} (h0 : 0 < r.length) (h : ∀ p ∈ r, 0 < p.length ∧ ∀ x ∈ p, x.fine = true) : ruleErr r = if 20 < ruleCount r then 4 else 0 := by
  unfold ruleErr
  rw [if_neg (by omega), if_pos]
  rw [List.all_eq_true]
  intro p hp
  rw [Bool.and_eq_true, Bool.not_eq_true', decide_eq_false_iff_not, List.all_eq_true]
  exact ⟨by have := (h p hp).1; omega, (h p hp).2⟩

theorem part_c_len (p : PartD) : p.c.length = p.rs.length := by unfold PartD.c; rw [List.length_map]
set_option maxHeartbeats 4000000 in
theorem rule_check (A : Option Addr) (c : Nat) (ps : List PartD) (w : World) (h : RuleIn w A ps) (hc : ps.length ≤ c) (hc2 : c ≤ 9223372036854775807) (hn : ruleCount (ruleC ps) ≤ 9000000000000000000) :
    Calls Tryz.prog 60 #[.slice A ps.length c] w fun e w' => e = .returned (errOf (ruleErr (ruleC ps))) ∧ Below w.heap.size w w' := by
  by_cases h0 : ps.length = 0
  · have he : ruleErr (ruleC ps) = 3 := by
      unfold ruleErr ruleC
      rw [if_pos (by rw [List.length_map]; exact h0)]
    rw [he, h0]
    go_enter Tryz.func60, Tryz.ntmps60
    go_wp2_with fail
    go_ret
    exact ⟨rfl, belx⟩
  · have hl0 : ((ps.length : Int) == 0) = false := by rw [beq_eq_false_iff_ne]; omega
    have HR := Lib.hid h
    have HBAD : Hid (∀ p ∈ ps, (p.rs = [] ∨ ∃ x ∈ p.rs, x.c.fine = false) → ruleErr (ruleC ps) = 3) := Lib.hid (fun p hp h => ruleErr_bad (List.mem_map_of_mem (f := PartD.c) hp) (by
      rcases h with h | ⟨x, hx, hf⟩
      · left; unfold PartD.c; rw [h]; rfl
      · right; exact ⟨x.c, List.mem_map_of_mem (f := RelD.c) hx, hf⟩))
    have HGOOD : Hid ((∀ p ∈ ps, 0 < p.rs.length ∧ ∀ x ∈ p.rs, x.c.fine = true) → ruleErr (ruleC ps) = if 20 < ruleCount (ruleC ps) then 4 else 0) := Lib.hid (fun hall => ruleErr_good (by unfold ruleC; rw [List.length_map]; omega) (fun q hq => by
      obtain ⟨p, hp, rfl⟩ := List.mem_map.1 hq
      refine ⟨by rw [part_c_len]; exact (hall p hp).1, fun x hx => ?_⟩
      obtain ⟨y, hy, rfl⟩ := List.mem_map.1 hx
      exact (hall p hp).2 y hy))
    have HCNT : Hid (∀ k p, ps[k]? = some p → ruleCount (ruleC (ps.take (k + 1))) = ruleCount (ruleC (ps.take k)) + p.rs.length ∧ ruleCount (ruleC (ps.take (k + 1))) ≤ 9000000000000000000) := Lib.hid (fun k p hp => by
      have e : ∀ k, ruleC (ps.take k) = (ruleC ps).take k := fun k => by unfold ruleC; rw [List.map_take]
      have h1 : (ruleC ps)[k]? = some p.c := by unfold ruleC; rw [List.getElem?_map, hp]; rfl
      have h2 := count_take_succ (ruleC ps) k p.c h1
      have h3 := count_take_le (ruleC ps) (k + 1)
      rw [e, e, h2, part_c_len]
      rw [h2, part_c_len] at h3
      exact ⟨rfl, by omega⟩)
    have HALL : Hid (ruleCount (ruleC ps) = ruleCount (ruleC (ps.take ps.length))) := Lib.hid (by rw [List.take_length])
    generalize ruleErr (ruleC ps) = E at *
    clear h hn h0
    go_enter Tryz.func60, Tryz.ntmps60
    go_wp2_with fail
    go_loopw [3, 14] (fun m i wr => ∃ k : Nat, k ≤ ps.length ∧ i = .int .i64 k ∧ m = .int .i64 (ruleCount (ruleC (ps.take k)) : Nat) ∧ Hid (∀ j p, j < k → ps[j]? = some p → 0 < p.rs.length ∧ ∀ x ∈ p.rs, x.c.fine = true) ∧ Hid (Below w.heap.size w wr)) (fun _ i _ => ps.length - (intOf i).toNat)
    case atStart => exact ⟨0, Nat.zero_le _, rfl, rfl, Lib.hid (fun j p hj => by omega), Lib.hid (Below.refl _ _)⟩
    case round =>
      obtain ⟨k, hk, rfl, rfl, HG, HB⟩ := hrel
      by_cases hlt : k < ps.length
      · obtain ⟨p, hp⟩ : ∃ p, ps[k]? = some p := ⟨ps[k], List.getElem?_eq_getElem hlt⟩
        have hpm := List.mem_of_getElem? hp
        have hrin := HR.out.below HB.out
        obtain ⟨g, o, rfl, hcell⟩ : ∃ g o, A = some ⟨g, o, none⟩ ∧ ∀ (j : Nat) p, ps[j]? = some p → wr.cell? ⟨g, o + j, none⟩ = some (.slice p.A p.rs.length p.n) := by
          rcases hrin.1 with h | h
          · rw [h] at hlt; simp at hlt
          · exact h
        have hc0 := hcell k p hp
        have hfit := hrin.2 p hpm
        have HBp := Lib.hid (HBAD.out p hpm)
        have HCk := Lib.hid (HCNT.out k p hp)
        have HGk : Hid ((0 < p.rs.length ∧ ∀ x ∈ p.rs, x.c.fine = true) → ∀ j q, j < k + 1 → ps[j]? = some q → 0 < q.rs.length ∧ ∀ x ∈ q.rs, x.c.fine = true) := Lib.hid (fun hq j q hj hjq => by
          by_cases h : j < k
          · exact HG.out j q h hjq
          · obtain rfl : j = k := by omega
            rw [hp] at hjq
            cases hjq
            exact hq)
        have i0 : (0 : Int) ≤ (k : Int) := by omega
        have i1 : (k : Int) < (ps.length : Int) := by omega
        have i2 : (k : Int) ≤ (c : Int) := by omega
        have e1 : IntKind.i64.wrap ((k : Int) + 1) = (k : Int) + 1 := IntWalk.i64_in _ (by omega)
        have sB := HB.out.size
        obtain ⟨rs, B, n⟩ := p
        simp only at hc0 HBp HCk HGk
        obtain ⟨f1, f2, f3, f4⟩ := hfit
        simp only at f1 f2 f3 f4
        obtain ⟨cn, hcn⟩ : ∃ cn : Nat, cn = ruleCount (ruleC (ps.take k)) := ⟨_, rfl⟩
        rw [← hcn] at HCk ⊢
        have hcb : cn + rs.length ≤ 9000000000000000000 := by have := HCk.out; omega
        clear hcn hp hpm hrin hcell HG
        by_cases hr0 : rs.length = 0
        · have hE : E = 3 := HBp.out (.inl (List.length_eq_zero_iff.1 hr0))
          subst hE
          rw [hr0] at hc0
          go_wp2_with fail
          go_ret
          exact ⟨rfl, HB.out⟩
        · have hl1 : ((rs.length : Int) == 0) = false := by rw [beq_eq_false_iff_ne]; omega
          obtain ⟨g2, o2, rfl, hrels⟩ : ∃ g o, B = some ⟨g, o, none⟩ ∧ RelsIn wr g o rs := by
            rcases f1 with h | h
            · rw [h] at hr0; exact absurd rfl hr0
            · exact h
          obtain ⟨r0, hr0'⟩ : ∃ r, rs[0]? = some r := ⟨rs[0]'(by omega), List.getElem?_eq_getElem _⟩
          have a0 := hrels 0 _ 0 _ hr0' rfl
          have a1 := hrels 0 _ 1 _ hr0' rfl
          have a2 := hrels 0 _ 2 _ hr0' rfl
          have a3 := hrels 0 _ 3 _ hr0' rfl
          simp only [Nat.zero_mul, Nat.add_zero] at a0 a1 a2 a3
          have KF := Lib.hid (rule_fine r0 wr (f4 r0 (List.mem_of_getElem? hr0')))
          have HRL := Lib.hid hrels
          have HF4 := Lib.hid f4
          have j1 : (0 : Int) < (rs.length : Int) := by omega
          have j2 : (rs.length : Int) ≤ (n : Int) := by omega
          have hb0 : r0.c.fine = false → E = 3 := fun h => HBp.out (.inr ⟨r0, List.mem_of_getElem? hr0', h⟩)
          obtain ⟨⟨op, md, neg, rr⟩, C, nn⟩ := r0
          simp only at a0 a1 a2 a3 KF hb0
          clear hrels f1 f4
          cases hq : (RelC.mk op md neg rr).fine
          · rw [hq] at KF
            have hE := hb0 hq
            subst hE
            clear hb0 hq hr0'
            go_wp2_with fail
            refine KF.out.mono ?_
            rintro e w1 ⟨rfl, hb⟩
            go_wp2_with fail
            go_ret
            exact ⟨rfl, HB.out.trans (hb.mono sB)⟩
          · rw [hq] at KF
            clear hb0 hq hr0'
            go_wp2_with fail
            refine KF.out.mono ?_
            rintro e w1 ⟨rfl, hb⟩
            have HB1 := Lib.hid (HB.out.trans (hb.mono sB))
            have HR1 := Lib.hid (HRL.out.below hb)
            have HF1 := Lib.hid (fun r hr => (HF4.out r hr).below hb)
            have s1 := HB1.out.size
            clear hb a0 a1 a2 a3
            go_wp2_with fail
            go_loopw [3, 31] (fun m i wx => ∃ j : Nat, j ≤ rs.length ∧ i = .int .i64 j ∧ m = .int .i64 (cn + j : Nat) ∧ Hid (∀ i r, i < j → rs[i]? = some r → r.c.fine = true) ∧ Hid (Below w1.heap.size w1 wx)) (fun _ i _ => rs.length - (intOf i).toNat)
            case atStart => exact ⟨0, Nat.zero_le _, rfl, rfl, Lib.hid (fun i r hi => by omega), Lib.hid (Below.refl _ _)⟩
            case round =>
              obtain ⟨j, hj, rfl, rfl, HJ, HB2⟩ := hrel
              have sB2 := HB2.out.size
              by_cases hlt2 : j < rs.length
              · obtain ⟨r, hr⟩ : ∃ r, rs[j]? = some r := ⟨rs[j], List.getElem?_eq_getElem hlt2⟩
                have hrels := HR1.out.below HB2.out
                have a0 := hrels j _ 0 _ hr rfl
                have a1 := hrels j _ 1 _ hr rfl
                have a2 := hrels j _ 2 _ hr rfl
                have a3 := hrels j _ 3 _ hr rfl
                simp only [Nat.add_zero] at a0 a1 a2 a3
                have KF2 := Lib.hid (fun W (hb : Below wr.heap.size wr W) => rule_fine r W (((HF1.out r (List.mem_of_getElem? hr)).below HB2.out).below hb))
                have hb2 : r.c.fine = false → E = 3 := fun h => HBp.out (.inr ⟨r, List.mem_of_getElem? hr, h⟩)
                have hst : r.c.fine = true → ∀ i u, i < j + 1 → rs[i]? = some u → u.c.fine = true := fun hq i u hi hu => by
                  by_cases h : i < j
                  · exact HJ.out i u h hu
                  · obtain rfl : i = j := by omega
                    rw [hr] at hu
                    cases hu
                    exact hq
                have q0 : (0 : Int) ≤ (j : Int) := by omega
                have q1 : (j : Int) < (rs.length : Int) := by omega
                have q2 : (j : Int) ≤ (n : Int) := by omega
                have e2 : IntKind.i64.wrap ((j : Int) + 1) = (j : Int) + 1 := IntWalk.i64_in _ (by omega)
                have e3 : IntKind.i64.wrap (((cn + j : Nat) : Int) + 1) = ((cn + j : Nat) : Int) + 1 := IntWalk.i64_in _ (by omega)
                obtain ⟨⟨op, md, neg, rr⟩, C, nn⟩ := r
                simp only at a0 a1 a2 a3 KF2 hb2 hst
                clear hrels hr
                cases hq : (RelC.mk op md neg rr).fine
                · rw [hq] at KF2
                  have hE := hb2 hq
                  subst hE
                  clear hb2 hq hst
                  go_wp2_with fail
                  refine (KF2.out _ belx).mono ?_
                  rintro e w3 ⟨rfl, hb⟩
                  go_wp2_with fail
                  go_ret
                  exact ⟨rfl, ((HB1.out.trans (HB2.out.mono s1)).alloc (by omega) _).trans (hb.mono (by simp; omega))⟩
                · rw [hq] at KF2
                  have HS := Lib.hid (hst hq)
                  clear hb2 hq hst
                  go_wp2_with fail
                  refine (KF2.out _ belx).mono ?_
                  rintro e w3 ⟨rfl, hb⟩
                  have HB3 : Hid (Below w1.heap.size w1 w3) := Lib.hid (((HB2.out.alloc sB2 _).trans (hb.mono (by simp; omega))))
                  go_wp2_with fail
                  go_roundw
                  case rel => exact ⟨j + 1, by omega, by go_num, by go_num, HS, HB3⟩
                  case measure => simp [intOf]; omega
              · obtain rfl : j = rs.length := by omega
                have HGn := Lib.hid (HGk.out ⟨by omega, fun x hx => by
                  obtain ⟨i, hi⟩ := List.mem_iff_getElem?.1 hx
                  exact HJ.out i x (List.getElem?_eq_some_iff.1 hi).1 hi⟩)
                have HBn := Lib.hid (HB1.out.trans (HB2.out.mono s1))
                have hcc := HCk.out.1
                rw [← hcc]
                clear hcc
                go_wp2_with fail
                go_roundw
                case rel => exact ⟨k + 1, by omega, by go_num, rfl, HGn, HBn⟩
                case measure => simp [intOf]; omega
      · obtain rfl : k = ps.length := by omega
        have hE := HGOOD.out (fun p hp => by
          obtain ⟨i, hi⟩ := List.mem_iff_getElem?.1 hp
          exact HG.out i p (List.getElem?_eq_some_iff.1 hi).1 hi)
        rw [HALL.out] at hE
        generalize ruleCount (ruleC (ps.take ps.length)) = N at *
        by_cases h20 : 20 < N
        · rw [if_pos h20] at hE
          subst hE
          have h20' : (20 : Int) < (N : Int) := by omega
          go_wp2_with fail
          go_ret
          exact ⟨rfl, HB.out⟩
        · rw [if_neg h20] at hE
          subst hE
          have h20' : ¬ (20 : Int) < (N : Int) := by omega
          go_wp2_with fail
          go_ret
          exact ⟨rfl, HB.out⟩
end Go.Proofs.YtplaohmdllindaaGreatDoor

/- rule.holds of a fine rel. -/
namespace Go.Proofs.YtplaohmdllindaaGreatDoor
open Go.RowKit Go.Maps

abbrev opsV (i v w f t : Int) : Value := .agg #[.int .i64 i, .int .i64 v, .int .i64 w, .int .i64 f, .int .i64 t]
def OpsC.fits (o : OpsC) : Prop := (-9223372036854775808 ≤ o.i ∧ o.i ≤ 9223372036854775807) ∧ (-9223372036854775808 ≤ o.v ∧ o.v ≤ 9223372036854775807) ∧ (-9223372036854775808 ≤ o.w ∧ o.w ≤ 9223372036854775807) ∧ (-9223372036854775808 ≤ o.f ∧ o.f ≤ 9223372036854775807) ∧ (-9223372036854775808 ≤ o.t ∧ o.t ≤ 9223372036854775807)

set_option maxHeartbeats 1000000 in
theorem in_rng (x : Int) (b : Nat) (p : Int × Int) (w : World) (hx : w.cell? ⟨b, 0, none⟩ = some (.int .i64 x)) :
    Calls Tryz.prog 125 #[.agg #[.int .i64 p.1, .int .i64 p.2], .pointer (some ⟨b, 0, none⟩)] w fun e w' => e = .returned (.bool (inRng x p)) ∧ Below w.heap.size w w' := by
  have hlt := lt_of_cell hx
  obtain ⟨a, c⟩ := p
  unfold inRng
  simp only
  by_cases h1 : a ≤ x
  · rw [decide_eq_true h1]
    by_cases h2 : x ≤ c
    · rw [decide_eq_true h2]
      go_enter Tryz.func125, Tryz.ntmps125
      go_wp2_with fail
      go_ret
      exact ⟨rfl, belx⟩
    · rw [decide_eq_false h2]
      go_enter Tryz.func125, Tryz.ntmps125
      go_wp2_with fail
      go_ret
      exact ⟨rfl, belx⟩
  · rw [decide_eq_false h1]
    go_enter Tryz.func125, Tryz.ntmps125
    go_wp2_with fail
    go_ret
    exact ⟨rfl, belx⟩

theorem wf_u8 : ∀ c : UInt8, (Lit.int .u8 (c.toNat : Int)).wf = true := all_u8 (by decide +kernel)
abbrev MD := DataW Unit
def opsD (o : OpsC) : MD := (((((((.map [] : MD).put (.int .u8 110) (.lit (.int .i64 o.i))).put (.int .u8 105) (.lit (.int .i64 o.i))).put (.int .u8 118) (.lit (.int .i64 o.v))).put (.int .u8 119) (.lit (.int .i64 o.w))).put (.int .u8 102) (.lit (.int .i64 o.f))).put (.int .u8 116) (.lit (.int .i64 o.t)))
theorem opsD_at (o : OpsC) (c : UInt8) (h : opsL.contains c = true) : (opsD o).atKey (.int .u8 c.toNat) (.lit (.int .i64 0)) = .lit (.int .i64 (o.at c)) := by
  simp [opsL] at h
  rcases h with rfl | rfl | rfl | rfl | rfl | rfl <;> rfl

set_option maxHeartbeats 4000000 in
set_option maxRecDepth 100000 in
theorem rule_holds (r : RelD) (o : OpsC) (w : World) (h : r.fits w) (hf : r.c.fine = true) (ho : o.fits) :
    Calls Tryz.prog 65 #[relV r.c.op r.c.md r.c.neg r.A r.c.rs.length r.n, opsV o.i o.v o.w o.f o.t] w fun e w' => e = .returned (.bool (r.c.holds o)) ∧ Below w.heap.size w w' := by
  obtain ⟨⟨op, md, neg, rs⟩, A, n⟩ := r
  obtain ⟨h1, h2, h3, h4, _⟩ := h
  have hmd := fine_md hf
  have hop : opsL.contains op = true := by
    have := fine_head hf
    unfold RelC.headB at this
    simp only [Bool.and_eq_true] at this
    exact this.1.1.1
  have hat := opsD_at o op hop
  unfold opsD at hat
  have hwf := wf_u8 op
  generalize hRR : RelC.holds (RelC.mk op md neg rs) o = RR
  have HRR := Lib.hid hRR
  clear hRR
  obtain ⟨oi, ov, ow, of', ot⟩ := o
  obtain ⟨o1, o2, o3, o4, o5⟩ := ho
  simp only at h1 h2 h3 hmd o1 o2 o3 o4 o5 ⊢
  have hb : op.toNat < 256 := op.toNat_lt
  obtain ⟨w0, hw0⟩ : ∃ w0, w0 = ((w.alloc (.cells #[.int .u8 op.toNat, .int .i64 md, .bool neg, .slice A rs.length n] 141)).alloc (.cells #[.int .i64 oi, .int .i64 ov, .int .i64 ow, .int .i64 of', .int .i64 ot] 73)).alloc (.map #[] 0) := ⟨_, rfl⟩
  have hown0 : w0.ownsMap Tryz.prog 5 (plainElem Tryz.prog 3) (w.heap.size + 1 + 1) 0 (.map [] : MD) := by rw [hw0]; have := World.ownsMap_made ((w.alloc (.cells #[.int .u8 op.toNat, .int .i64 md, .bool neg, .slice A rs.length n] 141)).alloc (.cells #[.int .i64 oi, .int .i64 ov, .int .i64 ow, .int .i64 of', .int .i64 ot] 73)) Tryz.prog 5 (plainElem (H := Unit) Tryz.prog 3); simpa using this
  have c0_0 : w0.cell? ⟨w.heap.size, 0, none⟩ = some (.int .u8 op.toNat) := by rw [hw0]; go_simp
  have c1_0 : w0.cell? ⟨w.heap.size, 1, none⟩ = some (.int .i64 md) := by rw [hw0]; go_simp
  have c2_0 : w0.cell? ⟨w.heap.size, 2, none⟩ = some (.bool neg) := by rw [hw0]; go_simp
  have c3_0 : w0.cell? ⟨w.heap.size, 3, none⟩ = some (.slice A rs.length n) := by rw [hw0]; go_simp
  have c4_0 : w0.cell? ⟨w.heap.size + 1, 0, none⟩ = some (.int .i64 oi) := by rw [hw0]; go_simp
  have c5_0 : w0.cell? ⟨w.heap.size + 1, 1, none⟩ = some (.int .i64 ov) := by rw [hw0]; go_simp
  have c6_0 : w0.cell? ⟨w.heap.size + 1, 2, none⟩ = some (.int .i64 ow) := by rw [hw0]; go_simp
  have c7_0 : w0.cell? ⟨w.heap.size + 1, 3, none⟩ = some (.int .i64 of') := by rw [hw0]; go_simp
  have c8_0 : w0.cell? ⟨w.heap.size + 1, 4, none⟩ = some (.int .i64 ot) := by rw [hw0]; go_simp
  obtain ⟨w1, hr1, hown1, hg1⟩ := World.ownsMap.update hown0 (int_keyed Tryz.underlying5) Tryz.underlying232 (by decide) (keyOf_int_mk Tryz.underlying5 (a := 110) (by decide)) (plainElem_int Tryz.underlying3 (a := oi) (by go_wf))
  have hf1 := grown_off (l := [w.heap.size + 1 + 1]) hg1 (fun k hk => by cases hk; simp)
  have c0_1 := hf1.cell c0_0 (by first | (simp; done) | (simp; omega))
  have c1_1 := hf1.cell c1_0 (by first | (simp; done) | (simp; omega))
  have c2_1 := hf1.cell c2_0 (by first | (simp; done) | (simp; omega))
  have c3_1 := hf1.cell c3_0 (by first | (simp; done) | (simp; omega))
  have c4_1 := hf1.cell c4_0 (by first | (simp; done) | (simp; omega))
  have c5_1 := hf1.cell c5_0 (by first | (simp; done) | (simp; omega))
  have c6_1 := hf1.cell c6_0 (by first | (simp; done) | (simp; omega))
  have c7_1 := hf1.cell c7_0 (by first | (simp; done) | (simp; omega))
  have c8_1 := hf1.cell c8_0 (by first | (simp; done) | (simp; omega))
  obtain ⟨w2, hr2, hown2, hg2⟩ := World.ownsMap.update hown1 (int_keyed Tryz.underlying5) Tryz.underlying232 (by decide) (keyOf_int_mk Tryz.underlying5 (a := 105) (by decide)) (plainElem_int Tryz.underlying3 (a := oi) (by go_wf))
  have hf2 := grown_off (l := [w.heap.size + 1 + 1]) hg2 (fun k hk => by cases hk; simp)
  have c0_2 := hf2.cell c0_1 (by first | (simp; done) | (simp; omega))
  have c1_2 := hf2.cell c1_1 (by first | (simp; done) | (simp; omega))
  have c2_2 := hf2.cell c2_1 (by first | (simp; done) | (simp; omega))
  have c3_2 := hf2.cell c3_1 (by first | (simp; done) | (simp; omega))
  have c4_2 := hf2.cell c4_1 (by first | (simp; done) | (simp; omega))
  have c5_2 := hf2.cell c5_1 (by first | (simp; done) | (simp; omega))
  have c6_2 := hf2.cell c6_1 (by first | (simp; done) | (simp; omega))
  have c7_2 := hf2.cell c7_1 (by first | (simp; done) | (simp; omega))
  have c8_2 := hf2.cell c8_1 (by first | (simp; done) | (simp; omega))
  obtain ⟨w3, hr3, hown3, hg3⟩ := World.ownsMap.update hown2 (int_keyed Tryz.underlying5) Tryz.underlying232 (by decide) (keyOf_int_mk Tryz.underlying5 (a := 118) (by decide)) (plainElem_int Tryz.underlying3 (a := ov) (by go_wf))
  have hf3 := grown_off (l := [w.heap.size + 1 + 1]) hg3 (fun k hk => by cases hk; simp)
  have c0_3 := hf3.cell c0_2 (by first | (simp; done) | (simp; omega))
  have c1_3 := hf3.cell c1_2 (by first | (simp; done) | (simp; omega))
  have c2_3 := hf3.cell c2_2 (by first | (simp; done) | (simp; omega))
  have c3_3 := hf3.cell c3_2 (by first | (simp; done) | (simp; omega))
  have c4_3 := hf3.cell c4_2 (by first | (simp; done) | (simp; omega))
  have c5_3 := hf3.cell c5_2 (by first | (simp; done) | (simp; omega))
  have c6_3 := hf3.cell c6_2 (by first | (simp; done) | (simp; omega))
  have c7_3 := hf3.cell c7_2 (by first | (simp; done) | (simp; omega))
  have c8_3 := hf3.cell c8_2 (by first | (simp; done) | (simp; omega))
  obtain ⟨w4, hr4, hown4, hg4⟩ := World.ownsMap.update hown3 (int_keyed Tryz.underlying5) Tryz.underlying232 (by decide) (keyOf_int_mk Tryz.underlying5 (a := 119) (by decide)) (plainElem_int Tryz.underlying3 (a := ow) (by go_wf))
  have hf4 := grown_off (l := [w.heap.size + 1 + 1]) hg4 (fun k hk => by cases hk; simp)
  have c0_4 := hf4.cell c0_3 (by first | (simp; done) | (simp; omega))
  have c1_4 := hf4.cell c1_3 (by first | (simp; done) | (simp; omega))
  have c2_4 := hf4.cell c2_3 (by first | (simp; done) | (simp; omega))
  have c3_4 := hf4.cell c3_3 (by first | (simp; done) | (simp; omega))
  have c4_4 := hf4.cell c4_3 (by first | (simp; done) | (simp; omega))
  have c5_4 := hf4.cell c5_3 (by first | (simp; done) | (simp; omega))
  have c6_4 := hf4.cell c6_3 (by first | (simp; done) | (simp; omega))
  have c7_4 := hf4.cell c7_3 (by first | (simp; done) | (simp; omega))
  have c8_4 := hf4.cell c8_3 (by first | (simp; done) | (simp; omega))
  obtain ⟨w5, hr5, hown5, hg5⟩ := World.ownsMap.update hown4 (int_keyed Tryz.underlying5) Tryz.underlying232 (by decide) (keyOf_int_mk Tryz.underlying5 (a := 102) (by decide)) (plainElem_int Tryz.underlying3 (a := of') (by go_wf))
  have hf5 := grown_off (l := [w.heap.size + 1 + 1]) hg5 (fun k hk => by cases hk; simp)
  have c0_5 := hf5.cell c0_4 (by first | (simp; done) | (simp; omega))
  have c1_5 := hf5.cell c1_4 (by first | (simp; done) | (simp; omega))
  have c2_5 := hf5.cell c2_4 (by first | (simp; done) | (simp; omega))
  have c3_5 := hf5.cell c3_4 (by first | (simp; done) | (simp; omega))
  have c4_5 := hf5.cell c4_4 (by first | (simp; done) | (simp; omega))
  have c5_5 := hf5.cell c5_4 (by first | (simp; done) | (simp; omega))
  have c6_5 := hf5.cell c6_4 (by first | (simp; done) | (simp; omega))
  have c7_5 := hf5.cell c7_4 (by first | (simp; done) | (simp; omega))
  have c8_5 := hf5.cell c8_4 (by first | (simp; done) | (simp; omega))
  obtain ⟨w6, hr6, hown6, hg6⟩ := World.ownsMap.update hown5 (int_keyed Tryz.underlying5) Tryz.underlying232 (by decide) (keyOf_int_mk Tryz.underlying5 (a := 116) (by decide)) (plainElem_int Tryz.underlying3 (a := ot) (by go_wf))
  have hf6 := grown_off (l := [w.heap.size + 1 + 1]) hg6 (fun k hk => by cases hk; simp)
  have c0_6 := hf6.cell c0_5 (by first | (simp; done) | (simp; omega))
  have c1_6 := hf6.cell c1_5 (by first | (simp; done) | (simp; omega))
  have c2_6 := hf6.cell c2_5 (by first | (simp; done) | (simp; omega))
  have c3_6 := hf6.cell c3_5 (by first | (simp; done) | (simp; omega))
  have c4_6 := hf6.cell c4_5 (by first | (simp; done) | (simp; omega))
  have c5_6 := hf6.cell c5_5 (by first | (simp; done) | (simp; omega))
  have c6_6 := hf6.cell c6_5 (by first | (simp; done) | (simp; omega))
  have c7_6 := hf6.cell c7_5 (by first | (simp; done) | (simp; omega))
  have c8_6 := hf6.cell c8_5 (by first | (simp; done) | (simp; omega))
  obtain ⟨x, hrl, hax, hwx⟩ := World.ownsMap.lookup_int hown6 (int_keyed Tryz.underlying5) Tryz.underlying232 Tryz.underlying3 (Tryz.zeroValue3 _) (keyOf_int_mk Tryz.underlying5 (a := (op.toNat : Int)) hwf)
  have hxv : x = (OpsC.mk oi ov ow of' ot).at op := by
    simp only at hat
    have h5 := hax.symm.trans hat
    simp only [DataW.lit.injEq, Lit.int.injEq, true_and] at h5
    exact h5
  have hf06 : Off [w.heap.size + 1 + 1] w0 w6 := ((((hf1.trans hf2).trans hf3).trans hf4).trans hf5).trans hf6
  have hb06 : Below w.heap.size w w6 := by
    have h0 : Below w.heap.size w w0 := by rw [hw0]; exact belx
    exact h0.trans (hf06.toBelow (by simp; omega) h0.size)
  have HB6 := Lib.hid hb06
  rw [hw0] at hr1
  have z6 := lt_of_cell c8_6
  have z6b := lt_of_cell c0_6
  clear hax hat hwx hf06 hb06 hw0 hown0 hown1 hown2 hown3 hown4 hown5 hown6 hg1 hf1 hg2 hf2 hg3 hf3 hg4 hf4 hg5 hf5 hg6 hf6 c0_0 c0_1 c0_2 c0_3 c0_4 c0_5 c1_0 c1_1 c1_2 c1_3 c1_4 c1_5 c2_0 c2_1 c2_2 c2_3 c2_4 c2_5 c3_0 c3_1 c3_2 c3_3 c3_4 c3_5
  have HR := Lib.hid h1
  have HX := Lib.hid hxv
  clear hxv h1
  have n110 : op = 110 → ((op.toNat : Int) != 110) = false := fun h => by rw [h]; rfl
  have m110 : ¬ op = 110 → ((op.toNat : Int) != 110) = true := fun h => by
    rw [bne_iff_ne]
    intro he
    apply h
    have : op.toNat = 110 := by omega
    exact UInt8.toNat_inj.1 this
  have H110 := Lib.hid (And.intro n110 m110)
  clear n110 m110
  have hmm := @run_makeMap Tryz.prog
  have K : ∀ (X : Int) (b : Nat) (W : World), Below w.heap.size w W → W.cell? ⟨b, 0, none⟩ = some (.int .i64 X) → Calls Tryz.prog 124 #[.slice A rs.length n, .func (.func 125) #[] #[.pointer (some ⟨b, 0, none⟩)]] W fun e w' => e = .returned (.bool (rs.any (inRng X))) ∧ Below W.heap.size W w' := fun X b W hb hx =>
    any_rng 125 #[.pointer (some ⟨b, 0, none⟩)] (inRng X) (enters_of Tryz.func125 (by kernel_rfl) rfl) A rs n W (fun p W' hb' => in_rng X b p W' (carry hb' hx)) (HR.out.below hb) h2 h3
  have HK := Lib.hid K
  clear K
  by_cases m0 : md = 0
  · have hR : RR = ((rs.any (inRng x) && (!decide (op = 110) || decide (ot = 0))) != neg) := by
      rw [← HRR.out, HX.out]
      unfold RelC.holds
      simp only [m0, if_true]
    have HRX := Lib.hid hR
    have KX := Lib.hid (HK.out x)
    clear hR HRR HX HK HR
    generalize rs.any (inRng x) = R at *
    subst m0
    go_enter Tryz.func65, Tryz.ntmps65
    go_wp2_with fail
    refine (KX.out _ _ (HB6.out.alloc (by omega) _) (by go_simp)).mono ?_
    rintro e w7 ⟨rfl, hb7⟩
    have d0 : w7.cell? ⟨w.heap.size, 0, none⟩ = some (.int .u8 op.toNat) := carry hb7 (by go_simp)
    have d2 : w7.cell? ⟨w.heap.size, 2, none⟩ = some (.bool neg) := carry hb7 (by go_simp)
    have d8 : w7.cell? ⟨w.heap.size + 1, 4, none⟩ = some (.int .i64 ot) := carry hb7 (by go_simp)
    have HB7 : Hid (Below w.heap.size w w7) := Lib.hid ((HB6.out.alloc (by omega) _).trans (hb7.mono (by simp; omega)))
    clear hb7
    cases R
    · have hv : RR = neg := by rw [HRX.out, Bool.false_and]; simp
      have HV := Lib.hid hv
      clear HRX hv
      go_wp2_with fail
      go_ret
      exact ⟨ret_bool HV.out.symm, HB7.out⟩
    · by_cases p0 : op = 110
      · have e0 := H110.out.1 p0
        by_cases t0 : ot = 0
        · have hv : RR = !neg := by rw [HRX.out, decide_eq_true p0, decide_eq_true t0]; simp
          have HV := Lib.hid hv
          have t1 : ((ot : Int) == 0) = true := by rw [t0]; rfl
          clear HRX hv t0 p0
          go_wp2_with fail
          go_ret
          exact ⟨ret_bool HV.out.symm, HB7.out⟩
        · have hv : RR = neg := by rw [HRX.out, decide_eq_true p0, decide_eq_false t0]; simp
          have HV := Lib.hid hv
          have t1 : ((ot : Int) == 0) = false := by rw [beq_eq_false_iff_ne]; exact t0
          clear HRX hv p0
          go_wp2_with fail
          go_ret
          exact ⟨ret_bool HV.out.symm, HB7.out⟩
      · have e0 := H110.out.2 p0
        have hv : RR = !neg := by rw [HRX.out, decide_eq_false p0]; simp
        have HV := Lib.hid hv
        clear HRX hv p0
        go_wp2_with fail
        go_ret
        exact ⟨ret_bool HV.out.symm, HB7.out⟩
  · have m1 : ((md : Int) == 0) = false := by rw [beq_eq_false_iff_ne]; exact m0
    have m2 : ((md : Int) != 0) = true := by rw [bne_iff_ne]; exact m0
    have hR : RR = ((rs.any (inRng (x.tmod md)) && (!decide (op = 110) || decide (ot = 0))) != neg) := by
      rw [← HRR.out, HX.out]
      unfold RelC.holds
      simp only [m0, if_false]
    have HRX := Lib.hid hR
    have KX := Lib.hid (HK.out (x.tmod md))
    clear hR HRR HX HK HR
    generalize rs.any (inRng (x.tmod md)) = R at *
    go_enter Tryz.func65, Tryz.ntmps65
    go_wp2_with fail
    refine (KX.out _ _ (HB6.out.alloc (by omega) _) (by go_simp)).mono ?_
    rintro e w7 ⟨rfl, hb7⟩
    have d0 : w7.cell? ⟨w.heap.size, 0, none⟩ = some (.int .u8 op.toNat) := carry hb7 (by go_simp)
    have d2 : w7.cell? ⟨w.heap.size, 2, none⟩ = some (.bool neg) := carry hb7 (by go_simp)
    have d8 : w7.cell? ⟨w.heap.size + 1, 4, none⟩ = some (.int .i64 ot) := carry hb7 (by go_simp)
    have HB7 : Hid (Below w.heap.size w w7) := Lib.hid ((HB6.out.alloc (by omega) _).trans (hb7.mono (by simp; omega)))
    clear hb7
    cases R
    · have hv : RR = neg := by rw [HRX.out, Bool.false_and]; simp
      have HV := Lib.hid hv
      clear HRX hv
      go_wp2_with fail
      go_ret
      exact ⟨ret_bool HV.out.symm, HB7.out⟩
    · by_cases p0 : op = 110
      · have e0 := H110.out.1 p0
        by_cases t0 : ot = 0
        · have hv : RR = !neg := by rw [HRX.out, decide_eq_true p0, decide_eq_true t0]; simp
          have HV := Lib.hid hv
          have t1 : ((ot : Int) == 0) = true := by rw [t0]; rfl
          clear HRX hv t0 p0
          go_wp2_with fail
          go_ret
          exact ⟨ret_bool HV.out.symm, HB7.out⟩
        · have hv : RR = neg := by rw [HRX.out, decide_eq_true p0, decide_eq_false t0]; simp
          have HV := Lib.hid hv
          have t1 : ((ot : Int) == 0) = false := by rw [beq_eq_false_iff_ne]; exact t0
          clear HRX hv p0
          go_wp2_with fail
          go_ret
          exact ⟨ret_bool HV.out.symm, HB7.out⟩
      · have e0 := H110.out.2 p0
        have hv : RR = !neg := by rw [HRX.out, decide_eq_false p0]; simp
        have HV := Lib.hid hv
        clear HRX hv p0
        go_wp2_with fail
        go_ret
        exact ⟨ret_bool HV.out.symm, HB7.out⟩
end Go.Proofs.YtplaohmdllindaaGreatDoor

/- slices.ContainsFunc over rels and rows of rels; rule.Holds. -/
namespace Go.Proofs.YtplaohmdllindaaGreatDoor
open Go.RowKit

/-- A function value that tells something of an element. -/
def RelFn (f : Nat) (lb : Array Value) (P : RelD → Bool) (rs : List RelD) (w0 : World) : Prop := ∀ r ∈ rs, ∀ W, Below w0.heap.size w0 W → Calls Tryz.prog f (#[relV r.c.op r.c.md r.c.neg r.A r.c.rs.length r.n] ++ lb) W fun e w' => e = .returned (.bool (P r)) ∧ Below W.heap.size W w'

set_option maxHeartbeats 1000000 in
theorem idx_rel (f : Nat) (lb : Array Value) (P : RelD → Bool) (eg : ∀ args w, (callFunc f args).run Tryz.prog w = .ok (.enter f args) w) (A : Option Addr) (rs : List RelD) (c : Nat) (w : World) (hf : RelFn f lb P rs w) (hr : (rs = [] ∨ ∃ g o, A = some ⟨g, o, none⟩ ∧ RelsIn w g o rs)) (hc : rs.length ≤ c) (hc2 : c ≤ 9223372036854775807) :
    Calls Tryz.prog 123 #[.slice A rs.length c, .func (.func f) #[] lb] w fun e w' => IdxRes (rs.any P) e ∧ Below w.heap.size w w' := by
  have HF := Lib.hid hf
  have HR := Lib.hid hr
  generalize hR : rs.any P = R
  have HRR := Lib.hid hR
  clear hf hr hR
  have HP : Hid (∀ v : Int, decide (0 ≤ v) = R → IdxRes R (.returned (.int .i64 v))) := Lib.hid (fun v h => ⟨v, rfl, h⟩)
  go_enter Tryz.func123, Tryz.ntmps123
  go_wp2_with fail
  go_loopw [5, 8] (fun _ i wr => ∃ k : Nat, k ≤ rs.length ∧ i = .int .i64 k ∧ Hid ((rs.take k).any P = false) ∧ Hid (Below w.heap.size w wr)) (fun _ i _ => rs.length - (intOf i).toNat)
  case atStart => exact ⟨0, Nat.zero_le _, rfl, Lib.hid rfl, Lib.hid (Below.refl _ _)⟩
  case round =>
    obtain ⟨k, hk, rfl, HN, HB⟩ := hrel
    by_cases hlt : k < rs.length
    · obtain ⟨p, hp⟩ : ∃ p, rs[k]? = some p := ⟨rs[k], List.getElem?_eq_getElem hlt⟩
      obtain ⟨b, o, rfl, hcell⟩ : ∃ g o, A = some ⟨g, o, none⟩ ∧ RelsIn wr g o rs := by
        rcases HR.out with h | ⟨g, o, h1, h2⟩
        · rw [h] at hlt; simp at hlt
        · exact ⟨g, o, h1, h2.below HB.out⟩
      have c0 := hcell k _ 0 _ hp rfl
      have c1 := hcell k _ 1 _ hp rfl
      have c2 := hcell k _ 2 _ hp rfl
      have c3 := hcell k _ 3 _ hp rfl
      simp only [Nat.add_zero] at c0 c1 c2 c3
      have i0 : (0 : Int) ≤ (k : Int) := by omega
      have i1 : (k : Int) < (rs.length : Int) := by omega
      have i2 : (k : Int) ≤ (c : Int) := by omega
      have e1 : IntKind.i64.wrap ((k : Int) + 1) = (k : Int) + 1 := IntWalk.i64_in _ (by omega)
      have KF := Lib.hid (HF.out p (List.mem_of_getElem? hp) wr HB.out)
      have hst : (rs.take (k + 1)).any P = P p := by
        rw [List.take_add_one, hp, List.any_append, HN.out]
        simp
      have hin : P p = true → R = true := fun h => by
        rw [← HRR.out, List.any_eq_true]
        exact ⟨p, List.mem_of_getElem? hp, h⟩
      obtain ⟨⟨op, md, neg, rr⟩, C, nn⟩ := p
      simp only at c0 c1 c2 c3 KF
      have sB := HB.out.size
      generalize hq : P ⟨⟨op, md, neg, rr⟩, C, nn⟩ = q at *
      cases q
      · have HS := Lib.hid hst
        clear hcell hst hin hp hq
        go_wp2_with fail
        refine KF.out.mono ?_
        rintro e w1 ⟨rfl, hb⟩
        go_wp2_with fail
        go_roundw
        case rel => exact ⟨k + 1, by omega, by go_num, HS, Lib.hid (HB.out.trans (hb.mono sB))⟩
        case measure => simp [intOf]; omega
      · have hR1 := hin rfl
        have HD : Hid (decide ((0 : Int) ≤ (k : Int)) = R) := Lib.hid (by rw [hR1]; exact decide_eq_true i0)
        clear hcell hst hin hp hq hR1
        go_wp2_with fail
        refine KF.out.mono ?_
        rintro e w1 ⟨rfl, hb⟩
        go_wp2_with fail
        go_ret
        exact ⟨HP.out _ HD.out, HB.out.trans (hb.mono sB)⟩
    · obtain rfl : k = rs.length := by omega
      have HD : Hid (decide ((0 : Int) ≤ -1) = R) := Lib.hid (by
        have := HN.out
        rw [List.take_length, HRR.out] at this
        rw [this]
        decide)
      go_wp2_with fail
      go_ret
      exact ⟨HP.out _ HD.out, HB.out⟩

theorem any_rel (f : Nat) (lb : Array Value) (P : RelD → Bool) (eg : ∀ args w, (callFunc f args).run Tryz.prog w = .ok (.enter f args) w) (A : Option Addr) (rs : List RelD) (c : Nat) (w : World) (hf : RelFn f lb P rs w) (hr : (rs = [] ∨ ∃ g o, A = some ⟨g, o, none⟩ ∧ RelsIn w g o rs)) (hc : rs.length ≤ c) (hc2 : c ≤ 9223372036854775807) :
    Calls Tryz.prog 63 #[.slice A rs.length c, .func (.func f) #[] lb] w fun e w' => e = .returned (.bool (rs.any P)) ∧ Below w.heap.size w w' := by
  have K := Lib.hid (idx_rel f lb P eg A rs c w hf hr hc hc2)
  clear hf hr
  generalize rs.any P = R at *
  go_enter Tryz.func63, Tryz.ntmps63
  go_wp2_with fail
  refine K.out.mono ?_
  rintro e w1 ⟨⟨v, rfl, hv⟩, hb⟩
  have HV := Lib.hid hv
  clear hv
  go_wp2_with fail
  go_ret
  exact ⟨ret_bool HV.out, hb⟩

/-- A function value that tells something of an element. -/
def PartFn (f : Nat) (lb : Array Value) (P : PartD → Bool) (rs : List PartD) (w0 : World) : Prop := ∀ r ∈ rs, ∀ W, Below w0.heap.size w0 W → Calls Tryz.prog f (#[.slice r.A r.rs.length r.n] ++ lb) W fun e w' => e = .returned (.bool (P r)) ∧ Below W.heap.size W w'

set_option maxHeartbeats 1000000 in
theorem idx_part (f : Nat) (lb : Array Value) (P : PartD → Bool) (eg : ∀ args w, (callFunc f args).run Tryz.prog w = .ok (.enter f args) w) (A : Option Addr) (rs : List PartD) (c : Nat) (w : World) (hf : PartFn f lb P rs w) (hr : (rs = [] ∨ ∃ g o, A = some ⟨g, o, none⟩ ∧ ∀ (j : Nat) p, rs[j]? = some p → w.cell? ⟨g, o + j, none⟩ = some (.slice p.A p.rs.length p.n))) (hc : rs.length ≤ c) (hc2 : c ≤ 9223372036854775807) :
    Calls Tryz.prog 122 #[.slice A rs.length c, .func (.func f) #[] lb] w fun e w' => IdxRes (rs.any P) e ∧ Below w.heap.size w w' := by
  have HF := Lib.hid hf
  have HR := Lib.hid hr
  generalize hR : rs.any P = R
  have HRR := Lib.hid hR
  clear hf hr hR
  have HP : Hid (∀ v : Int, decide (0 ≤ v) = R → IdxRes R (.returned (.int .i64 v))) := Lib.hid (fun v h => ⟨v, rfl, h⟩)
  go_enter Tryz.func122, Tryz.ntmps122
  go_wp2_with fail
  go_loopw [5, 8] (fun _ i wr => ∃ k : Nat, k ≤ rs.length ∧ i = .int .i64 k ∧ Hid ((rs.take k).any P = false) ∧ Hid (Below w.heap.size w wr)) (fun _ i _ => rs.length - (intOf i).toNat)
  case atStart => exact ⟨0, Nat.zero_le _, rfl, Lib.hid rfl, Lib.hid (Below.refl _ _)⟩
  case round =>
    obtain ⟨k, hk, rfl, HN, HB⟩ := hrel
    by_cases hlt : k < rs.length
    · obtain ⟨p, hp⟩ : ∃ p, rs[k]? = some p := ⟨rs[k], List.getElem?_eq_getElem hlt⟩
      obtain ⟨b, o, rfl, hcell⟩ : ∃ g o, A = some ⟨g, o, none⟩ ∧ ∀ (j : Nat) p, rs[j]? = some p → wr.cell? ⟨g, o + j, none⟩ = some (.slice p.A p.rs.length p.n) := by
        rcases HR.out with h | ⟨g, o, h1, h2⟩
        · rw [h] at hlt; simp at hlt
        · exact ⟨g, o, h1, fun j p hp => carry HB.out (h2 j p hp)⟩
      have c0 := hcell k _ hp
      have i0 : (0 : Int) ≤ (k : Int) := by omega
      have i1 : (k : Int) < (rs.length : Int) := by omega
      have i2 : (k : Int) ≤ (c : Int) := by omega
      have e1 : IntKind.i64.wrap ((k : Int) + 1) = (k : Int) + 1 := IntWalk.i64_in _ (by omega)
      have KF := Lib.hid (HF.out p (List.mem_of_getElem? hp) wr HB.out)
      have hst : (rs.take (k + 1)).any P = P p := by
        rw [List.take_add_one, hp, List.any_append, HN.out]
        simp
      have hin : P p = true → R = true := fun h => by
        rw [← HRR.out, List.any_eq_true]
        exact ⟨p, List.mem_of_getElem? hp, h⟩
      obtain ⟨ss, C, nn⟩ := p
      simp only at c0 KF
      have sB := HB.out.size
      generalize hq : P ⟨ss, C, nn⟩ = q at *
      cases q
      · have HS := Lib.hid hst
        clear hcell hst hin hp hq
        go_wp2_with fail
        refine KF.out.mono ?_
        rintro e w1 ⟨rfl, hb⟩
        go_wp2_with fail
        go_roundw
        case rel => exact ⟨k + 1, by omega, by go_num, HS, Lib.hid (HB.out.trans (hb.mono sB))⟩
        case measure => simp [intOf]; omega
      · have hR1 := hin rfl
        have HD : Hid (decide ((0 : Int) ≤ (k : Int)) = R) := Lib.hid (by rw [hR1]; exact decide_eq_true i0)
        clear hcell hst hin hp hq hR1
        go_wp2_with fail
        refine KF.out.mono ?_
        rintro e w1 ⟨rfl, hb⟩
        go_wp2_with fail
        go_ret
        exact ⟨HP.out _ HD.out, HB.out.trans (hb.mono sB)⟩
    · obtain rfl : k = rs.length := by omega
      have HD : Hid (decide ((0 : Int) ≤ -1) = R) := Lib.hid (by
        have := HN.out
        rw [List.take_length, HRR.out] at this
        rw [this]
        decide)
      go_wp2_with fail
      go_ret
      exact ⟨HP.out _ HD.out, HB.out⟩

theorem any_part (f : Nat) (lb : Array Value) (P : PartD → Bool) (eg : ∀ args w, (callFunc f args).run Tryz.prog w = .ok (.enter f args) w) (A : Option Addr) (rs : List PartD) (c : Nat) (w : World) (hf : PartFn f lb P rs w) (hr : (rs = [] ∨ ∃ g o, A = some ⟨g, o, none⟩ ∧ ∀ (j : Nat) p, rs[j]? = some p → w.cell? ⟨g, o + j, none⟩ = some (.slice p.A p.rs.length p.n))) (hc : rs.length ≤ c) (hc2 : c ≤ 9223372036854775807) :
    Calls Tryz.prog 61 #[.slice A rs.length c, .func (.func f) #[] lb] w fun e w' => e = .returned (.bool (rs.any P)) ∧ Below w.heap.size w w' := by
  have K := Lib.hid (idx_part f lb P eg A rs c w hf hr hc hc2)
  clear hf hr
  generalize rs.any P = R at *
  go_enter Tryz.func61, Tryz.ntmps61
  go_wp2_with fail
  refine K.out.mono ?_
  rintro e w1 ⟨⟨v, rfl, hv⟩, hb⟩
  have HV := Lib.hid hv
  clear hv
  go_wp2_with fail
  go_ret
  exact ⟨ret_bool HV.out, hb⟩


/-- the operands' box -/
def OpsAt (w : World) (b : Nat) (o : OpsC) : Prop := w.cell? ⟨b, 0, none⟩ = some (.int .i64 o.i) ∧ w.cell? ⟨b, 1, none⟩ = some (.int .i64 o.v) ∧ w.cell? ⟨b, 2, none⟩ = some (.int .i64 o.w) ∧ w.cell? ⟨b, 3, none⟩ = some (.int .i64 o.f) ∧ w.cell? ⟨b, 4, none⟩ = some (.int .i64 o.t)
theorem OpsAt.below {w w' : World} {b : Nat} {o : OpsC} (h : OpsAt w b o) (hb : Below w.heap.size w w') : OpsAt w' b o := ⟨carry hb h.1, carry hb h.2.1, carry hb h.2.2.1, carry hb h.2.2.2.1, carry hb h.2.2.2.2⟩

set_option maxHeartbeats 1000000 in
theorem not_holds (r : RelD) (o : OpsC) (b : Nat) (w : World) (h : r.fits w) (hf : r.c.fine = true) (ho : o.fits) (hx : OpsAt w b o) :
    Calls Tryz.prog 64 #[relV r.c.op r.c.md r.c.neg r.A r.c.rs.length r.n, .pointer (some ⟨b, 0, none⟩)] w fun e w' => e = .returned (.bool (!r.c.holds o)) ∧ Below w.heap.size w w' := by
  have K := Lib.hid (fun W (hb : Below w.heap.size w W) => rule_holds r o W (h.below hb) hf ho)
  generalize r.c.holds o = R at *
  obtain ⟨x0, x1, x2, x3, x4⟩ := hx
  have hlt := lt_of_cell x0
  obtain ⟨oi, ov, ow, of', ot⟩ := o
  obtain ⟨⟨op, md, neg, rr⟩, C, nn⟩ := r
  simp only at x0 x1 x2 x3 x4 K ⊢
  clear h hf ho
  go_enter Tryz.func64, Tryz.ntmps64
  go_wp2_with fail
  refine (K.out _ belx).mono ?_
  rintro e w1 ⟨rfl, hb⟩
  go_wp2_with fail
  go_ret
  exact ⟨rfl, belx⟩

theorem any_not {α : Type} (l : List α) (P : α → Bool) : (!l.any fun x => !P x) = l.all P := by
  induction l with
  | nil => rfl
  | cons x r ih => rw [List.any_cons, List.all_cons, Bool.not_or, Bool.not_not, ih]
theorem all_part_c (p : PartD) (o : OpsC) : (p.rs.all fun r => r.c.holds o) = p.c.all fun x => x.holds o := by
  unfold PartD.c
  rw [List.all_map]
  rfl

set_option maxHeartbeats 1000000 in
theorem part_holds (p : PartD) (o : OpsC) (b : Nat) (w : World) (h : p.fits w) (hf : ∀ r ∈ p.rs, r.c.fine = true) (ho : o.fits) (hx : OpsAt w b o) :
    Calls Tryz.prog 62 #[.slice p.A p.rs.length p.n, .pointer (some ⟨b, 0, none⟩)] w fun e w' => e = .returned (.bool (p.c.all fun x => x.holds o)) ∧ Below w.heap.size w w' := by
  have K := any_rel 64 #[.pointer (some ⟨b, 0, none⟩)] (fun r => !r.c.holds o) (enters_of Tryz.func64 (by kernel_rfl) rfl) p.A p.rs p.n w
    (fun r hr W hb => not_holds r o b W ((h.2.2.2 r hr).below hb) (hf r hr) ho (hx.below hb)) h.1 h.2.1 h.2.2.1
  have hR := any_not p.rs (fun r => r.c.holds o)
  rw [all_part_c] at hR
  have HK := Lib.hid K
  have HR := Lib.hid hR
  clear K hR h hf hx ho
  generalize (p.c.all fun x => x.holds o) = R at *
  generalize (p.rs.any fun r => !r.c.holds o) = Q at *
  go_enter Tryz.func62, Tryz.ntmps62
  go_wp2_with fail
  refine HK.out.mono ?_
  rintro e w1 ⟨rfl, hb⟩
  go_wp2_with fail
  go_ret
  exact ⟨ret_bool HR.out, hb⟩

theorem any_rule_c (ps : List PartD) (o : OpsC) : (ps.any fun p => p.c.all fun x => x.holds o) = ruleHolds (ruleC ps) o := by
  unfold ruleHolds ruleC
  rw [List.any_map]
  rfl

set_option maxHeartbeats 2000000 in
theorem rule_Holds (A : Option Addr) (c : Nat) (ps : List PartD) (o : OpsC) (w : World) (h : RuleIn w A ps) (hc : ps.length ≤ c) (hc2 : c ≤ 9223372036854775807) (hn : ruleCount (ruleC ps) ≤ 9000000000000000000) (ho : o.fits) :
    Calls Tryz.prog 24 #[.slice A ps.length c, opsV o.i o.v o.w o.f o.t] w fun e w' => e = .returned (.tuple #[.bool (if ruleErr (ruleC ps) = 0 then ruleHolds (ruleC ps) o else false), errOf (ruleErr (ruleC ps))]) ∧ Below w.heap.size w w' := by
  have KC := Lib.hid (fun W (hb : Below w.heap.size w W) => rule_check A c ps W (h.below hb) hc hc2 hn)
  by_cases h0 : ruleErr (ruleC ps) = 0
  · have hok := ruleErr_ok h0
    have hfine : ∀ p ∈ ps, ∀ r ∈ p.rs, r.c.fine = true := fun p hp r hr => (hok.2.1 p.c (List.mem_map_of_mem hp)).2 r.c (List.mem_map_of_mem hr)
    have KH := Lib.hid (fun b W (hb : Below w.heap.size w W) (hx : OpsAt W b o) => by
      have := any_part 62 #[.pointer (some ⟨b, 0, none⟩)] (fun p => p.c.all fun x => x.holds o) (enters_of Tryz.func62 (by kernel_rfl) rfl) A ps c W
        (fun p hp W' hb' => part_holds p o b W' (((h.below hb).below hb').2 p hp) (hfine p hp) ho (hx.below hb')) (h.below hb).1 hc hc2
      rw [any_rule_c] at this
      exact this)
    rw [if_pos h0, h0]
    rw [h0] at KC
    clear h0 hok hfine h
    generalize ruleHolds (ruleC ps) o = R at *
    obtain ⟨oi, ov, ow, of', ot⟩ := o
    simp only
    go_enter Tryz.func24, Tryz.ntmps24
    go_wp2_with fail
    refine (KC.out _ belx).mono ?_
    rintro e w1 ⟨rfl, hb⟩
    have x0 : w1.cell? ⟨w.heap.size, 0, none⟩ = some (.int .i64 oi) := carry hb (by go_simp)
    have x1 : w1.cell? ⟨w.heap.size, 1, none⟩ = some (.int .i64 ov) := carry hb (by go_simp)
    have x2 : w1.cell? ⟨w.heap.size, 2, none⟩ = some (.int .i64 ow) := carry hb (by go_simp)
    have x3 : w1.cell? ⟨w.heap.size, 3, none⟩ = some (.int .i64 of') := carry hb (by go_simp)
    have x4 : w1.cell? ⟨w.heap.size, 4, none⟩ = some (.int .i64 ot) := carry hb (by go_simp)
    have HX : Hid (OpsAt w1 w.heap.size ⟨oi, ov, ow, of', ot⟩) := Lib.hid ⟨x0, x1, x2, x3, x4⟩
    have HB1 : Hid (Below w.heap.size w w1) := Lib.hid belx
    clear hb x0 x1 x2 x3 x4
    rw [show errOf 0 = .nilIface from rfl]
    go_wp2_with fail
    refine (KH.out _ _ HB1.out HX.out).mono ?_
    rintro e w2 ⟨rfl, hb2⟩
    go_wp2_with fail
    go_ret2
    exact ⟨rfl, HB1.out.trans (hb2.mono HB1.out.size)⟩
  · rw [if_neg h0]
    have he : errOf (ruleErr (ruleC ps)) = errT (ruleErr (ruleC ps)) := by unfold errOf; rw [if_neg h0]
    rw [he] at KC ⊢
    clear h0 he h
    generalize ruleErr (ruleC ps) = E at *
    obtain ⟨oi, ov, ow, of', ot⟩ := o
    simp only
    go_enter Tryz.func24, Tryz.ntmps24
    go_wp2_with fail
    refine (KC.out _ belx).mono ?_
    rintro e w1 ⟨rfl, hb⟩
    go_wp2_with fail
    go_ret2
    exact ⟨rfl, belx⟩
end Go.Proofs.YtplaohmdllindaaGreatDoor
