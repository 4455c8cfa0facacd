/- rule.joined. -/
import Derived.Test.YtkklemhhimcahaaGreatDoorRuleMem
import Derived.Test.YtkklemhhimcahaaGreatDoorJoinW
namespace Go.Proofs.YtkklemhhimcahaaGreatDoor
open Go.RowKit

/-- A function value that tells an element's text. -/
def TextFn_rng (f : Nat) (lb : Array Value) (G : (Int × Int) → List UInt8) (rs : List (Int × Int)) (w0 : World) : Prop := ∀ r ∈ rs, ∀ W, Below w0.heap.size w0 W → Calls Tryz.prog f (#[.agg #[.int .i64 r.1, .int .i64 r.2]] ++ lb) W fun e w' => e = .returned (.string ⟨(G r).toArray⟩) ∧ Below W.heap.size W w'

set_option maxHeartbeats 2000000 in
theorem joined_rng (f : Nat) (lb : Array Value) (G : (Int × Int) → List UInt8) (eg : ∀ args w, (callFunc f args).run Tryz.prog w = .ok (.enter f args) w) (A : Option Addr) (rs : List (Int × Int)) (c : Nat) (sep : ByteArray) (w : World) (hf : TextFn_rng f lb G rs w) (hr : RngIn w A rs) (hc : rs.length ≤ c) (hc2 : rs.length ≤ 7000000000000)
    (hlen : (Lib.join (rs.map G) sep.data.toList).length ≤ 140737488355328) :
    Calls Tryz.prog 84 #[.slice A rs.length c, .string sep, .func (.func f) #[] lb] w fun e w' => e = .returned (.string ⟨(Lib.join (rs.map G) sep.data.toList).toArray⟩) ∧ Below w.heap.size w w' := by
  have HF := Lib.hid hf
  have HR := Lib.hid hr
  generalize hT : (⟨(Lib.join (rs.map G) sep.data.toList).toArray⟩ : ByteArray) = T
  have HT := Lib.hid hT
  have HL := Lib.hid hlen
  clear hf hr hT hlen
  go_enter Tryz.func84, Tryz.ntmps84
  go_wp2_with fail
  go_loopw [7, 12] (fun v i wr => ∃ (k : Nat) (B : Option Addr) (d : Nat) (xs : List ByteArray), k ≤ rs.length ∧ i = .int .i64 k ∧ v = .slice B xs.length d ∧ xs.length ≤ k ∧ Hid (OwnsS wr w.heap.size (.slice B xs.length d) xs) ∧ Hid (xs.map (·.data.toList) = (rs.take k).map G) ∧ Hid (Below w.heap.size w wr)) (fun _ i _ => rs.length - (intOf i).toNat)
  case atStart => exact ⟨0, none, 0, [], Nat.zero_le _, rfl, rfl, Nat.le_refl _, Lib.hid (OwnsS.nil _ _), Lib.hid rfl, Lib.hid (Below.refl _ _)⟩
  case round =>
    obtain ⟨k, B, d, xs, hk, rfl, rfl, hxs, HO, HX, HB⟩ := hrel
    have sB := HB.out.size
    by_cases hlt : k < rs.length
    · obtain ⟨p, hp⟩ : ∃ p, rs[k]? = some p := ⟨rs[k], List.getElem?_eq_getElem hlt⟩
      obtain ⟨b, o, rfl, hcell⟩ := (HR.out.below HB.out).at (by omega)
      obtain ⟨c0, c1⟩ := hcell k p hp
      have i0 : (0 : Int) ≤ (k : Int) := by omega
      have i1 : (k : Int) < (rs.length : Int) := by omega
      have i2 : (k : Int) ≤ (c : Int) := by omega
      have e1 : IntKind.i64.wrap ((k : Int) + 1) = (k : Int) + 1 := IntWalk.i64_in _ (by omega)
      have KF := Lib.hid (fun W (hb : Below wr.heap.size wr W) => HF.out p (List.mem_of_getElem? hp) W (HB.out.trans (hb.mono sB)))
      have HX2 : Hid ((xs ++ [(⟨(G p).toArray⟩ : ByteArray)]).map (·.data.toList) = (rs.take (k + 1)).map G) := Lib.hid (by
        rw [List.map_append, HX.out, List.take_add_one, hp, List.map_append]
        rfl)
      generalize (⟨(G p).toArray⟩ : ByteArray) = T1 at *
      obtain ⟨a, b2⟩ := p
      simp only at c0 c1 KF
      clear hcell hp
      go_wp2_with fail
      refine (KF.out _ (by (repeat (first | with_reducible exact Below.refl _ _ | with_reducible refine bel_set ?_ ?_ | with_reducible refine bel_alloc ?_ ?_ | with_reducible refine Below.drew ?_ | with_reducible refine bel_drewN _ ?_ | with_reducible refine bel_call ?_ (by assumption) ?_)); all_goals (first | (simp; done) | omega | (simp; omega)))).mono ?_
      rintro e w1 ⟨rfl, hb⟩
      have hb1 : Below wr.heap.size wr w1 := (by (repeat (first | with_reducible exact Below.refl _ _ | with_reducible refine bel_set ?_ ?_ | with_reducible refine bel_alloc ?_ ?_ | with_reducible refine Below.drew ?_ | with_reducible refine bel_drewN _ ?_ | with_reducible refine bel_call ?_ (by assumption) ?_)); all_goals (first | (simp; done) | omega | (simp; omega)))
      have s1 := hb1.size
      have HO1 := Lib.hid (HO.out.below hb1)
      have HB1 := Lib.hid (HB.out.trans (hb1.mono sB))
      clear hb hb1 HO KF
      go_wp2_with (at_builtin; refine wpList_append_one rfl _ _ rfl T1 rfl rfl (HO1.out.alloc _) (by go_simp) (by simp; omega) (by omega) ?_; intro v' w' ho hoff)
      have hbl := OwnsS.grown (HO1.out.alloc (.cells #[.string T1] 9)) hoff (by simp; omega)
      have HB3 : Hid (Below w.heap.size w w') := Lib.hid ((HB1.out.alloc (by omega) _).trans hbl)
      obtain ⟨A', d', rfl, _⟩ := ho.form
      have HO3 := Lib.hid ho
      have hl3 : (xs ++ [T1]).length ≤ k + 1 := by simp; omega
      clear ho hoff hbl
      go_roundw
      case rel => exact ⟨k + 1, A', d', _, by omega, by go_num, rfl, hl3, HO3, HX2, HB3⟩
      case measure => simp [intOf]; omega
    · obtain rfl : k = rs.length := by omega
      have hxx := HX.out
      rw [List.take_length] at hxx
      have KJ := Lib.hid (strings_joinW (A := B) (c := d) xs.length sep wr rfl HO.out.strs HO.out.cap.2 (by omega) (by rw [hxx]; exact HL.out))
      rw [hxx, HT.out] at KJ
      clear hxx
      go_wp2_with fail
      refine KJ.out.mono ?_
      rintro e w1 ⟨rfl, hb⟩
      go_wp2_with fail
      go_ret
      exact ⟨rfl, HB.out.trans (hb.mono sB)⟩

/-- A function value that tells an element's text. -/
def TextFn_rel (f : Nat) (lb : Array Value) (G : RelD → List UInt8) (rs : List RelD) (w0 : World) : Prop := ∀ r ∈ rs, ∀ W, Below w0.heap.size w0 W → Calls Tryz.prog f (#[relV r.c.op r.c.md r.c.neg r.A r.c.rs.length r.n] ++ lb) W fun e w' => e = .returned (.string ⟨(G r).toArray⟩) ∧ Below W.heap.size W w'

set_option maxHeartbeats 2000000 in
theorem joined_rel (f : Nat) (lb : Array Value) (G : RelD → List UInt8) (eg : ∀ args w, (callFunc f args).run Tryz.prog w = .ok (.enter f args) w) (A : Option Addr) (rs : List RelD) (c : Nat) (sep : ByteArray) (w : World) (hf : TextFn_rel f lb G rs w) (hr : (rs = [] ∨ ∃ g o, A = some ⟨g, o, none⟩ ∧ RelsIn w g o rs)) (hc : rs.length ≤ c) (hc2 : rs.length ≤ 7000000000000)
    (hlen : (Lib.join (rs.map G) sep.data.toList).length ≤ 140737488355328) :
    Calls Tryz.prog 51 #[.slice A rs.length c, .string sep, .func (.func f) #[] lb] w fun e w' => e = .returned (.string ⟨(Lib.join (rs.map G) sep.data.toList).toArray⟩) ∧ Below w.heap.size w w' := by
  have HF := Lib.hid hf
  have HR := Lib.hid hr
  generalize hT : (⟨(Lib.join (rs.map G) sep.data.toList).toArray⟩ : ByteArray) = T
  have HT := Lib.hid hT
  have HL := Lib.hid hlen
  clear hf hr hT hlen
  go_enter Tryz.func51, Tryz.ntmps51
  go_wp2_with fail
  go_loopw [7, 12] (fun v i wr => ∃ (k : Nat) (B : Option Addr) (d : Nat) (xs : List ByteArray), k ≤ rs.length ∧ i = .int .i64 k ∧ v = .slice B xs.length d ∧ xs.length ≤ k ∧ Hid (OwnsS wr w.heap.size (.slice B xs.length d) xs) ∧ Hid (xs.map (·.data.toList) = (rs.take k).map G) ∧ Hid (Below w.heap.size w wr)) (fun _ i _ => rs.length - (intOf i).toNat)
  case atStart => exact ⟨0, none, 0, [], Nat.zero_le _, rfl, rfl, Nat.le_refl _, Lib.hid (OwnsS.nil _ _), Lib.hid rfl, Lib.hid (Below.refl _ _)⟩
  case round =>
    obtain ⟨k, B, d, xs, hk, rfl, rfl, hxs, HO, HX, HB⟩ := hrel
    have sB := HB.out.size
    by_cases hlt : k < rs.length
    · obtain ⟨p, hp⟩ : ∃ p, rs[k]? = some p := ⟨rs[k], List.getElem?_eq_getElem hlt⟩
      obtain ⟨b, o, rfl, hcell⟩ : ∃ g o, A = some ⟨g, o, none⟩ ∧ RelsIn wr g o rs := by
        rcases HR.out with h | ⟨g, o, h1, h2⟩
        · rw [h] at hlt; simp at hlt
        · exact ⟨g, o, h1, h2.below HB.out⟩
      have c0 := hcell k _ 0 _ hp rfl
      have c1 := hcell k _ 1 _ hp rfl
      have c2 := hcell k _ 2 _ hp rfl
      have c3 := hcell k _ 3 _ hp rfl
      simp only [Nat.add_zero] at c0 c1 c2 c3
      have i0 : (0 : Int) ≤ (k : Int) := by omega
      have i1 : (k : Int) < (rs.length : Int) := by omega
      have i2 : (k : Int) ≤ (c : Int) := by omega
      have e1 : IntKind.i64.wrap ((k : Int) + 1) = (k : Int) + 1 := IntWalk.i64_in _ (by omega)
      have KF := Lib.hid (fun W (hb : Below wr.heap.size wr W) => HF.out p (List.mem_of_getElem? hp) W (HB.out.trans (hb.mono sB)))
      have HX2 : Hid ((xs ++ [(⟨(G p).toArray⟩ : ByteArray)]).map (·.data.toList) = (rs.take (k + 1)).map G) := Lib.hid (by
        rw [List.map_append, HX.out, List.take_add_one, hp, List.map_append]
        rfl)
      generalize (⟨(G p).toArray⟩ : ByteArray) = T1 at *
      obtain ⟨⟨op, md, neg, rr⟩, C, nn⟩ := p
      simp only at c0 c1 c2 c3 KF
      clear hcell hp
      go_wp2_with fail
      refine (KF.out _ (by (repeat (first | with_reducible exact Below.refl _ _ | with_reducible refine bel_set ?_ ?_ | with_reducible refine bel_alloc ?_ ?_ | with_reducible refine Below.drew ?_ | with_reducible refine bel_drewN _ ?_ | with_reducible refine bel_call ?_ (by assumption) ?_)); all_goals (first | (simp; done) | omega | (simp; omega)))).mono ?_
      rintro e w1 ⟨rfl, hb⟩
      have hb1 : Below wr.heap.size wr w1 := (by (repeat (first | with_reducible exact Below.refl _ _ | with_reducible refine bel_set ?_ ?_ | with_reducible refine bel_alloc ?_ ?_ | with_reducible refine Below.drew ?_ | with_reducible refine bel_drewN _ ?_ | with_reducible refine bel_call ?_ (by assumption) ?_)); all_goals (first | (simp; done) | omega | (simp; omega)))
      have s1 := hb1.size
      have HO1 := Lib.hid (HO.out.below hb1)
      have HB1 := Lib.hid (HB.out.trans (hb1.mono sB))
      clear hb hb1 HO KF
      go_wp2_with (at_builtin; refine wpList_append_one rfl _ _ rfl T1 rfl rfl (HO1.out.alloc _) (by go_simp) (by simp; omega) (by omega) ?_; intro v' w' ho hoff)
      have hbl := OwnsS.grown (HO1.out.alloc (.cells #[.string T1] 9)) hoff (by simp; omega)
      have HB3 : Hid (Below w.heap.size w w') := Lib.hid ((HB1.out.alloc (by omega) _).trans hbl)
      obtain ⟨A', d', rfl, _⟩ := ho.form
      have HO3 := Lib.hid ho
      have hl3 : (xs ++ [T1]).length ≤ k + 1 := by simp; omega
      clear ho hoff hbl
      go_roundw
      case rel => exact ⟨k + 1, A', d', _, by omega, by go_num, rfl, hl3, HO3, HX2, HB3⟩
      case measure => simp [intOf]; omega
    · obtain rfl : k = rs.length := by omega
      have hxx := HX.out
      rw [List.take_length] at hxx
      have KJ := Lib.hid (strings_joinW (A := B) (c := d) xs.length sep wr rfl HO.out.strs HO.out.cap.2 (by omega) (by rw [hxx]; exact HL.out))
      rw [hxx, HT.out] at KJ
      clear hxx
      go_wp2_with fail
      refine KJ.out.mono ?_
      rintro e w1 ⟨rfl, hb⟩
      go_wp2_with fail
      go_ret
      exact ⟨rfl, HB.out.trans (hb.mono sB)⟩

/-- A function value that tells an element's text. -/
def TextFn_part (f : Nat) (lb : Array Value) (G : PartD → List UInt8) (rs : List PartD) (w0 : World) : Prop := ∀ r ∈ rs, ∀ W, Below w0.heap.size w0 W → Calls Tryz.prog f (#[.slice r.A r.rs.length r.n] ++ lb) W fun e w' => e = .returned (.string ⟨(G r).toArray⟩) ∧ Below W.heap.size W w'

set_option maxHeartbeats 2000000 in
theorem joined_part (f : Nat) (lb : Array Value) (G : PartD → List UInt8) (eg : ∀ args w, (callFunc f args).run Tryz.prog w = .ok (.enter f args) w) (A : Option Addr) (rs : List PartD) (c : Nat) (sep : ByteArray) (w : World) (hf : TextFn_part f lb G rs w) (hr : (rs = [] ∨ ∃ g o, A = some ⟨g, o, none⟩ ∧ ∀ (j : Nat) p, rs[j]? = some p → w.cell? ⟨g, o + j, none⟩ = some (.slice p.A p.rs.length p.n))) (hc : rs.length ≤ c) (hc2 : rs.length ≤ 7000000000000)
    (hlen : (Lib.join (rs.map G) sep.data.toList).length ≤ 140737488355328) :
    Calls Tryz.prog 49 #[.slice A rs.length c, .string sep, .func (.func f) #[] lb] w fun e w' => e = .returned (.string ⟨(Lib.join (rs.map G) sep.data.toList).toArray⟩) ∧ Below w.heap.size w w' := by
  have HF := Lib.hid hf
  have HR := Lib.hid hr
  generalize hT : (⟨(Lib.join (rs.map G) sep.data.toList).toArray⟩ : ByteArray) = T
  have HT := Lib.hid hT
  have HL := Lib.hid hlen
  clear hf hr hT hlen
  go_enter Tryz.func49, Tryz.ntmps49
  go_wp2_with fail
  go_loopw [7, 12] (fun v i wr => ∃ (k : Nat) (B : Option Addr) (d : Nat) (xs : List ByteArray), k ≤ rs.length ∧ i = .int .i64 k ∧ v = .slice B xs.length d ∧ xs.length ≤ k ∧ Hid (OwnsS wr w.heap.size (.slice B xs.length d) xs) ∧ Hid (xs.map (·.data.toList) = (rs.take k).map G) ∧ Hid (Below w.heap.size w wr)) (fun _ i _ => rs.length - (intOf i).toNat)
  case atStart => exact ⟨0, none, 0, [], Nat.zero_le _, rfl, rfl, Nat.le_refl _, Lib.hid (OwnsS.nil _ _), Lib.hid rfl, Lib.hid (Below.refl _ _)⟩
  case round =>
    obtain ⟨k, B, d, xs, hk, rfl, rfl, hxs, HO, HX, HB⟩ := hrel
    have sB := HB.out.size
    by_cases hlt : k < rs.length
    · obtain ⟨p, hp⟩ : ∃ p, rs[k]? = some p := ⟨rs[k], List.getElem?_eq_getElem hlt⟩
      obtain ⟨b, o, rfl, hcell⟩ : ∃ g o, A = some ⟨g, o, none⟩ ∧ ∀ (j : Nat) p, rs[j]? = some p → wr.cell? ⟨g, o + j, none⟩ = some (.slice p.A p.rs.length p.n) := by
        rcases HR.out with h | ⟨g, o, h1, h2⟩
        · rw [h] at hlt; simp at hlt
        · exact ⟨g, o, h1, fun j p hp => carry HB.out (h2 j p hp)⟩
      have c0 := hcell k _ hp
      have i0 : (0 : Int) ≤ (k : Int) := by omega
      have i1 : (k : Int) < (rs.length : Int) := by omega
      have i2 : (k : Int) ≤ (c : Int) := by omega
      have e1 : IntKind.i64.wrap ((k : Int) + 1) = (k : Int) + 1 := IntWalk.i64_in _ (by omega)
      have KF := Lib.hid (fun W (hb : Below wr.heap.size wr W) => HF.out p (List.mem_of_getElem? hp) W (HB.out.trans (hb.mono sB)))
      have HX2 : Hid ((xs ++ [(⟨(G p).toArray⟩ : ByteArray)]).map (·.data.toList) = (rs.take (k + 1)).map G) := Lib.hid (by
        rw [List.map_append, HX.out, List.take_add_one, hp, List.map_append]
        rfl)
      generalize (⟨(G p).toArray⟩ : ByteArray) = T1 at *
      obtain ⟨ss, C, nn⟩ := p
      simp only at c0 KF
      clear hcell hp
      go_wp2_with fail
      refine (KF.out _ (by (repeat (first | with_reducible exact Below.refl _ _ | with_reducible refine bel_set ?_ ?_ | with_reducible refine bel_alloc ?_ ?_ | with_reducible refine Below.drew ?_ | with_reducible refine bel_drewN _ ?_ | with_reducible refine bel_call ?_ (by assumption) ?_)); all_goals (first | (simp; done) | omega | (simp; omega)))).mono ?_
      rintro e w1 ⟨rfl, hb⟩
      have hb1 : Below wr.heap.size wr w1 := (by (repeat (first | with_reducible exact Below.refl _ _ | with_reducible refine bel_set ?_ ?_ | with_reducible refine bel_alloc ?_ ?_ | with_reducible refine Below.drew ?_ | with_reducible refine bel_drewN _ ?_ | with_reducible refine bel_call ?_ (by assumption) ?_)); all_goals (first | (simp; done) | omega | (simp; omega)))
      have s1 := hb1.size
      have HO1 := Lib.hid (HO.out.below hb1)
      have HB1 := Lib.hid (HB.out.trans (hb1.mono sB))
      clear hb hb1 HO KF
      go_wp2_with (at_builtin; refine wpList_append_one rfl _ _ rfl T1 rfl rfl (HO1.out.alloc _) (by go_simp) (by simp; omega) (by omega) ?_; intro v' w' ho hoff)
      have hbl := OwnsS.grown (HO1.out.alloc (.cells #[.string T1] 9)) hoff (by simp; omega)
      have HB3 : Hid (Below w.heap.size w w') := Lib.hid ((HB1.out.alloc (by omega) _).trans hbl)
      obtain ⟨A', d', rfl, _⟩ := ho.form
      have HO3 := Lib.hid ho
      have hl3 : (xs ++ [T1]).length ≤ k + 1 := by simp; omega
      clear ho hoff hbl
      go_roundw
      case rel => exact ⟨k + 1, A', d', _, by omega, by go_num, rfl, hl3, HO3, HX2, HB3⟩
      case measure => simp [intOf]; omega
    · obtain rfl : k = rs.length := by omega
      have hxx := HX.out
      rw [List.take_length] at hxx
      have KJ := Lib.hid (strings_joinW (A := B) (c := d) xs.length sep wr rfl HO.out.strs HO.out.cap.2 (by omega) (by rw [hxx]; exact HL.out))
      rw [hxx, HT.out] at KJ
      clear hxx
      go_wp2_with fail
      refine KJ.out.mono ?_
      rintro e w1 ⟨rfl, hb⟩
      go_wp2_with fail
      go_ret
      exact ⟨rfl, HB.out.trans (hb.mono sB)⟩

end Go.Proofs.YtkklemhhimcahaaGreatDoor
