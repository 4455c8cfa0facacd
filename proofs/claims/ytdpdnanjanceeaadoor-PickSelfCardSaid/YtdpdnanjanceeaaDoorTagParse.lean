/- tag.Parse of "en-us". -/
import Derived.Test.YtdpdnanjanceeaaDoorTagText
import Derived.Test.YtdpdnanjanceeaaDoorMapped
namespace Go.Proofs.YtdpdnanjanceeaaDoor
open Go.RowKit

/-- the library's bound lies in the world -/
def MaxL (w : World) : Prop := ∃ m : Int, w.cell? ⟨0, 0, none⟩ = some (.int .i64 m)
theorem MaxL.below {w w' : World} (h : MaxL w) (hb : Below w.heap.size w w') : MaxL w' := by
  obtain ⟨m, h⟩ := h
  exact ⟨m, carry hb h⟩

theorem low_call (a b : ByteArray) (h : lowerL a.data.toList = b.data.toList) (hs : a.size ≤ 9223372036854775807) (w : World) : Calls Tryd.prog 30 #[.string a] w fun e w' => e = .returned (.string b) ∧ Below w.heap.size w w' := by
  refine (tag_lower a w hs).mono ?_
  rintro e w' ⟨rfl, hb⟩
  rw [h]
  exact ⟨rfl, hb⟩
theorem up_call (a b : ByteArray) (h : upperL a.data.toList = b.data.toList) (hs : a.size ≤ 9223372036854775807) (w : World) : Calls Tryd.prog 33 #[.string a] w fun e w' => e = .returned (.string b) ∧ Below w.heap.size w w' := by
  refine (tag_upper a w hs).mono ?_
  rintro e w' ⟨rfl, hb⟩
  rw [h]
  exact ⟨rfl, hb⟩
theorem reg_call (a : ByteArray) (v : Bool) (h : regionB a.data.toList = v) (hs : a.size ≤ 9223372036854775807) (w : World) : Calls Tryd.prog 34 #[.string a] w fun e w' => e = .returned (.bool v) ∧ w = w' := h ▸ tag_region a w hs
theorem made_call (a : ByteArray) (v : Bool) (h : madeB lowB a.data.toList 4 4 = v) (hs : a.size ≤ 9223372036854775807) (w : World) : Calls Tryd.prog 32 #[.func (.func 31) #[] #[], .string a, .int .i64 4, .int .i64 4] w fun e w' => e = .returned (.bool v) ∧ w = w' := h ▸ made_low a 4 4 w hs (by omega) (by omega)
theorem text_call (l s r t : ByteArray) (h : tagErr l.data.toList s.data.toList r.data.toList [] = 0) (ht : tagText l.data.toList s.data.toList r.data.toList [] = t.data.toList) (w : World) : Calls Tryd.prog 13 #[tagV l s r none 0 0] w fun e w' => e = .returned (.string t) ∧ Below w.heap.size w w' := by
  refine (tag_text l s r none 0 [] w (.inl rfl) (fun _ => rfl) h).mono ?_
  rintro e w' ⟨rfl, hb⟩
  refine ⟨?_, hb⟩
  show Ending.returned (.string ⟨(tagText l.data.toList s.data.toList r.data.toList []).toArray⟩) = _
  rw [ht]
theorem check_call (l s r : ByteArray) (v : Value) (hl : l.size ≤ 9223372036854775807) (hs : s.size ≤ 9223372036854775807) (hr : r.size ≤ 9223372036854775807) (h : errOf (tagErr l.data.toList s.data.toList r.data.toList []) = v) (w : World) :
    Calls Tryd.prog 10 #[tagV l s r none 0 0] w fun e w' => e = .returned v ∧ Below w.heap.size w w' := h ▸ tag_check l s r none 0 [] w hl hs hr (.inl rfl) (by simp) (by simp) (by simp)
theorem clone_zero (a : Addr) (c : Nat) (w : World) : Calls Tryd.prog 35 #[.slice (some a) 0 c] w fun e w' => ∃ g k, e = .returned (.slice (some ⟨g, 0, none⟩) 0 k) ∧ Below w.heap.size w w' := by
  refine (Tryd.slices_Clone_string_zero a c w).mono ?_
  rintro e w' ⟨v, rfl, ho, hne, hb⟩
  rcases ho.2 with ⟨h1, _⟩ | ⟨g, cap, cur, rfl, _⟩
  · exact absurd h1 hne
  · exact ⟨g, cap, rfl, hb⟩
theorem count_enus : Lib.countB ⟨#[101, 110, 45, 117, 115]⟩ ⟨#[45]⟩ = 1 := by decide +kernel
theorem split_enus : Lib.splitB ⟨#[45]⟩ 0 1 ⟨#[101, 110, 45, 117, 115]⟩ = [⟨#[101, 110]⟩, ⟨#[117, 115]⟩] := by decide +kernel
theorem split_call (w : World) (h : MaxL w) : Calls Tryd.prog 29 #[.string ⟨#[101, 110, 45, 117, 115]⟩, .string ⟨#[45]⟩] w fun e w' => e = .returned (.slice (some ⟨w.heap.size, 0, none⟩) 2 2) ∧ w' = w.alloc (.cells #[.string ⟨#[101, 110]⟩, .string ⟨#[117, 115]⟩] 9) := by
  obtain ⟨m, hm⟩ := h
  refine (Tryd.strings_Split ⟨#[101, 110, 45, 117, 115]⟩ ⟨#[45]⟩ m w (by decide) hm (by decide)).mono ?_
  rintro e w' ⟨rfl, rfl⟩
  rw [count_enus, split_enus]
  exact ⟨rfl, rfl⟩
set_option maxHeartbeats 4000000 in
theorem parse_enus (w : World) (hM : MaxL w) :
    Calls Tryd.prog 9 #[.string ⟨#[101, 110, 45, 117, 115]⟩] w fun e w' => e = .returned (.tuple #[tagV ⟨#[101, 110]⟩ ⟨#[]⟩ ⟨#[85, 83]⟩ none 0 0, .nilIface]) ∧ Below w.heap.size w w' := by
  have HM := Lib.hid hM
  clear hM
  go_enter Tryd.func9, Tryd.ntmps9
  go_wp2_with fail
  refine (low_call ⟨#[101, 110, 45, 117, 115]⟩ ⟨#[101, 110, 45, 117, 115]⟩ (by decide) (by decide) _).mono ?_
  rintro e w1 ⟨rfl, hb1⟩
  have r0_w1 : w1.cell? ⟨w.heap.size, 0, none⟩ = some (.string ⟨#[]⟩) := carry hb1 (by go_simp)
  have r1_w1 : w1.cell? ⟨w.heap.size, 1, none⟩ = some (.string ⟨#[]⟩) := carry hb1 (by go_simp)
  have r2_w1 : w1.cell? ⟨w.heap.size, 2, none⟩ = some (.string ⟨#[]⟩) := carry hb1 (by go_simp)
  have r3_w1 : w1.cell? ⟨w.heap.size, 3, none⟩ = some (.slice none 0 0) := carry hb1 (by go_simp)
  have qr0_w1 := lt_of_cell r0_w1
  have z0_w1 : w1.frozen? ⟨w.heap.size, 0, none⟩ = false := carryF hb1 (by first | (go_simp; done) | omega | (simp; omega)) (by go_simp)
  have z1_w1 : w1.frozen? ⟨w.heap.size, 1, none⟩ = false := carryF hb1 (by first | (go_simp; done) | omega | (simp; omega)) (by go_simp)
  have z2_w1 : w1.frozen? ⟨w.heap.size, 2, none⟩ = false := carryF hb1 (by first | (go_simp; done) | omega | (simp; omega)) (by go_simp)
  have z3_w1 : w1.frozen? ⟨w.heap.size, 3, none⟩ = false := carryF hb1 (by first | (go_simp; done) | omega | (simp; omega)) (by go_simp)
  have s1 : w.heap.size < w1.heap.size := by have := hb1.size; first | omega | (simp at this; omega)
  go_wp2_with fail
  refine (split_call _ (HM.out.below (((Below.refl _ _).alloc (Nat.le_refl _) _).trans (hb1.mono (by simp))))).mono ?_
  rintro e w2 ⟨rfl, hw2⟩
  have hb2 : Below w1.heap.size w1 w2 := by subst hw2; exact (Below.refl _ _).alloc (Nat.le_refl _) _
  have r0_w2 : w2.cell? ⟨w.heap.size, 0, none⟩ = some (.string ⟨#[]⟩) := carry hb2 r0_w1
  have r1_w2 : w2.cell? ⟨w.heap.size, 1, none⟩ = some (.string ⟨#[]⟩) := carry hb2 r1_w1
  have r2_w2 : w2.cell? ⟨w.heap.size, 2, none⟩ = some (.string ⟨#[]⟩) := carry hb2 r2_w1
  have r3_w2 : w2.cell? ⟨w.heap.size, 3, none⟩ = some (.slice none 0 0) := carry hb2 r3_w1
  have z0_w2 : w2.frozen? ⟨w.heap.size, 0, none⟩ = false := carryF hb2 qr0_w1 z0_w1
  have z1_w2 : w2.frozen? ⟨w.heap.size, 1, none⟩ = false := carryF hb2 qr0_w1 z1_w1
  have z2_w2 : w2.frozen? ⟨w.heap.size, 2, none⟩ = false := carryF hb2 qr0_w1 z2_w1
  have z3_w2 : w2.frozen? ⟨w.heap.size, 3, none⟩ = false := carryF hb2 qr0_w1 z3_w1
  have p0_w2 : w2.cell? ⟨w1.heap.size, 0, none⟩ = some (.string ⟨#[101, 110]⟩) := by subst hw2; go_simp
  have p1_w2 : w2.cell? ⟨w1.heap.size, 1, none⟩ = some (.string ⟨#[117, 115]⟩) := by subst hw2; go_simp
  have qr0_w2 := lt_of_cell r0_w2
  have qp0_w2 := lt_of_cell p0_w2
  clear hw2 r0_w1 r1_w1 r2_w1 r3_w1 z0_w1 z1_w1 z2_w1 z3_w1
  go_wp2_with fail
  refine (made_call ⟨#[117, 115]⟩ false (by decide) (by decide) _).mono ?_
  rintro e w2x ⟨rfl, rfl⟩
  go_wp2_with fail
  refine (up_call ⟨#[117, 115]⟩ ⟨#[85, 83]⟩ (by decide) (by decide) _).mono ?_
  rintro e w3 ⟨rfl, hb3⟩
  have r0_w3 : w3.cell? ⟨w.heap.size, 0, none⟩ = some (.string ⟨#[]⟩) := carry hb3 (by go_simp)
  have r1_w3 : w3.cell? ⟨w.heap.size, 1, none⟩ = some (.string ⟨#[]⟩) := carry hb3 (by go_simp)
  have r2_w3 : w3.cell? ⟨w.heap.size, 2, none⟩ = some (.string ⟨#[]⟩) := carry hb3 (by go_simp)
  have r3_w3 : w3.cell? ⟨w.heap.size, 3, none⟩ = some (.slice none 0 0) := carry hb3 (by go_simp)
  have p0_w3 : w3.cell? ⟨w1.heap.size, 0, none⟩ = some (.string ⟨#[101, 110]⟩) := carry hb3 (by go_simp)
  have p1_w3 : w3.cell? ⟨w1.heap.size, 1, none⟩ = some (.string ⟨#[117, 115]⟩) := carry hb3 (by go_simp)
  have t0_w3 : w3.cell? ⟨w2.heap.size, 0, none⟩ = some (.string ⟨#[101, 110]⟩) := carry hb3 (by go_simp)
  have t1_w3 : w3.cell? ⟨w2.heap.size, 1, none⟩ = some (.string ⟨#[]⟩) := carry hb3 (by go_simp)
  have t2_w3 : w3.cell? ⟨w2.heap.size, 2, none⟩ = some (.string ⟨#[]⟩) := carry hb3 (by go_simp)
  have t3_w3 : w3.cell? ⟨w2.heap.size, 3, none⟩ = some (.slice none 0 0) := carry hb3 (by go_simp)
  have qr0_w3 := lt_of_cell r0_w3
  have qp0_w3 := lt_of_cell p0_w3
  have qt0_w3 := lt_of_cell t0_w3
  have z0_w3 : w3.frozen? ⟨w.heap.size, 0, none⟩ = false := carryF hb3 (by first | (go_simp; done) | omega | (simp; omega)) (by go_simp)
  have z1_w3 : w3.frozen? ⟨w.heap.size, 1, none⟩ = false := carryF hb3 (by first | (go_simp; done) | omega | (simp; omega)) (by go_simp)
  have z2_w3 : w3.frozen? ⟨w.heap.size, 2, none⟩ = false := carryF hb3 (by first | (go_simp; done) | omega | (simp; omega)) (by go_simp)
  have z3_w3 : w3.frozen? ⟨w.heap.size, 3, none⟩ = false := carryF hb3 (by first | (go_simp; done) | omega | (simp; omega)) (by go_simp)
  have y0_w3 : w3.frozen? ⟨w2.heap.size, 0, none⟩ = false := carryF hb3 (by first | (go_simp; done) | omega | (simp; omega)) (by go_simp)
  have y1_w3 : w3.frozen? ⟨w2.heap.size, 1, none⟩ = false := carryF hb3 (by first | (go_simp; done) | omega | (simp; omega)) (by go_simp)
  have y2_w3 : w3.frozen? ⟨w2.heap.size, 2, none⟩ = false := carryF hb3 (by first | (go_simp; done) | omega | (simp; omega)) (by go_simp)
  have y3_w3 : w3.frozen? ⟨w2.heap.size, 3, none⟩ = false := carryF hb3 (by first | (go_simp; done) | omega | (simp; omega)) (by go_simp)
  have s3 : w2.heap.size < w3.heap.size := by have := hb3.size; first | omega | (simp at this; omega)
  clear r0_w2 r1_w2 r2_w2 r3_w2 z0_w2 z1_w2 z2_w2 z3_w2 p0_w2 p1_w2
  go_wp2_with fail
  refine (reg_call ⟨#[85, 83]⟩ true (by decide) (by decide) _).mono ?_
  rintro e w3x ⟨rfl, rfl⟩
  go_wp2_with fail
  refine (up_call ⟨#[117, 115]⟩ ⟨#[85, 83]⟩ (by decide) (by decide) _).mono ?_
  rintro e w4 ⟨rfl, hb4⟩
  have r0_w4 : w4.cell? ⟨w.heap.size, 0, none⟩ = some (.string ⟨#[]⟩) := carry hb4 (by go_simp)
  have r1_w4 : w4.cell? ⟨w.heap.size, 1, none⟩ = some (.string ⟨#[]⟩) := carry hb4 (by go_simp)
  have r2_w4 : w4.cell? ⟨w.heap.size, 2, none⟩ = some (.string ⟨#[]⟩) := carry hb4 (by go_simp)
  have r3_w4 : w4.cell? ⟨w.heap.size, 3, none⟩ = some (.slice none 0 0) := carry hb4 (by go_simp)
  have p0_w4 : w4.cell? ⟨w1.heap.size, 0, none⟩ = some (.string ⟨#[101, 110]⟩) := carry hb4 (by go_simp)
  have p1_w4 : w4.cell? ⟨w1.heap.size, 1, none⟩ = some (.string ⟨#[117, 115]⟩) := carry hb4 (by go_simp)
  have t0_w4 : w4.cell? ⟨w2.heap.size, 0, none⟩ = some (.string ⟨#[101, 110]⟩) := carry hb4 (by go_simp)
  have t1_w4 : w4.cell? ⟨w2.heap.size, 1, none⟩ = some (.string ⟨#[]⟩) := carry hb4 (by go_simp)
  have t2_w4 : w4.cell? ⟨w2.heap.size, 2, none⟩ = some (.string ⟨#[]⟩) := carry hb4 (by go_simp)
  have t3_w4 : w4.cell? ⟨w2.heap.size, 3, none⟩ = some (.slice none 0 0) := carry hb4 (by go_simp)
  have qr0_w4 := lt_of_cell r0_w4
  have qp0_w4 := lt_of_cell p0_w4
  have qt0_w4 := lt_of_cell t0_w4
  have z0_w4 : w4.frozen? ⟨w.heap.size, 0, none⟩ = false := carryF hb4 (by first | (go_simp; done) | omega | (simp; omega)) (by go_simp)
  have z1_w4 : w4.frozen? ⟨w.heap.size, 1, none⟩ = false := carryF hb4 (by first | (go_simp; done) | omega | (simp; omega)) (by go_simp)
  have z2_w4 : w4.frozen? ⟨w.heap.size, 2, none⟩ = false := carryF hb4 (by first | (go_simp; done) | omega | (simp; omega)) (by go_simp)
  have z3_w4 : w4.frozen? ⟨w.heap.size, 3, none⟩ = false := carryF hb4 (by first | (go_simp; done) | omega | (simp; omega)) (by go_simp)
  have y0_w4 : w4.frozen? ⟨w2.heap.size, 0, none⟩ = false := carryF hb4 (by first | (go_simp; done) | omega | (simp; omega)) (by go_simp)
  have y1_w4 : w4.frozen? ⟨w2.heap.size, 1, none⟩ = false := carryF hb4 (by first | (go_simp; done) | omega | (simp; omega)) (by go_simp)
  have y2_w4 : w4.frozen? ⟨w2.heap.size, 2, none⟩ = false := carryF hb4 (by first | (go_simp; done) | omega | (simp; omega)) (by go_simp)
  have y3_w4 : w4.frozen? ⟨w2.heap.size, 3, none⟩ = false := carryF hb4 (by first | (go_simp; done) | omega | (simp; omega)) (by go_simp)
  clear r0_w3 r1_w3 r2_w3 r3_w3 p0_w3 p1_w3 t0_w3 t1_w3 t2_w3 t3_w3 z0_w3 z1_w3 z2_w3 z3_w3 y0_w3 y1_w3 y2_w3 y3_w3
  go_wp2_with fail
  refine (clone_zero _ 0 _).mono ?_
  rintro e w5 ⟨gc, cc, rfl, hb5⟩
  have r0_w5 : w5.cell? ⟨w.heap.size, 0, none⟩ = some (.string ⟨#[]⟩) := carry hb5 (by go_simp)
  have r1_w5 : w5.cell? ⟨w.heap.size, 1, none⟩ = some (.string ⟨#[]⟩) := carry hb5 (by go_simp)
  have r2_w5 : w5.cell? ⟨w.heap.size, 2, none⟩ = some (.string ⟨#[]⟩) := carry hb5 (by go_simp)
  have r3_w5 : w5.cell? ⟨w.heap.size, 3, none⟩ = some (.slice none 0 0) := carry hb5 (by go_simp)
  have t0_w5 : w5.cell? ⟨w2.heap.size, 0, none⟩ = some (.string ⟨#[101, 110]⟩) := carry hb5 (by go_simp)
  have t1_w5 : w5.cell? ⟨w2.heap.size, 1, none⟩ = some (.string ⟨#[]⟩) := carry hb5 (by go_simp)
  have t2_w5 : w5.cell? ⟨w2.heap.size, 2, none⟩ = some (.string ⟨#[85, 83]⟩) := carry hb5 (by go_simp)
  have t3_w5 : w5.cell? ⟨w2.heap.size, 3, none⟩ = some (.slice none 0 0) := carry hb5 (by go_simp)
  have qr0_w5 := lt_of_cell r0_w5
  have qt0_w5 := lt_of_cell t0_w5
  have z0_w5 : w5.frozen? ⟨w.heap.size, 0, none⟩ = false := carryF hb5 (by first | (go_simp; done) | omega | (simp; omega)) (by go_simp)
  have z1_w5 : w5.frozen? ⟨w.heap.size, 1, none⟩ = false := carryF hb5 (by first | (go_simp; done) | omega | (simp; omega)) (by go_simp)
  have z2_w5 : w5.frozen? ⟨w.heap.size, 2, none⟩ = false := carryF hb5 (by first | (go_simp; done) | omega | (simp; omega)) (by go_simp)
  have z3_w5 : w5.frozen? ⟨w.heap.size, 3, none⟩ = false := carryF hb5 (by first | (go_simp; done) | omega | (simp; omega)) (by go_simp)
  have y0_w5 : w5.frozen? ⟨w2.heap.size, 0, none⟩ = false := carryF hb5 (by first | (go_simp; done) | omega | (simp; omega)) (by go_simp)
  have y1_w5 : w5.frozen? ⟨w2.heap.size, 1, none⟩ = false := carryF hb5 (by first | (go_simp; done) | omega | (simp; omega)) (by go_simp)
  have y2_w5 : w5.frozen? ⟨w2.heap.size, 2, none⟩ = false := carryF hb5 (by first | (go_simp; done) | omega | (simp; omega)) (by go_simp)
  have y3_w5 : w5.frozen? ⟨w2.heap.size, 3, none⟩ = false := carryF hb5 (by first | (go_simp; done) | omega | (simp; omega)) (by go_simp)
  clear r0_w4 r1_w4 r2_w4 r3_w4 p0_w4 p1_w4 t0_w4 t1_w4 t2_w4 t3_w4 z0_w4 z1_w4 z2_w4 z3_w4 y0_w4 y1_w4 y2_w4 y3_w4
  go_wp2_with fail
  refine (check_call ⟨#[101, 110]⟩ ⟨#[]⟩ ⟨#[85, 83]⟩ .nilIface (by decide) (by decide) (by decide) (by rw [show tagErr (ByteArray.mk #[101, 110]).data.toList (ByteArray.mk #[]).data.toList (ByteArray.mk #[85, 83]).data.toList [] = 0 by decide]; rfl) _).mono ?_
  rintro e w6 ⟨rfl, hb6⟩
  have r0_w6 : w6.cell? ⟨w.heap.size, 0, none⟩ = some (.string ⟨#[]⟩) := carry hb6 (by go_simp)
  have r1_w6 : w6.cell? ⟨w.heap.size, 1, none⟩ = some (.string ⟨#[]⟩) := carry hb6 (by go_simp)
  have r2_w6 : w6.cell? ⟨w.heap.size, 2, none⟩ = some (.string ⟨#[]⟩) := carry hb6 (by go_simp)
  have r3_w6 : w6.cell? ⟨w.heap.size, 3, none⟩ = some (.slice none 0 0) := carry hb6 (by go_simp)
  have t0_w6 : w6.cell? ⟨w2.heap.size, 0, none⟩ = some (.string ⟨#[101, 110]⟩) := carry hb6 (by go_simp)
  have t1_w6 : w6.cell? ⟨w2.heap.size, 1, none⟩ = some (.string ⟨#[]⟩) := carry hb6 (by go_simp)
  have t2_w6 : w6.cell? ⟨w2.heap.size, 2, none⟩ = some (.string ⟨#[85, 83]⟩) := carry hb6 (by go_simp)
  have t3_w6 : w6.cell? ⟨w2.heap.size, 3, none⟩ = some (.slice none 0 0) := carry hb6 (by go_simp)
  have qr0_w6 := lt_of_cell r0_w6
  have qt0_w6 := lt_of_cell t0_w6
  have z0_w6 : w6.frozen? ⟨w.heap.size, 0, none⟩ = false := carryF hb6 (by first | (go_simp; done) | omega | (simp; omega)) (by go_simp)
  have z1_w6 : w6.frozen? ⟨w.heap.size, 1, none⟩ = false := carryF hb6 (by first | (go_simp; done) | omega | (simp; omega)) (by go_simp)
  have z2_w6 : w6.frozen? ⟨w.heap.size, 2, none⟩ = false := carryF hb6 (by first | (go_simp; done) | omega | (simp; omega)) (by go_simp)
  have z3_w6 : w6.frozen? ⟨w.heap.size, 3, none⟩ = false := carryF hb6 (by first | (go_simp; done) | omega | (simp; omega)) (by go_simp)
  clear r0_w5 r1_w5 r2_w5 r3_w5 t0_w5 t1_w5 t2_w5 t3_w5 z0_w5 z1_w5 z2_w5 z3_w5 y0_w5 y1_w5 y2_w5 y3_w5
  go_wp2_with fail
  refine (text_call ⟨#[101, 110]⟩ ⟨#[]⟩ ⟨#[85, 83]⟩ ⟨#[101, 110, 45, 85, 83]⟩ (by decide) (by decide) _).mono ?_
  rintro e w7 ⟨rfl, hb7⟩
  have r0_w7 : w7.cell? ⟨w.heap.size, 0, none⟩ = some (.string ⟨#[]⟩) := carry hb7 (by go_simp)
  have r1_w7 : w7.cell? ⟨w.heap.size, 1, none⟩ = some (.string ⟨#[]⟩) := carry hb7 (by go_simp)
  have r2_w7 : w7.cell? ⟨w.heap.size, 2, none⟩ = some (.string ⟨#[]⟩) := carry hb7 (by go_simp)
  have r3_w7 : w7.cell? ⟨w.heap.size, 3, none⟩ = some (.slice none 0 0) := carry hb7 (by go_simp)
  have t0_w7 : w7.cell? ⟨w2.heap.size, 0, none⟩ = some (.string ⟨#[101, 110]⟩) := carry hb7 (by go_simp)
  have t1_w7 : w7.cell? ⟨w2.heap.size, 1, none⟩ = some (.string ⟨#[]⟩) := carry hb7 (by go_simp)
  have t2_w7 : w7.cell? ⟨w2.heap.size, 2, none⟩ = some (.string ⟨#[85, 83]⟩) := carry hb7 (by go_simp)
  have t3_w7 : w7.cell? ⟨w2.heap.size, 3, none⟩ = some (.slice none 0 0) := carry hb7 (by go_simp)
  have qr0_w7 := lt_of_cell r0_w7
  have qt0_w7 := lt_of_cell t0_w7
  have z0_w7 : w7.frozen? ⟨w.heap.size, 0, none⟩ = false := carryF hb7 (by first | (go_simp; done) | omega | (simp; omega)) (by go_simp)
  have z1_w7 : w7.frozen? ⟨w.heap.size, 1, none⟩ = false := carryF hb7 (by first | (go_simp; done) | omega | (simp; omega)) (by go_simp)
  have z2_w7 : w7.frozen? ⟨w.heap.size, 2, none⟩ = false := carryF hb7 (by first | (go_simp; done) | omega | (simp; omega)) (by go_simp)
  have z3_w7 : w7.frozen? ⟨w.heap.size, 3, none⟩ = false := carryF hb7 (by first | (go_simp; done) | omega | (simp; omega)) (by go_simp)
  clear r0_w6 r1_w6 r2_w6 r3_w6 t0_w6 t1_w6 t2_w6 t3_w6 z0_w6 z1_w6 z2_w6 z3_w6
  go_wp2_with fail
  refine (low_call ⟨#[101, 110, 45, 85, 83]⟩ ⟨#[101, 110, 45, 117, 115]⟩ (by decide) (by decide) _).mono ?_
  rintro e w8 ⟨rfl, hb8⟩
  have r0_w8 : w8.cell? ⟨w.heap.size, 0, none⟩ = some (.string ⟨#[]⟩) := carry hb8 (by go_simp)
  have r1_w8 : w8.cell? ⟨w.heap.size, 1, none⟩ = some (.string ⟨#[]⟩) := carry hb8 (by go_simp)
  have r2_w8 : w8.cell? ⟨w.heap.size, 2, none⟩ = some (.string ⟨#[]⟩) := carry hb8 (by go_simp)
  have r3_w8 : w8.cell? ⟨w.heap.size, 3, none⟩ = some (.slice none 0 0) := carry hb8 (by go_simp)
  have t0_w8 : w8.cell? ⟨w2.heap.size, 0, none⟩ = some (.string ⟨#[101, 110]⟩) := carry hb8 (by go_simp)
  have t1_w8 : w8.cell? ⟨w2.heap.size, 1, none⟩ = some (.string ⟨#[]⟩) := carry hb8 (by go_simp)
  have t2_w8 : w8.cell? ⟨w2.heap.size, 2, none⟩ = some (.string ⟨#[85, 83]⟩) := carry hb8 (by go_simp)
  have t3_w8 : w8.cell? ⟨w2.heap.size, 3, none⟩ = some (.slice none 0 0) := carry hb8 (by go_simp)
  have qr0_w8 := lt_of_cell r0_w8
  have qt0_w8 := lt_of_cell t0_w8
  have z0_w8 : w8.frozen? ⟨w.heap.size, 0, none⟩ = false := carryF hb8 (by first | (go_simp; done) | omega | (simp; omega)) (by go_simp)
  have z1_w8 : w8.frozen? ⟨w.heap.size, 1, none⟩ = false := carryF hb8 (by first | (go_simp; done) | omega | (simp; omega)) (by go_simp)
  have z2_w8 : w8.frozen? ⟨w.heap.size, 2, none⟩ = false := carryF hb8 (by first | (go_simp; done) | omega | (simp; omega)) (by go_simp)
  have z3_w8 : w8.frozen? ⟨w.heap.size, 3, none⟩ = false := carryF hb8 (by first | (go_simp; done) | omega | (simp; omega)) (by go_simp)
  clear r0_w7 r1_w7 r2_w7 r3_w7 t0_w7 t1_w7 t2_w7 t3_w7 z0_w7 z1_w7 z2_w7 z3_w7
  go_wp2_with fail
  refine (low_call ⟨#[101, 110, 45, 117, 115]⟩ ⟨#[101, 110, 45, 117, 115]⟩ (by decide) (by decide) _).mono ?_
  rintro e w9 ⟨rfl, hb9⟩
  have r0_w9 : w9.cell? ⟨w.heap.size, 0, none⟩ = some (.string ⟨#[]⟩) := carry hb9 (by go_simp)
  have r1_w9 : w9.cell? ⟨w.heap.size, 1, none⟩ = some (.string ⟨#[]⟩) := carry hb9 (by go_simp)
  have r2_w9 : w9.cell? ⟨w.heap.size, 2, none⟩ = some (.string ⟨#[]⟩) := carry hb9 (by go_simp)
  have r3_w9 : w9.cell? ⟨w.heap.size, 3, none⟩ = some (.slice none 0 0) := carry hb9 (by go_simp)
  have t0_w9 : w9.cell? ⟨w2.heap.size, 0, none⟩ = some (.string ⟨#[101, 110]⟩) := carry hb9 (by go_simp)
  have t1_w9 : w9.cell? ⟨w2.heap.size, 1, none⟩ = some (.string ⟨#[]⟩) := carry hb9 (by go_simp)
  have t2_w9 : w9.cell? ⟨w2.heap.size, 2, none⟩ = some (.string ⟨#[85, 83]⟩) := carry hb9 (by go_simp)
  have t3_w9 : w9.cell? ⟨w2.heap.size, 3, none⟩ = some (.slice none 0 0) := carry hb9 (by go_simp)
  have qr0_w9 := lt_of_cell r0_w9
  have qt0_w9 := lt_of_cell t0_w9
  have z0_w9 : w9.frozen? ⟨w.heap.size, 0, none⟩ = false := carryF hb9 (by first | (go_simp; done) | omega | (simp; omega)) (by go_simp)
  have z1_w9 : w9.frozen? ⟨w.heap.size, 1, none⟩ = false := carryF hb9 (by first | (go_simp; done) | omega | (simp; omega)) (by go_simp)
  have z2_w9 : w9.frozen? ⟨w.heap.size, 2, none⟩ = false := carryF hb9 (by first | (go_simp; done) | omega | (simp; omega)) (by go_simp)
  have z3_w9 : w9.frozen? ⟨w.heap.size, 3, none⟩ = false := carryF hb9 (by first | (go_simp; done) | omega | (simp; omega)) (by go_simp)
  clear r0_w8 r1_w8 r2_w8 r3_w8 t0_w8 t1_w8 t2_w8 t3_w8 z0_w8 z1_w8 z2_w8 z3_w8
  go_wp2_with fail
  have b1 := hb1.size
  have b3 := hb3.size
  have b4 := hb4.size
  have b5 := hb5.size
  have b6 := hb6.size
  have b7 := hb7.size
  have b8 := hb8.size
  exact bodyPost_ret (v := .tuple #[tagV ⟨#[101, 110]⟩ ⟨#[]⟩ ⟨#[85, 83]⟩ none 0 0, .nilIface]) (by simp [results, Tryd.results9, go_sem, r0_w9, r1_w9, r2_w9, r3_w9, World.cell?_setCell_same, World.cell?_setCell_other]) rfl ⟨rfl, (by (repeat (first | with_reducible exact Below.refl _ _ | with_reducible refine bel_set ?_ ?_ | with_reducible refine bel_alloc ?_ ?_ | with_reducible refine Below.drew ?_ | with_reducible refine bel_drewN _ ?_ | with_reducible refine bel_call ?_ (by assumption) ?_)); all_goals (first | (simp; done) | omega | (simp; omega)))⟩
end Go.Proofs.YtdpdnanjanceeaaDoor
