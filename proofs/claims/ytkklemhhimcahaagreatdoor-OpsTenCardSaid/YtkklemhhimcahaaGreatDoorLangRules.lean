/- lang.rules and lang.Rules. -/
import Derived.Test.YtkklemhhimcahaaGreatDoorLangPlain
import Derived.Test.YtkklemhhimcahaaGreatDoorShelf
import Derived.Test.YtkklemhhimcahaaGreatDoorOff
import Derived.Test.YtkklemhhimcahaaGreatDoorRowsS
import Derived.Maps.OwnSet
import Derived.Maps.Keyed
import Derived.Carry
namespace Go.Proofs.YtkklemhhimcahaaGreatDoor
open Go.RowKit Go.Maps Go.WideMaps

/-- any value, as it is -/
def heldE (v : Value) : Option (VD × List MemPlace) := some (.held v, [])
theorem zero_set (w : World) : (zeroValue 40).run Tryz.prog w = .ok (.agg #[.string ⟨#[]⟩, .string ⟨#[]⟩, .string ⟨#[]⟩, .string ⟨#[]⟩, .string ⟨#[]⟩]) w := by kernel_rfl
theorem strK (l : ByteArray) (h : l.size ≤ maxLen) : keyOf Tryz.prog 9 (.string l) = some (.string l.data.toList) := keyOf_string_mk Tryz.underlying9 h

set_option maxHeartbeats 4000000 in
set_option maxRecDepth 100000 in
theorem lang_rules (w : World) :
    Calls Tryz.prog 30 #[] w fun e w' => (∃ b, e = .returned (.map (some b)) ∧ w'.ownsMap Tryz.prog 9 heldE b 8 langD) ∧ Below w.heap.size w w' := by
  have hmm := @run_makeMap Tryz.prog
  obtain ⟨w0, hw0⟩ : ∃ w0, w0 = (w.alloc (.cells #[.string ⟨#[]⟩, .string ⟨#[105, 32, 61, 32, 49, 32, 97, 110, 100, 32, 118, 32, 61, 32, 48]⟩, .string ⟨#[]⟩, .string ⟨#[]⟩, .string ⟨#[]⟩] 40)).alloc (.map #[] 0) := ⟨_, rfl⟩
  have hown0 : w0.ownsMap Tryz.prog 9 heldE (w.heap.size + 1) 0 (.map []) := by rw [hw0]; have := World.ownsMap_made (w.alloc (.cells #[.string ⟨#[]⟩, .string ⟨#[105, 32, 61, 32, 49, 32, 97, 110, 100, 32, 118, 32, 61, 32, 48]⟩, .string ⟨#[]⟩, .string ⟨#[]⟩, .string ⟨#[]⟩] 40)) Tryz.prog 9 heldE; simpa using this
  have c0_0 : w0.cell? ⟨w.heap.size, 0, none⟩ = some (.string ⟨#[]⟩) := by rw [hw0]; go_simp
  have c1_0 : w0.cell? ⟨w.heap.size, 1, none⟩ = some (.string ⟨#[105, 32, 61, 32, 49, 32, 97, 110, 100, 32, 118, 32, 61, 32, 48]⟩) := by rw [hw0]; go_simp
  have c2_0 : w0.cell? ⟨w.heap.size, 2, none⟩ = some (.string ⟨#[]⟩) := by rw [hw0]; go_simp
  have c3_0 : w0.cell? ⟨w.heap.size, 3, none⟩ = some (.string ⟨#[]⟩) := by rw [hw0]; go_simp
  have c4_0 : w0.cell? ⟨w.heap.size, 4, none⟩ = some (.string ⟨#[]⟩) := by rw [hw0]; go_simp
  obtain ⟨w1, hr1, hown1, hg1⟩ := World.ownsMap.update hown0 (string_keyed Tryz.underlying9) Tryz.underlying77 (by decide) (strK ⟨#[101, 110]⟩ (by decide)) (show heldE (.agg #[.string ⟨#[]⟩, .string ⟨#[105, 32, 61, 32, 49, 32, 97, 110, 100, 32, 118, 32, 61, 32, 48]⟩, .string ⟨#[]⟩, .string ⟨#[]⟩, .string ⟨#[]⟩]) = some (.held (enS).val, []) from rfl)
  have hf1 := grown_off (l := [w.heap.size + 1]) hg1 (fun k hk => by cases hk; simp)
  have c0_1 := hf1.cell c0_0 (by first | (simp; done) | (simp; omega))
  have c1_1 := hf1.cell c1_0 (by first | (simp; done) | (simp; omega))
  have c2_1 := hf1.cell c2_0 (by first | (simp; done) | (simp; omega))
  have c3_1 := hf1.cell c3_0 (by first | (simp; done) | (simp; omega))
  have c4_1 := hf1.cell c4_0 (by first | (simp; done) | (simp; omega))
  obtain ⟨w2, hr2, hown2, hg2⟩ := World.ownsMap.update hown1 (string_keyed Tryz.underlying9) Tryz.underlying77 (by decide) (strK ⟨#[100, 101]⟩ (by decide)) (show heldE (.agg #[.string ⟨#[]⟩, .string ⟨#[105, 32, 61, 32, 49, 32, 97, 110, 100, 32, 118, 32, 61, 32, 48]⟩, .string ⟨#[]⟩, .string ⟨#[]⟩, .string ⟨#[]⟩]) = some (.held (deS).val, []) from rfl)
  have hf2 := grown_off (l := [w.heap.size + 1]) hg2 (fun k hk => by cases hk; simp)
  have c0_2 := hf2.cell c0_1 (by first | (simp; done) | (simp; omega))
  have c1_2 := hf2.cell c1_1 (by first | (simp; done) | (simp; omega))
  have c2_2 := hf2.cell c2_1 (by first | (simp; done) | (simp; omega))
  have c3_2 := hf2.cell c3_1 (by first | (simp; done) | (simp; omega))
  have c4_2 := hf2.cell c4_1 (by first | (simp; done) | (simp; omega))
  obtain ⟨w3, hr3, hown3, hg3⟩ := World.ownsMap.update hown2 (string_keyed Tryz.underlying9) Tryz.underlying77 (by decide) (strK ⟨#[102, 114]⟩ (by decide)) (show heldE (.agg #[.string ⟨#[]⟩, .string ⟨#[105, 32, 61, 32, 48, 44, 49]⟩, .string ⟨#[]⟩, .string ⟨#[]⟩, .string ⟨#[]⟩]) = some (.held (frS).val, []) from rfl)
  have hf3 := grown_off (l := [w.heap.size + 1]) hg3 (fun k hk => by cases hk; simp)
  have c0_3 := hf3.cell c0_2 (by first | (simp; done) | (simp; omega))
  have c1_3 := hf3.cell c1_2 (by first | (simp; done) | (simp; omega))
  have c2_3 := hf3.cell c2_2 (by first | (simp; done) | (simp; omega))
  have c3_3 := hf3.cell c3_2 (by first | (simp; done) | (simp; omega))
  have c4_3 := hf3.cell c4_2 (by first | (simp; done) | (simp; omega))
  obtain ⟨w4, hr4, hown4, hg4⟩ := World.ownsMap.update hown3 (string_keyed Tryz.underlying9) Tryz.underlying77 (by decide) (strK ⟨#[106, 97]⟩ (by decide)) (show heldE (.agg #[.string ⟨#[]⟩, .string ⟨#[]⟩, .string ⟨#[]⟩, .string ⟨#[]⟩, .string ⟨#[]⟩]) = some (.held (jaS).val, []) from rfl)
  have hf4 := grown_off (l := [w.heap.size + 1]) hg4 (fun k hk => by cases hk; simp)
  have c0_4 := hf4.cell c0_3 (by first | (simp; done) | (simp; omega))
  have c1_4 := hf4.cell c1_3 (by first | (simp; done) | (simp; omega))
  have c2_4 := hf4.cell c2_3 (by first | (simp; done) | (simp; omega))
  have c3_4 := hf4.cell c3_3 (by first | (simp; done) | (simp; omega))
  have c4_4 := hf4.cell c4_3 (by first | (simp; done) | (simp; omega))
  obtain ⟨w5, hr5, hown5, hg5⟩ := World.ownsMap.update hown4 (string_keyed Tryz.underlying9) Tryz.underlying77 (by decide) (strK ⟨#[112, 108]⟩ (by decide)) (show heldE (.agg #[.string ⟨#[]⟩, .string ⟨#[105, 32, 61, 32, 49, 32, 97, 110, 100, 32, 118, 32, 61, 32, 48]⟩, .string ⟨#[]⟩, .string ⟨#[118, 32, 61, 32, 48, 32, 97, 110, 100, 32, 105, 32, 37, 32, 49, 48, 32, 61, 32, 50, 46, 46, 52, 32, 97, 110, 100, 32, 105, 32, 37, 32, 49, 48, 48, 32, 33, 61, 32, 49, 50, 46, 46, 49, 52]⟩, .string ⟨#[118, 32, 61, 32, 48, 32, 97, 110, 100, 32, 105, 32, 33, 61, 32, 49, 32, 97, 110, 100, 32, 105, 32, 37, 32, 49, 48, 32, 61, 32, 48, 46, 46, 49, 32, 111, 114, 32, 118, 32, 61, 32, 48, 32, 97, 110, 100, 32, 105, 32, 37, 32, 49, 48, 32, 61, 32, 53, 46, 46, 57, 32, 111, 114, 32, 118, 32, 61, 32, 48, 32, 97, 110, 100, 32, 105, 32, 37, 32, 49, 48, 48, 32, 61, 32, 49, 50, 46, 46, 49, 52]⟩]) = some (.held (plS).val, []) from rfl)
  have hf5 := grown_off (l := [w.heap.size + 1]) hg5 (fun k hk => by cases hk; simp)
  have c0_5 := hf5.cell c0_4 (by first | (simp; done) | (simp; omega))
  have c1_5 := hf5.cell c1_4 (by first | (simp; done) | (simp; omega))
  have c2_5 := hf5.cell c2_4 (by first | (simp; done) | (simp; omega))
  have c3_5 := hf5.cell c3_4 (by first | (simp; done) | (simp; omega))
  have c4_5 := hf5.cell c4_4 (by first | (simp; done) | (simp; omega))
  obtain ⟨w6, hr6, hown6, hg6⟩ := World.ownsMap.update hown5 (string_keyed Tryz.underlying9) Tryz.underlying77 (by decide) (strK ⟨#[114, 117]⟩ (by decide)) (show heldE (.agg #[.string ⟨#[]⟩, .string ⟨#[118, 32, 61, 32, 48, 32, 97, 110, 100, 32, 105, 32, 37, 32, 49, 48, 32, 61, 32, 49, 32, 97, 110, 100, 32, 105, 32, 37, 32, 49, 48, 48, 32, 33, 61, 32, 49, 49]⟩, .string ⟨#[]⟩, .string ⟨#[118, 32, 61, 32, 48, 32, 97, 110, 100, 32, 105, 32, 37, 32, 49, 48, 32, 61, 32, 50, 46, 46, 52, 32, 97, 110, 100, 32, 105, 32, 37, 32, 49, 48, 48, 32, 33, 61, 32, 49, 50, 46, 46, 49, 52]⟩, .string ⟨#[118, 32, 61, 32, 48, 32, 97, 110, 100, 32, 105, 32, 37, 32, 49, 48, 32, 61, 32, 48, 32, 111, 114, 32, 118, 32, 61, 32, 48, 32, 97, 110, 100, 32, 105, 32, 37, 32, 49, 48, 32, 61, 32, 53, 46, 46, 57, 32, 111, 114, 32, 118, 32, 61, 32, 48, 32, 97, 110, 100, 32, 105, 32, 37, 32, 49, 48, 48, 32, 61, 32, 49, 49, 46, 46, 49, 52]⟩]) = some (.held (ruS).val, []) from rfl)
  have hf6 := grown_off (l := [w.heap.size + 1]) hg6 (fun k hk => by cases hk; simp)
  have c0_6 := hf6.cell c0_5 (by first | (simp; done) | (simp; omega))
  have c1_6 := hf6.cell c1_5 (by first | (simp; done) | (simp; omega))
  have c2_6 := hf6.cell c2_5 (by first | (simp; done) | (simp; omega))
  have c3_6 := hf6.cell c3_5 (by first | (simp; done) | (simp; omega))
  have c4_6 := hf6.cell c4_5 (by first | (simp; done) | (simp; omega))
  obtain ⟨w7, hr7, hown7, hg7⟩ := World.ownsMap.update hown6 (string_keyed Tryz.underlying9) Tryz.underlying77 (by decide) (strK ⟨#[97, 114]⟩ (by decide)) (show heldE (.agg #[.string ⟨#[110, 32, 61, 32, 48]⟩, .string ⟨#[110, 32, 61, 32, 49]⟩, .string ⟨#[110, 32, 61, 32, 50]⟩, .string ⟨#[110, 32, 37, 32, 49, 48, 48, 32, 61, 32, 51, 46, 46, 49, 48]⟩, .string ⟨#[110, 32, 37, 32, 49, 48, 48, 32, 61, 32, 49, 49, 46, 46, 57, 57]⟩]) = some (.held (arS).val, []) from rfl)
  have hf7 := grown_off (l := [w.heap.size + 1]) hg7 (fun k hk => by cases hk; simp)
  have c0_7 := hf7.cell c0_6 (by first | (simp; done) | (simp; omega))
  have c1_7 := hf7.cell c1_6 (by first | (simp; done) | (simp; omega))
  have c2_7 := hf7.cell c2_6 (by first | (simp; done) | (simp; omega))
  have c3_7 := hf7.cell c3_6 (by first | (simp; done) | (simp; omega))
  have c4_7 := hf7.cell c4_6 (by first | (simp; done) | (simp; omega))
  obtain ⟨w8, hr8, hown8, hg8⟩ := World.ownsMap.update hown7 (string_keyed Tryz.underlying9) Tryz.underlying77 (by decide) (strK ⟨#[108, 118]⟩ (by decide)) (show heldE (.agg #[.string ⟨#[110, 32, 37, 32, 49, 48, 32, 61, 32, 48, 32, 111, 114, 32, 110, 32, 37, 32, 49, 48, 48, 32, 61, 32, 49, 49, 46, 46, 49, 57, 32, 111, 114, 32, 118, 32, 61, 32, 50, 32, 97, 110, 100, 32, 102, 32, 37, 32, 49, 48, 48, 32, 61, 32, 49, 49, 46, 46, 49, 57]⟩, .string ⟨#[110, 32, 37, 32, 49, 48, 32, 61, 32, 49, 32, 97, 110, 100, 32, 110, 32, 37, 32, 49, 48, 48, 32, 33, 61, 32, 49, 49, 32, 111, 114, 32, 118, 32, 61, 32, 50, 32, 97, 110, 100, 32, 102, 32, 37, 32, 49, 48, 32, 61, 32, 49, 32, 97, 110, 100, 32, 102, 32, 37, 32, 49, 48, 48, 32, 33, 61, 32, 49, 49, 32, 111, 114, 32, 118, 32, 33, 61, 32, 50, 32, 97, 110, 100, 32, 102, 32, 37, 32, 49, 48, 32, 61, 32, 49]⟩, .string ⟨#[]⟩, .string ⟨#[]⟩, .string ⟨#[]⟩]) = some (.held (lvS).val, []) from rfl)
  have hf8 := grown_off (l := [w.heap.size + 1]) hg8 (fun k hk => by cases hk; simp)
  have c0_8 := hf8.cell c0_7 (by first | (simp; done) | (simp; omega))
  have c1_8 := hf8.cell c1_7 (by first | (simp; done) | (simp; omega))
  have c2_8 := hf8.cell c2_7 (by first | (simp; done) | (simp; omega))
  have c3_8 := hf8.cell c3_7 (by first | (simp; done) | (simp; omega))
  have c4_8 := hf8.cell c4_7 (by first | (simp; done) | (simp; omega))
  have hf0n : Off [w.heap.size + 1] w0 w8 := (((((((hf1.trans hf2).trans hf3).trans hf4).trans hf5).trans hf6).trans hf7).trans hf8)
  have hb0n : Below w.heap.size w w8 := by
    have h0 : Below w.heap.size w w0 := by rw [hw0]; exact (by (repeat (first | with_reducible exact Below.refl _ _ | with_reducible refine bel_set ?_ ?_ | with_reducible refine bel_alloc ?_ ?_ | with_reducible refine Below.drew ?_ | with_reducible refine bel_drewN _ ?_ | with_reducible refine bel_call ?_ (by assumption) ?_)); all_goals (first | (simp; done) | omega | (simp; omega)))
    exact h0.trans (hf0n.toBelow (by simp) h0.size)
  have HB := Lib.hid hb0n
  have HO : Hid (w8.ownsMap Tryz.prog 9 heldE (w.heap.size + 1) 8 langD) := Lib.hid hown8
  rw [hw0] at hr1
  clear hf0n hb0n hw0 hown0 hown1 hown2 hown3 hown4 hown5 hown6 hown7 hown8 hg1 hf1 hg2 hf2 hg3 hf3 hg4 hf4 hg5 hf5 hg6 hf6 hg7 hf7 hg8 hf8 c0_0 c0_2 c0_3 c0_4 c0_5 c0_6 c0_7 c0_8 c1_0 c1_2 c1_3 c1_4 c1_5 c1_6 c1_7 c1_8 c2_0 c2_2 c2_3 c2_4 c2_5 c2_6 c2_7 c2_8 c3_0 c3_2 c3_3 c3_4 c3_5 c3_6 c3_7 c3_8 c4_0 c4_2 c4_3 c4_4 c4_5 c4_6 c4_7 c4_8
  go_enter Tryz.func30, Tryz.ntmps30
  go_wp2_with fail
  go_ret
  exact ⟨⟨_, rfl, HO.out⟩, HB.out⟩


set_option maxRecDepth 100000 in
set_option maxHeartbeats 2000000 in
/-- lang.Rules of one of these -/
theorem lang_known (s : ByteArray) (x : SetC) (w : World) (hs : s.size ≤ maxLen) (h : langOf s.data.toList = some x) :
    Calls Tryz.prog 9 #[.string s] w fun e w' => e = .returned (.tuple #[setV x.s0 x.s1 x.s2 x.s3 x.s4, .nilIface]) ∧ Below w.heap.size w w' := by
  have HD := Lib.hid (langD_some h)
  have HK := Lib.hid (strK s hs)
  obtain ⟨x0, x1, x2, x3, x4⟩ := x
  clear h hs
  simp only at *
  go_enter Tryz.func9, Tryz.ntmps9
  go_wp2_with fail
  refine (lang_rules _).mono ?_
  rintro e w1 ⟨⟨b, rfl, ho⟩, hb⟩
  have HO := Lib.hid ho
  have c0 : w1.cell? ⟨w.heap.size, 0, none⟩ = some (.string ⟨#[]⟩) := carry hb (by go_simp)
  have c1 : w1.cell? ⟨w.heap.size, 1, none⟩ = some (.string ⟨#[]⟩) := carry hb (by go_simp)
  have c2 : w1.cell? ⟨w.heap.size, 2, none⟩ = some (.string ⟨#[]⟩) := carry hb (by go_simp)
  have c3 : w1.cell? ⟨w.heap.size, 3, none⟩ = some (.string ⟨#[]⟩) := carry hb (by go_simp)
  have c4 : w1.cell? ⟨w.heap.size, 4, none⟩ = some (.string ⟨#[]⟩) := carry hb (by go_simp)
  have f0 : ∀ j, w1.frozen? ⟨w.heap.size, j, none⟩ = false := fun j => (Below.frozen hb (p := ⟨w.heap.size, j, none⟩) (by simp)).trans (by go_simp)
  have s1 := lt_of_cell c0
  have HB : Hid (Below w.heap.size w w1) := Lib.hid (by (repeat (first | with_reducible exact Below.refl _ _ | with_reducible refine bel_set ?_ ?_ | with_reducible refine bel_alloc ?_ ?_ | with_reducible refine Below.drew ?_ | with_reducible refine bel_drewN _ ?_ | with_reducible refine bel_call ?_ (by assumption) ?_)); all_goals (first | (simp; done) | omega | (simp; omega)))
  clear ho hb
  obtain ⟨v, ps, hlook, hv⟩ := World.ownsMap.look_ok HO.out (string_keyed Tryz.underlying9) Tryz.underlying77 (zero_set _) (show heldE (.agg #[.string ⟨#[]⟩, .string ⟨#[]⟩, .string ⟨#[]⟩, .string ⟨#[]⟩, .string ⟨#[]⟩]) = some (.held (.agg #[.string ⟨#[]⟩, .string ⟨#[]⟩, .string ⟨#[]⟩, .string ⟨#[]⟩, .string ⟨#[]⟩]), []) from rfl) HK.out
  obtain ⟨h1, h2⟩ := HD.out (.held (.agg #[.string ⟨#[]⟩, .string ⟨#[]⟩, .string ⟨#[]⟩, .string ⟨#[]⟩, .string ⟨#[]⟩]))
  rw [h2] at hlook
  rw [h1] at hv
  simp only [heldE, Option.some.injEq, Prod.mk.injEq, DataW.held.injEq] at hv
  obtain ⟨rfl, _⟩ := hv
  unfold SetC.val at hlook
  clear h1 h2
  simp only [Nat.add_zero] at hlook
  have f00 := f0 0
  have f01 := f0 1
  have f02 := f0 2
  have f03 := f0 3
  have f04 := f0 4
  clear f0
  go_wp2_with fail
  exact bodyPost_ret (v := .tuple #[setV x0 x1 x2 x3 x4, .nilIface]) (by simp [results, Tryz.results9, go_sem, c0, c1, c2, c3, c4, s1]) rfl ⟨rfl, (((((HB.out.setCell (by simp) _).setCell (by simp) _).setCell (by simp) _).setCell (by simp) _).setCell (by simp) _).alloc (by have := HB.out.size; simp; omega) _⟩

set_option maxRecDepth 100000 in
set_option maxHeartbeats 2000000 in
/-- lang.Rules of no language that there is -/
theorem lang_none (s : ByteArray) (w : World) (hs : s.size ≤ maxLen) (h : langOf s.data.toList = none) :
    Calls Tryz.prog 9 #[.string s] w fun e w' => e = .returned (.tuple #[.agg #[.string ⟨#[]⟩, .string ⟨#[]⟩, .string ⟨#[]⟩, .string ⟨#[]⟩, .string ⟨#[]⟩], .iface 57 (.int .i64 2)]) ∧ Below w.heap.size w w' := by
  have HD := Lib.hid (fun z => langD_none h z)
  have HK := Lib.hid (strK s hs)
  clear h hs
  go_enter Tryz.func9, Tryz.ntmps9
  go_wp2_with fail
  refine (lang_rules _).mono ?_
  rintro e w1 ⟨⟨b, rfl, ho⟩, hb⟩
  have HO := Lib.hid ho
  have c0 : w1.cell? ⟨w.heap.size, 0, none⟩ = some (.string ⟨#[]⟩) := carry hb (by go_simp)
  have c1 : w1.cell? ⟨w.heap.size, 1, none⟩ = some (.string ⟨#[]⟩) := carry hb (by go_simp)
  have c2 : w1.cell? ⟨w.heap.size, 2, none⟩ = some (.string ⟨#[]⟩) := carry hb (by go_simp)
  have c3 : w1.cell? ⟨w.heap.size, 3, none⟩ = some (.string ⟨#[]⟩) := carry hb (by go_simp)
  have c4 : w1.cell? ⟨w.heap.size, 4, none⟩ = some (.string ⟨#[]⟩) := carry hb (by go_simp)
  have f0 : ∀ j, w1.frozen? ⟨w.heap.size, j, none⟩ = false := fun j => (Below.frozen hb (p := ⟨w.heap.size, j, none⟩) (by simp)).trans (by go_simp)
  have s1 := lt_of_cell c0
  have HB : Hid (Below w.heap.size w w1) := Lib.hid (by (repeat (first | with_reducible exact Below.refl _ _ | with_reducible refine bel_set ?_ ?_ | with_reducible refine bel_alloc ?_ ?_ | with_reducible refine Below.drew ?_ | with_reducible refine bel_drewN _ ?_ | with_reducible refine bel_call ?_ (by assumption) ?_)); all_goals (first | (simp; done) | omega | (simp; omega)))
  clear ho hb
  obtain ⟨v, ps, hlook, hv⟩ := World.ownsMap.look_ok HO.out (string_keyed Tryz.underlying9) Tryz.underlying77 (zero_set _) (show heldE (.agg #[.string ⟨#[]⟩, .string ⟨#[]⟩, .string ⟨#[]⟩, .string ⟨#[]⟩, .string ⟨#[]⟩]) = some (.held (.agg #[.string ⟨#[]⟩, .string ⟨#[]⟩, .string ⟨#[]⟩, .string ⟨#[]⟩, .string ⟨#[]⟩]), []) from rfl) HK.out
  obtain ⟨h1, h2⟩ := HD.out (.held (.agg #[.string ⟨#[]⟩, .string ⟨#[]⟩, .string ⟨#[]⟩, .string ⟨#[]⟩, .string ⟨#[]⟩]))
  rw [h2] at hlook
  rw [h1] at hv
  simp only [heldE, Option.some.injEq, Prod.mk.injEq, DataW.held.injEq] at hv
  obtain ⟨rfl, _⟩ := hv
  clear h1 h2
  have f00 := f0 0
  have f01 := f0 1
  have f02 := f0 2
  have f03 := f0 3
  have f04 := f0 4
  clear f0
  go_wp2_with fail
  exact bodyPost_ret (v := .tuple #[.agg #[.string ⟨#[]⟩, .string ⟨#[]⟩, .string ⟨#[]⟩, .string ⟨#[]⟩, .string ⟨#[]⟩], .iface 57 (.int .i64 2)]) (by simp [results, Tryz.results9, go_sem, c0, c1, c2, c3, c4, s1]) rfl ⟨rfl, (((((HB.out.setCell (by simp) _).setCell (by simp) _).setCell (by simp) _).setCell (by simp) _).setCell (by simp) _).alloc (by have := HB.out.size; simp; omega) _⟩
end Go.Proofs.YtkklemhhimcahaaGreatDoor
