/- msg.reader's cut, word, arg at "{a}". -/
import Derived.Test.YthlcjlmaaaappaaGreatDoorLexBare
import Derived.Test.YthlcjlmaaaappaaGreatDoorOff
namespace Go.Proofs.YthlcjlmaaaappaaGreatDoor
open Go.RowKit

theorem cut_yes (r : Nat) (s p t : ByteArray) (w : World) (h0 : w.cell? ⟨r, 0, none⟩ = some (.string s)) (hf : w.frozen? ⟨r, 0, none⟩ = false) (h1 : Lib.hasPrefix s.data.toList p.data.toList = true) (h2 : (⟨(Lib.trimPrefix s.data.toList p.data.toList).toArray⟩ : ByteArray) = t) :
    Calls Tryz.prog 45 #[.pointer (some ⟨r, 0, none⟩), .string p] w fun e w' => e = .returned (.bool true) ∧ w' = w.setCell ⟨r, 0, none⟩ (.string t) := by
  have H1 := Lib.hid h1
  have H2 := Lib.hid h2
  clear h1 h2
  go_enter Tryz.func45, Tryz.ntmps45
  go_wp2_with fail
  refine (Tryz.strings_CutPrefix s p _).mono ?_
  rintro e w1 ⟨rfl, rfl⟩
  rw [H1.out, H2.out]
  go_wp2_with fail
  go_ret
  exact ⟨rfl, rfl⟩
theorem cut_no (r : Nat) (s p : ByteArray) (w : World) (h0 : w.cell? ⟨r, 0, none⟩ = some (.string s)) (h1 : Lib.hasPrefix s.data.toList p.data.toList = false) :
    Calls Tryz.prog 45 #[.pointer (some ⟨r, 0, none⟩), .string p] w fun e w' => e = .returned (.bool false) ∧ w' = w := by
  have H1 := Lib.hid h1
  clear h1
  go_enter Tryz.func45, Tryz.ntmps45
  go_wp2_with fail
  refine (Tryz.strings_CutPrefix s p _).mono ?_
  rintro e w1 ⟨rfl, rfl⟩
  rw [H1.out]
  go_wp2_with fail
  go_ret
  exact ⟨rfl, rfl⟩

theorem idx_any (w : World) : Calls Tryz.prog 102 #[.string ⟨#[97, 125]⟩, .string ⟨#[44, 125]⟩] w fun e w' => e = .returned (.int .i64 1) ∧ Below w.heap.size w w' := by
  refine (Tryz.strings_IndexAny_short ⟨#[97, 125]⟩ ⟨#[44, 125]⟩ w (by decide) (by decide) (fun j b h => by
    have hm := List.mem_of_getElem? h
    have : ∀ x ∈ (⟨#[97, 125]⟩ : ByteArray).data.toList, x.toNat < 128 := by decide
    exact this b hm)).mono ?_
  rintro e w' ⟨rfl, pos, rfl⟩
  refine ⟨by rw [show Lib.indexAny (⟨#[97, 125]⟩ : ByteArray).data.toList (⟨#[44, 125]⟩ : ByteArray).data.toList = 1 by decide], ?_⟩
  exact (Below.refl _ _).alloc (Nat.le_refl _) _
theorem word_at (r : Nat) (w : World) (h0 : w.cell? ⟨r, 0, none⟩ = some (.string ⟨#[97, 125]⟩)) (hf : w.frozen? ⟨r, 0, none⟩ = false) :
    Calls Tryz.prog 72 #[.pointer (some ⟨r, 0, none⟩), .string ⟨#[44, 125]⟩] w fun e w' => e = .returned (.string ⟨#[97]⟩) ∧ (∃ w1, Below w.heap.size w w1 ∧ w' = w1.setCell ⟨r, 0, none⟩ (.string ⟨#[125]⟩)) := by
  have hlt := lt_of_cell h0
  have HC := Lib.hid (fun W (hb : Below w.heap.size w W) => (⟨carry hb h0, carryF hb hlt hf⟩ : W.cell? ⟨r, 0, none⟩ = some (.string ⟨#[97, 125]⟩) ∧ W.frozen? ⟨r, 0, none⟩ = false))
  have x1 : (⟨#[97, 125]⟩ : ByteArray).extract 0 1 = ⟨#[97]⟩ := by decide
  have x2 : (⟨#[97, 125]⟩ : ByteArray).extract 1 2 = ⟨#[125]⟩ := by decide
  go_enter Tryz.func72, Tryz.ntmps72
  go_wp2_with fail
  refine (idx_any _).mono ?_
  rintro e w1 ⟨rfl, hb⟩
  obtain ⟨a0, a1⟩ := HC.out _ hb
  go_wp2_with fail
  go_ret
  exact ⟨rfl, _, hb, rfl⟩

/-- the reader of a text -/
def RdAt (w : World) (r : Nat) (s : ByteArray) (d : Int) : Prop := w.cell? ⟨r, 0, none⟩ = some (.string s) ∧ w.cell? ⟨r, 1, none⟩ = some (.int .i64 d) ∧ w.frozen? ⟨r, 0, none⟩ = false ∧ w.frozen? ⟨r, 1, none⟩ = false
theorem RdAt.below {w w' : World} {r : Nat} {s : ByteArray} {d : Int} (h : RdAt w r s d) (hb : Below w.heap.size w w') : RdAt w' r s d :=
  ⟨carry hb h.1, carry hb h.2.1, carryF hb (lt_of_cell h.1) h.2.2.1, carryF hb (lt_of_cell h.1) h.2.2.2⟩
theorem RdAt.set {w : World} {r : Nat} {s : ByteArray} {d : Int} (h : RdAt w r s d) (t : ByteArray) : RdAt (w.setCell ⟨r, 0, none⟩ (.string t)) r t d :=
  ⟨cell_same h.1, cell_other h.2.1 (by simp), by rw [World.frozen?_setCell]; exact h.2.2.1, by rw [World.frozen?_setCell]; exact h.2.2.2⟩
theorem arg_at (r : Nat) (d : Int) (w : World) (h : RdAt w r ⟨#[97, 125]⟩ d) :
    Calls Tryz.prog 46 #[.pointer (some ⟨r, 0, none⟩), .bool false] w fun e w' => e = .returned (.agg #[.int .i64 2, .string ⟨#[97]⟩, .int .i64 0, .slice none 0 0]) ∧ RdAt w' r ⟨#[]⟩ d ∧ Off [r] w w' := by
  have hlt := lt_of_cell h.1
  go_enter Tryz.func46, Tryz.ntmps46
  have ha : Below w.heap.size w (w.alloc (.cells #[.int .i64 0, .string ⟨#[]⟩, .int .i64 0, .slice none 0 0] 30)) := (Below.refl _ _).alloc (Nat.le_refl _) _
  have h1 := h.below ha
  go_wp2_with fail
  refine (word_at r _ h1.1 h1.2.2.1).mono ?_
  rintro e w2 ⟨rfl, w1, hb1, rfl⟩
  have R2 := (h1.below hb1).set ⟨#[125]⟩
  have hne : r ≠ w.heap.size := by omega
  have hne2 : w.heap.size ≠ r := by omega
  have k0 : (w1.setCell ⟨r, 0, none⟩ (.string ⟨#[125]⟩)).cell? ⟨w.heap.size, 0, none⟩ = some (.int .i64 0) := cell_other (carry hb1 (by go_simp)) (by simp [hne, hne2])
  have k1 : (w1.setCell ⟨r, 0, none⟩ (.string ⟨#[125]⟩)).cell? ⟨w.heap.size, 1, none⟩ = some (.string ⟨#[]⟩) := cell_other (carry hb1 (by go_simp)) (by simp [hne, hne2])
  have k2 : (w1.setCell ⟨r, 0, none⟩ (.string ⟨#[125]⟩)).cell? ⟨w.heap.size, 2, none⟩ = some (.int .i64 0) := cell_other (carry hb1 (by go_simp)) (by simp [hne, hne2])
  have k3 : (w1.setCell ⟨r, 0, none⟩ (.string ⟨#[125]⟩)).cell? ⟨w.heap.size, 3, none⟩ = some (.slice none 0 0) := cell_other (carry hb1 (by go_simp)) (by simp [hne, hne2])
  have kf : ∀ i, (w1.setCell ⟨r, 0, none⟩ (.string ⟨#[125]⟩)).frozen? ⟨w.heap.size, i, none⟩ = false := fun i => by
    rw [World.frozen?_setCell]
    exact carryF hb1 (by simp) (by go_simp)
  have ko : Off [r] w (w1.setCell ⟨r, 0, none⟩ (.string ⟨#[125]⟩)) := ((((Off.refl [r] w).below ha (Nat.le_refl _)).below hb1 (by simp)).setCell _ _ (by simp))
  obtain ⟨W2, hW2⟩ : ∃ W2, W2 = w1.setCell ⟨r, 0, none⟩ (.string ⟨#[125]⟩) := ⟨_, rfl⟩
  rw [← hW2] at R2 k0 k1 k2 k3 ko ⊢
  simp only [← hW2] at kf
  clear hW2 h1 ha hb1
  have hb2 : Below W2.heap.size W2 (W2.alloc (.cells #[.int .i64 2, .string ⟨#[97]⟩, .int .i64 0, .slice none 0 0] 30)) := (Below.refl _ _).alloc (Nat.le_refl _) _
  have R3 := R2.below hb2
  have hle := ko.size
  go_wp2_with fail
  refine (cut_yes r ⟨#[125]⟩ ⟨#[125]⟩ ⟨#[]⟩ _ R3.1 R3.2.2.1 (by decide) (by decide)).mono ?_
  rintro e w3 ⟨rfl, rfl⟩
  have hlw := lt_of_cell k0
  have hrw : r < W2.heap.size := lt_of_cell R2.1
  have m0 : ((W2.alloc (.cells #[.int .i64 2, .string ⟨#[97]⟩, .int .i64 0, .slice none 0 0] 30)).setCell ⟨r, 0, none⟩ (.string ⟨#[]⟩)).cell? ⟨W2.heap.size, 0, none⟩ = some (.int .i64 2) := cell_other (by go_simp) (by first | (simp; done) | (simp; omega))
  have p0 : ((W2.alloc (.cells #[.int .i64 2, .string ⟨#[97]⟩, .int .i64 0, .slice none 0 0] 30)).setCell ⟨r, 0, none⟩ (.string ⟨#[]⟩)).cell? ⟨w.heap.size, 0, none⟩ = some (.int .i64 0) := cell_other (carry hb2 k0) (by simp [hne, hne2])
  have m1 : ((W2.alloc (.cells #[.int .i64 2, .string ⟨#[97]⟩, .int .i64 0, .slice none 0 0] 30)).setCell ⟨r, 0, none⟩ (.string ⟨#[]⟩)).cell? ⟨W2.heap.size, 1, none⟩ = some (.string ⟨#[97]⟩) := cell_other (by go_simp) (by first | (simp; done) | (simp; omega))
  have p1 : ((W2.alloc (.cells #[.int .i64 2, .string ⟨#[97]⟩, .int .i64 0, .slice none 0 0] 30)).setCell ⟨r, 0, none⟩ (.string ⟨#[]⟩)).cell? ⟨w.heap.size, 1, none⟩ = some (.string ⟨#[]⟩) := cell_other (carry hb2 k1) (by simp [hne, hne2])
  have m2 : ((W2.alloc (.cells #[.int .i64 2, .string ⟨#[97]⟩, .int .i64 0, .slice none 0 0] 30)).setCell ⟨r, 0, none⟩ (.string ⟨#[]⟩)).cell? ⟨W2.heap.size, 2, none⟩ = some (.int .i64 0) := cell_other (by go_simp) (by first | (simp; done) | (simp; omega))
  have p2 : ((W2.alloc (.cells #[.int .i64 2, .string ⟨#[97]⟩, .int .i64 0, .slice none 0 0] 30)).setCell ⟨r, 0, none⟩ (.string ⟨#[]⟩)).cell? ⟨w.heap.size, 2, none⟩ = some (.int .i64 0) := cell_other (carry hb2 k2) (by simp [hne, hne2])
  have m3 : ((W2.alloc (.cells #[.int .i64 2, .string ⟨#[97]⟩, .int .i64 0, .slice none 0 0] 30)).setCell ⟨r, 0, none⟩ (.string ⟨#[]⟩)).cell? ⟨W2.heap.size, 3, none⟩ = some (.slice none 0 0) := cell_other (by go_simp) (by first | (simp; done) | (simp; omega))
  have p3 : ((W2.alloc (.cells #[.int .i64 2, .string ⟨#[97]⟩, .int .i64 0, .slice none 0 0] 30)).setCell ⟨r, 0, none⟩ (.string ⟨#[]⟩)).cell? ⟨w.heap.size, 3, none⟩ = some (.slice none 0 0) := cell_other (carry hb2 k3) (by simp [hne, hne2])
  have pf : ∀ i, ((W2.alloc (.cells #[.int .i64 2, .string ⟨#[97]⟩, .int .i64 0, .slice none 0 0] 30)).setCell ⟨r, 0, none⟩ (.string ⟨#[]⟩)).frozen? ⟨w.heap.size, i, none⟩ = false := fun i => by
    rw [World.frozen?_setCell]
    exact carryF hb2 hlw (kf i)
  have R4 := R3.set ⟨#[]⟩
  have po : Off [r] w ((W2.alloc (.cells #[.int .i64 2, .string ⟨#[97]⟩, .int .i64 0, .slice none 0 0] 30)).setCell ⟨r, 0, none⟩ (.string ⟨#[]⟩)) := (ko.below hb2 hle).setCell _ _ (by simp)
  obtain ⟨W3, hW3⟩ : ∃ W3, W3 = (W2.alloc (.cells #[.int .i64 2, .string ⟨#[97]⟩, .int .i64 0, .slice none 0 0] 30)).setCell ⟨r, 0, none⟩ (.string ⟨#[]⟩) := ⟨_, rfl⟩
  rw [← hW3] at R4 m0 m1 m2 m3 p0 p1 p2 p3 po ⊢
  simp only [← hW3] at pf
  have f0 := pf 0
  have f1 := pf 1
  have f2 := pf 2
  have f3 := pf 3
  clear hW3 R3 R2 k0 k1 k2 k3 kf ko hb2 pf h
  have q0 : ((((W3.setCell ⟨w.heap.size, 0, none⟩ (.int .i64 2)).setCell ⟨w.heap.size, 1, none⟩ (.string ⟨#[97]⟩)).setCell ⟨w.heap.size, 2, none⟩ (.int .i64 0)).setCell ⟨w.heap.size, 3, none⟩ (.slice none 0 0)).cell? ⟨w.heap.size, 0, none⟩ = some (.int .i64 2) := (cell_other (cell_other (cell_other (cell_same p0) (by simp)) (by simp)) (by simp))
  have q1 : ((((W3.setCell ⟨w.heap.size, 0, none⟩ (.int .i64 2)).setCell ⟨w.heap.size, 1, none⟩ (.string ⟨#[97]⟩)).setCell ⟨w.heap.size, 2, none⟩ (.int .i64 0)).setCell ⟨w.heap.size, 3, none⟩ (.slice none 0 0)).cell? ⟨w.heap.size, 1, none⟩ = some (.string ⟨#[97]⟩) := (cell_other (cell_other (cell_same (cell_other p1 (by simp))) (by simp)) (by simp))
  have q2 : ((((W3.setCell ⟨w.heap.size, 0, none⟩ (.int .i64 2)).setCell ⟨w.heap.size, 1, none⟩ (.string ⟨#[97]⟩)).setCell ⟨w.heap.size, 2, none⟩ (.int .i64 0)).setCell ⟨w.heap.size, 3, none⟩ (.slice none 0 0)).cell? ⟨w.heap.size, 2, none⟩ = some (.int .i64 0) := (cell_other (cell_same (cell_other (cell_other p2 (by simp)) (by simp))) (by simp))
  have q3 : ((((W3.setCell ⟨w.heap.size, 0, none⟩ (.int .i64 2)).setCell ⟨w.heap.size, 1, none⟩ (.string ⟨#[97]⟩)).setCell ⟨w.heap.size, 2, none⟩ (.int .i64 0)).setCell ⟨w.heap.size, 3, none⟩ (.slice none 0 0)).cell? ⟨w.heap.size, 3, none⟩ = some (.slice none 0 0) := (cell_same (cell_other (cell_other (cell_other p3 (by simp)) (by simp)) (by simp)))
  have hr4 : RdAt ((((W3.setCell ⟨w.heap.size, 0, none⟩ (.int .i64 2)).setCell ⟨w.heap.size, 1, none⟩ (.string ⟨#[97]⟩)).setCell ⟨w.heap.size, 2, none⟩ (.int .i64 0)).setCell ⟨w.heap.size, 3, none⟩ (.slice none 0 0)) r ⟨#[]⟩ d := by
    obtain ⟨a, b, c, e⟩ := R4
    refine ⟨?_, ?_, ?_, ?_⟩
    · exact cell_other (cell_other (cell_other (cell_other a (by simp [hne, hne2])) (by simp [hne, hne2])) (by simp [hne, hne2])) (by simp [hne, hne2])
    · exact cell_other (cell_other (cell_other (cell_other b (by simp [hne, hne2])) (by simp [hne, hne2])) (by simp [hne, hne2])) (by simp [hne, hne2])
    · simp only [World.frozen?_setCell]; exact c
    · simp only [World.frozen?_setCell]; exact e
  have po4 : Off [r] w ((((W3.setCell ⟨w.heap.size, 0, none⟩ (.int .i64 2)).setCell ⟨w.heap.size, 1, none⟩ (.string ⟨#[97]⟩)).setCell ⟨w.heap.size, 2, none⟩ (.int .i64 0)).setCell ⟨w.heap.size, 3, none⟩ (.slice none 0 0)) := by
    refine po.below (C := w.heap.size) ?_ (Nat.le_refl _)
    exact bel_set (bel_set (bel_set (bel_set (Below.refl w.heap.size W3) (by show w.heap.size ≤ w.heap.size; omega)) (by show w.heap.size ≤ w.heap.size; omega)) (by show w.heap.size ≤ w.heap.size; omega)) (by show w.heap.size ≤ w.heap.size; omega)
  go_wp2_with fail
  (try simp only [Exit.inBlock, Exit.then])
  refine bodyPost_ret (v := .agg #[.int .i64 2, .string ⟨#[97]⟩, .int .i64 0, .slice none 0 0]) ?_ rfl ⟨rfl, hr4, po4⟩
  have hfr : Tryz.f46.results = #[.cell 4 30] := rfl
  simp [results, hfr, go_sem, q0, q1, q2, q3]
end Go.Proofs.YthlcjlmaaaappaaGreatDoor
