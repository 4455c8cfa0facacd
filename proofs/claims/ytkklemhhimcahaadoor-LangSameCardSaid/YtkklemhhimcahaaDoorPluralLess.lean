/- PluralLess: the law's walk. -/
import Derived.Test.YtkklemhhimcahaaDoorPluralKind
namespace Go.Proofs.YtkklemhhimcahaaDoor
open Go.RowKit

def SetC.less1 (s : SetC) : SetC := ⟨s.s0, s.s1, s.s2, s.s3, ⟨#[]⟩⟩
def SetC.less2 (s : SetC) : SetC := ⟨s.s0, s.s1, s.s2, ⟨#[]⟩, ⟨#[]⟩⟩
theorem at_less1 (s : SetC) (i : Nat) : s.less1.at i = if i = 4 then ⟨#[]⟩ else s.at i := by
  match i with
  | 0 | 1 | 2 | 3 | 4 => rfl
  | n + 5 => rfl
theorem at_less2 (s : SetC) (i : Nat) : s.less2.at i = if i = 4 ∨ i = 3 then ⟨#[]⟩ else s.at i := by
  match i with
  | 0 | 1 | 2 | 3 | 4 => rfl
  | n + 5 =>
    rw [if_neg (by omega)]
    rfl
theorem good_nil {s : SetC} {i : Nat} (h : s.at i = ⟨#[]⟩) : s.good i = true := by unfold SetC.good; rw [h, Lib.toList_data]; rfl
theorem hit_nil {s : SetC} {o : OpsC} {i : Nat} (h : s.at i = ⟨#[]⟩) : s.hit o i = false := by unfold SetC.hit; rw [h, Lib.toList_data]; rfl
theorem good_same {s t : SetC} {i : Nat} (h : s.at i = t.at i) : s.good i = t.good i := by unfold SetC.good; rw [h]
theorem hit_same {s t : SetC} {o : OpsC} {i : Nat} (h : s.at i = t.at i) : s.hit o i = t.hit o i := by unfold SetC.hit; rw [h]
theorem ok_less1 {s : SetC} (h : s.ok = true) : s.less1.ok = true := SetC.ok_of fun i hi => by
  by_cases h4 : i = 4
  · exact good_nil (by rw [at_less1, if_pos h4])
  · rw [good_same (t := s) (by rw [at_less1, if_neg h4])]; exact s.ok_good h i hi
theorem ok_less2 {s : SetC} (h : s.ok = true) : s.less2.ok = true := SetC.ok_of fun i hi => by
  by_cases h4 : i = 4 ∨ i = 3
  · exact good_nil (by rw [at_less2, if_pos h4])
  · rw [good_same (t := s) (by rw [at_less2, if_neg h4])]; exact s.ok_good h i hi
theorem small_less1 {s : SetC} (h : s.small) : s.less1.small := fun i => by
  rw [at_less1]
  split
  · decide
  · exact h i
theorem small_less2 {s : SetC} (h : s.small) : s.less2.small := fun i => by
  rw [at_less2]
  split
  · decide
  · exact h i
theorem kind_is (s : SetC) (o : OpsC) : (s.kind o < 5 ∧ (∀ j, j < s.kind o → s.hit o j = false) ∧ s.hit o (s.kind o) = true) ∨ (s.kind o = 5 ∧ ∀ j, j < 5 → s.hit o j = false) := by
  by_cases h : ∀ j, j < 5 → s.hit o j = false
  · exact .inr ⟨SetC.kind_none h, h⟩
  · left
    cases hf : (List.range 5).find? (s.hit o) with
    | none =>
      rw [List.find?_range_eq_none] at hf
      exact absurd (fun j hj => by have := hf j hj; simpa using this) h
    | some k =>
      have hf' := hf
      rw [List.find?_range_eq_some] at hf
      have hk : s.kind o = k := by unfold SetC.kind; rw [hf']; rfl
      rw [hk]
      exact ⟨List.mem_range.1 hf.2.1, fun j hj => by have := hf.2.2 j hj; simpa using this, hf.1⟩
/-- without the text of many -/
theorem kind_less1 (s : SetC) (o : OpsC) : s.less1.kind o = if s.kind o = 4 then 5 else s.kind o := by
  have e4 : s.less1.hit o 4 = false := hit_nil rfl
  have es : ∀ j, j ≠ 4 → s.less1.hit o j = s.hit o j := fun j hj => hit_same (by rw [at_less1, if_neg hj])
  rcases kind_is s o with ⟨h1, h2, h3⟩ | ⟨h1, h2⟩
  · split
    · rename_i h4
      refine SetC.kind_none fun j hj => ?_
      by_cases hj4 : j = 4
      · rw [hj4]; exact e4
      · rw [es j hj4]; exact h2 j (by omega)
    · exact SetC.kind_at h1 (fun j hj => by rw [es j (by omega)]; exact h2 j hj) (by rw [es _ (by omega)]; exact h3)
  · rw [h1, if_neg (by omega)]
    refine SetC.kind_none fun j hj => ?_
    by_cases hj4 : j = 4
    · rw [hj4]; exact e4
    · rw [es j hj4]; exact h2 j (by omega)
theorem kind_less2 (s : SetC) (o : OpsC) : s.less2.kind o = if s.kind o = 4 ∨ s.kind o = 3 then 5 else s.kind o := by
  have e4 : s.less2.hit o 4 = false := hit_nil rfl
  have e3 : s.less2.hit o 3 = false := hit_nil rfl
  have es : ∀ j, j ≠ 4 → j ≠ 3 → s.less2.hit o j = s.hit o j := fun j hj hj3 => hit_same (by rw [at_less2, if_neg (by omega)])
  rcases kind_is s o with ⟨h1, h2, h3⟩ | ⟨h1, h2⟩
  · split
    · rename_i h4
      refine SetC.kind_none fun j hj => ?_
      by_cases hj4 : j = 4
      · rw [hj4]; exact e4
      · by_cases hj3 : j = 3
        · rw [hj3]; exact e3
        · rw [es j hj4 hj3]; exact h2 j (by omega)
    · exact SetC.kind_at h1 (fun j hj => by rw [es j (by omega) (by omega)]; exact h2 j hj) (by rw [es _ (by omega) (by omega)]; exact h3)
  · rw [h1, if_neg (by omega)]
    refine SetC.kind_none fun j hj => ?_
    by_cases hj4 : j = 4
    · rw [hj4]; exact e4
    · by_cases hj3 : j = 3
      · rw [hj3]; exact e3
      · rw [es j hj4 hj3]; exact h2 j (by omega)

def n1S : SetC := ⟨⟨#[]⟩, ⟨#[110, 32, 61, 32, 49]⟩, ⟨#[]⟩, ⟨#[]⟩, ⟨#[]⟩⟩
set_option maxRecDepth 100000 in
theorem n1S_ok : n1S.ok = true := by kernel_rfl
set_option maxRecDepth 100000 in
theorem n1S_kind : n1S.kind (opsC 1 0) = 1 := by kernel_rfl
theorem n1S_small : n1S.small := fun i => by
  match i with
  | 0 | 1 | 2 | 3 | 4 => decide
  | n + 5 => exact (by decide : (⟨#[]⟩ : ByteArray).size < 4294967281)
theorem kind_n1 (w : World) (hE : RuleEnv w) (hK : KindsAt w) :
    Calls Tryd.prog 10 #[setV ⟨#[]⟩ ⟨#[110, 32, 61, 32, 49]⟩ ⟨#[]⟩ ⟨#[]⟩ ⟨#[]⟩, decV 1 0] w fun e w' => e = .returned (.tuple #[.string ⟨#[111, 110, 101]⟩, .nilIface]) ∧ Below w.heap.size w w' := by
  have := kind_ok n1S 1 0 w hE hK n1S_small n1S_ok ⟨by omega, by omega, by omega, by omega⟩
  rw [n1S_kind] at this
  exact this

set_option maxHeartbeats 2000000 in
theorem less_bad (s : SetC) (c d : Int) (w : World) (hE : RuleEnv w) (hK : KindsAt w) (E : Int) (h : ∀ W, Below w.heap.size w W → Calls Tryd.prog 10 #[setV s.s0 s.s1 s.s2 s.s3 s.s4, decV c d] W fun e w' => e = .returned (.tuple #[.string ⟨#[]⟩, errV E]) ∧ Below W.heap.size W w') :
    Calls Tryd.prog 4 #[setV s.s0 s.s1 s.s2 s.s3 s.s4, decV c d] w fun e w' => e = .returned (.bool true) ∧ Below w.heap.size w w' := by
  have KN := Lib.hid (fun W (hb : Below w.heap.size w W) => kind_n1 W (hE.below hb) (hK.below hb))
  have KS := Lib.hid h
  clear h hE hK
  obtain ⟨s0, s1, s2, s3, s4⟩ := s
  simp only at *
  go_enter Tryd.func4, Tryd.ntmps4
  go_wp2_with fail
  refine (KN.out _ (by (repeat (first | with_reducible exact Below.refl _ _ | with_reducible refine bel_set ?_ ?_ | with_reducible refine bel_alloc ?_ ?_ | with_reducible refine Below.drew ?_ | with_reducible refine bel_drewN _ ?_ | with_reducible refine bel_call ?_ (by assumption) ?_)); all_goals (first | (simp; done) | omega | (simp; omega)))).mono ?_
  rintro e w1 ⟨rfl, hb⟩
  have w1s0 : w1.cell? ⟨w.heap.size, 0, none⟩ = some (.string s0) := carry hb (by go_simp)
  have w1s1 : w1.cell? ⟨w.heap.size, 1, none⟩ = some (.string s1) := carry hb (by go_simp)
  have w1s2 : w1.cell? ⟨w.heap.size, 2, none⟩ = some (.string s2) := carry hb (by go_simp)
  have w1s3 : w1.cell? ⟨w.heap.size, 3, none⟩ = some (.string s3) := carry hb (by go_simp)
  have w1s4 : w1.cell? ⟨w.heap.size, 4, none⟩ = some (.string s4) := carry hb (by go_simp)
  have w1c : w1.cell? ⟨w.heap.size + 1, 0, none⟩ = some (.int .i64 c) := carry hb (by go_simp)
  have w1d : w1.cell? ⟨w.heap.size + 1, 1, none⟩ = some (.int .i64 d) := carry hb (by go_simp)
  have HB1 : Hid (Below w.heap.size w w1) := Lib.hid (by (repeat (first | with_reducible exact Below.refl _ _ | with_reducible refine bel_set ?_ ?_ | with_reducible refine bel_alloc ?_ ?_ | with_reducible refine Below.drew ?_ | with_reducible refine bel_drewN _ ?_ | with_reducible refine bel_call ?_ (by assumption) ?_)); all_goals (first | (simp; done) | omega | (simp; omega)))
  clear hb
  go_wp2_with fail
  refine (KS.out _ HB1.out).mono ?_
  rintro e w2 ⟨rfl, hb⟩
  have HB2 : Hid (Below w.heap.size w w2) := Lib.hid (HB1.out.trans (hb.mono HB1.out.size))
  clear hb
  go_wp2_with fail
  go_ret
  exact ⟨rfl, HB2.out⟩


set_option maxHeartbeats 4000000 in
theorem less_0 (s : SetC) (c d : Int) (w : World) (hE : RuleEnv w) (hK : KindsAt w)
    (h : ∀ W, Below w.heap.size w W → Calls Tryd.prog 10 #[setV s.s0 s.s1 s.s2 s.s3 s.s4, decV c d] W fun e w' => e = .returned (.tuple #[.string ⟨#[122, 101, 114, 111]⟩, .nilIface]) ∧ Below W.heap.size W w')
    (h1 : ∀ W, Below w.heap.size w W → Calls Tryd.prog 10 #[setV s.s0 s.s1 s.s2 s.s3 ⟨#[]⟩, decV c d] W fun e w' => e = .returned (.tuple #[.string ⟨#[122, 101, 114, 111]⟩, .nilIface]) ∧ Below W.heap.size W w')
    (h2 : ∀ W, Below w.heap.size w W → Calls Tryd.prog 10 #[setV s.s0 s.s1 s.s2 ⟨#[]⟩ ⟨#[]⟩, decV c d] W fun e w' => e = .returned (.tuple #[.string ⟨#[122, 101, 114, 111]⟩, .nilIface]) ∧ Below W.heap.size W w') :
    Calls Tryd.prog 4 #[setV s.s0 s.s1 s.s2 s.s3 s.s4, decV c d] w fun e w' => e = .returned (.bool true) ∧ Below w.heap.size w w' := by
  have KN := Lib.hid (fun W (hb : Below w.heap.size w W) => kind_n1 W (hE.below hb) (hK.below hb))
  have KS := Lib.hid h
  have K1 := Lib.hid h1
  have K2 := Lib.hid h2
  clear h h1 h2 hE hK
  obtain ⟨s0, s1, s2, s3, s4⟩ := s
  simp only at *
  go_enter Tryd.func4, Tryd.ntmps4
  go_wp2_with fail
  refine (KN.out _ (by (repeat (first | with_reducible exact Below.refl _ _ | with_reducible refine bel_set ?_ ?_ | with_reducible refine bel_alloc ?_ ?_ | with_reducible refine Below.drew ?_ | with_reducible refine bel_drewN _ ?_ | with_reducible refine bel_call ?_ (by assumption) ?_)); all_goals (first | (simp; done) | omega | (simp; omega)))).mono ?_
  rintro e w1 ⟨rfl, hb⟩
  have w1s0 : w1.cell? ⟨w.heap.size, 0, none⟩ = some (.string s0) := carry hb (by go_simp)
  have w1s1 : w1.cell? ⟨w.heap.size, 1, none⟩ = some (.string s1) := carry hb (by go_simp)
  have w1s2 : w1.cell? ⟨w.heap.size, 2, none⟩ = some (.string s2) := carry hb (by go_simp)
  have w1s3 : w1.cell? ⟨w.heap.size, 3, none⟩ = some (.string s3) := carry hb (by go_simp)
  have w1s4 : w1.cell? ⟨w.heap.size, 4, none⟩ = some (.string s4) := carry hb (by go_simp)
  have w1c : w1.cell? ⟨w.heap.size + 1, 0, none⟩ = some (.int .i64 c) := carry hb (by go_simp)
  have w1d : w1.cell? ⟨w.heap.size + 1, 1, none⟩ = some (.int .i64 d) := carry hb (by go_simp)
  have HB1 : Hid (Below w.heap.size w w1) := Lib.hid (by (repeat (first | with_reducible exact Below.refl _ _ | with_reducible refine bel_set ?_ ?_ | with_reducible refine bel_alloc ?_ ?_ | with_reducible refine Below.drew ?_ | with_reducible refine bel_drewN _ ?_ | with_reducible refine bel_call ?_ (by assumption) ?_)); all_goals (first | (simp; done) | omega | (simp; omega)))
  clear hb
  go_wp2_with fail
  refine (KS.out _ HB1.out).mono ?_
  rintro e w2 ⟨rfl, hb⟩
  have HB2 : Hid (Below w.heap.size w w2) := Lib.hid (HB1.out.trans (hb.mono HB1.out.size))
  have w2s0 := carry hb w1s0
  have w2s1 := carry hb w1s1
  have w2s2 := carry hb w1s2
  have w2s3 := carry hb w1s3
  have w2s4 := carry hb w1s4
  have w2c := carry hb w1c
  have w2d := carry hb w1d
  clear w1s0 w1s1 w1s2 w1s3 w1s4 w1c w1d
  have q2 := lt_of_cell w2c
  clear hb
  go_wp2_with fail
  refine (K1.out _ (HB2.out.alloc HB2.out.size _)).mono ?_
  rintro e w3 ⟨rfl, hb⟩
  have w3c := carry hb (carry ((Below.refl _ _).alloc (Nat.le_refl _) _) w2c)
  have w3d := carry hb (carry ((Below.refl _ _).alloc (Nat.le_refl _) _) w2d)
  have t0 : w3.cell? ⟨w2.heap.size, 0, none⟩ = some (.string s0) := carry hb (by go_simp)
  have t1 : w3.cell? ⟨w2.heap.size, 1, none⟩ = some (.string s1) := carry hb (by go_simp)
  have t2 : w3.cell? ⟨w2.heap.size, 2, none⟩ = some (.string s2) := carry hb (by go_simp)
  have t3 : w3.cell? ⟨w2.heap.size, 3, none⟩ = some (.string s3) := carry hb (by go_simp)
  have t4 : w3.cell? ⟨w2.heap.size, 4, none⟩ = some (.string ⟨#[]⟩) := carry hb (by go_simp)
  have tf : w3.frozen? ⟨w2.heap.size, 3, none⟩ = false := (Below.frozen hb (p := ⟨w2.heap.size, 3, none⟩) (by simp)).trans (by go_simp)
  have HB3 : Hid (Below w.heap.size w w3) := Lib.hid ((HB2.out.alloc HB2.out.size _).trans (hb.mono (by have := HB2.out.size; simp; omega)))
  have q3 := lt_of_cell t0
  clear hb w2s0 w2s1 w2s2 w2s3 w2s4 w2c w2d
  go_wp2_with fail
  refine (K2.out _ (HB3.out.setCell (by simp; omega) _)).mono ?_
  rintro e w4 ⟨rfl, hb⟩
  have HB4 : Hid (Below w.heap.size w w4) := Lib.hid ((HB3.out.setCell (by simp; omega) _).trans (hb.mono (by have := HB3.out.size; simp; omega)))
  clear hb
  go_wp2_with fail
  go_ret
  exact ⟨rfl, HB4.out⟩


set_option maxHeartbeats 4000000 in
theorem less_1 (s : SetC) (c d : Int) (w : World) (hE : RuleEnv w) (hK : KindsAt w)
    (h : ∀ W, Below w.heap.size w W → Calls Tryd.prog 10 #[setV s.s0 s.s1 s.s2 s.s3 s.s4, decV c d] W fun e w' => e = .returned (.tuple #[.string ⟨#[111, 110, 101]⟩, .nilIface]) ∧ Below W.heap.size W w')
    (h1 : ∀ W, Below w.heap.size w W → Calls Tryd.prog 10 #[setV s.s0 s.s1 s.s2 s.s3 ⟨#[]⟩, decV c d] W fun e w' => e = .returned (.tuple #[.string ⟨#[111, 110, 101]⟩, .nilIface]) ∧ Below W.heap.size W w')
    (h2 : ∀ W, Below w.heap.size w W → Calls Tryd.prog 10 #[setV s.s0 s.s1 s.s2 ⟨#[]⟩ ⟨#[]⟩, decV c d] W fun e w' => e = .returned (.tuple #[.string ⟨#[111, 110, 101]⟩, .nilIface]) ∧ Below W.heap.size W w') :
    Calls Tryd.prog 4 #[setV s.s0 s.s1 s.s2 s.s3 s.s4, decV c d] w fun e w' => e = .returned (.bool true) ∧ Below w.heap.size w w' := by
  have KN := Lib.hid (fun W (hb : Below w.heap.size w W) => kind_n1 W (hE.below hb) (hK.below hb))
  have KS := Lib.hid h
  have K1 := Lib.hid h1
  have K2 := Lib.hid h2
  clear h h1 h2 hE hK
  obtain ⟨s0, s1, s2, s3, s4⟩ := s
  simp only at *
  go_enter Tryd.func4, Tryd.ntmps4
  go_wp2_with fail
  refine (KN.out _ (by (repeat (first | with_reducible exact Below.refl _ _ | with_reducible refine bel_set ?_ ?_ | with_reducible refine bel_alloc ?_ ?_ | with_reducible refine Below.drew ?_ | with_reducible refine bel_drewN _ ?_ | with_reducible refine bel_call ?_ (by assumption) ?_)); all_goals (first | (simp; done) | omega | (simp; omega)))).mono ?_
  rintro e w1 ⟨rfl, hb⟩
  have w1s0 : w1.cell? ⟨w.heap.size, 0, none⟩ = some (.string s0) := carry hb (by go_simp)
  have w1s1 : w1.cell? ⟨w.heap.size, 1, none⟩ = some (.string s1) := carry hb (by go_simp)
  have w1s2 : w1.cell? ⟨w.heap.size, 2, none⟩ = some (.string s2) := carry hb (by go_simp)
  have w1s3 : w1.cell? ⟨w.heap.size, 3, none⟩ = some (.string s3) := carry hb (by go_simp)
  have w1s4 : w1.cell? ⟨w.heap.size, 4, none⟩ = some (.string s4) := carry hb (by go_simp)
  have w1c : w1.cell? ⟨w.heap.size + 1, 0, none⟩ = some (.int .i64 c) := carry hb (by go_simp)
  have w1d : w1.cell? ⟨w.heap.size + 1, 1, none⟩ = some (.int .i64 d) := carry hb (by go_simp)
  have HB1 : Hid (Below w.heap.size w w1) := Lib.hid (by (repeat (first | with_reducible exact Below.refl _ _ | with_reducible refine bel_set ?_ ?_ | with_reducible refine bel_alloc ?_ ?_ | with_reducible refine Below.drew ?_ | with_reducible refine bel_drewN _ ?_ | with_reducible refine bel_call ?_ (by assumption) ?_)); all_goals (first | (simp; done) | omega | (simp; omega)))
  clear hb
  go_wp2_with fail
  refine (KS.out _ HB1.out).mono ?_
  rintro e w2 ⟨rfl, hb⟩
  have HB2 : Hid (Below w.heap.size w w2) := Lib.hid (HB1.out.trans (hb.mono HB1.out.size))
  have w2s0 := carry hb w1s0
  have w2s1 := carry hb w1s1
  have w2s2 := carry hb w1s2
  have w2s3 := carry hb w1s3
  have w2s4 := carry hb w1s4
  have w2c := carry hb w1c
  have w2d := carry hb w1d
  clear w1s0 w1s1 w1s2 w1s3 w1s4 w1c w1d
  have q2 := lt_of_cell w2c
  clear hb
  go_wp2_with fail
  refine (K1.out _ (HB2.out.alloc HB2.out.size _)).mono ?_
  rintro e w3 ⟨rfl, hb⟩
  have w3c := carry hb (carry ((Below.refl _ _).alloc (Nat.le_refl _) _) w2c)
  have w3d := carry hb (carry ((Below.refl _ _).alloc (Nat.le_refl _) _) w2d)
  have t0 : w3.cell? ⟨w2.heap.size, 0, none⟩ = some (.string s0) := carry hb (by go_simp)
  have t1 : w3.cell? ⟨w2.heap.size, 1, none⟩ = some (.string s1) := carry hb (by go_simp)
  have t2 : w3.cell? ⟨w2.heap.size, 2, none⟩ = some (.string s2) := carry hb (by go_simp)
  have t3 : w3.cell? ⟨w2.heap.size, 3, none⟩ = some (.string s3) := carry hb (by go_simp)
  have t4 : w3.cell? ⟨w2.heap.size, 4, none⟩ = some (.string ⟨#[]⟩) := carry hb (by go_simp)
  have tf : w3.frozen? ⟨w2.heap.size, 3, none⟩ = false := (Below.frozen hb (p := ⟨w2.heap.size, 3, none⟩) (by simp)).trans (by go_simp)
  have HB3 : Hid (Below w.heap.size w w3) := Lib.hid ((HB2.out.alloc HB2.out.size _).trans (hb.mono (by have := HB2.out.size; simp; omega)))
  have q3 := lt_of_cell t0
  clear hb w2s0 w2s1 w2s2 w2s3 w2s4 w2c w2d
  go_wp2_with fail
  refine (K2.out _ (HB3.out.setCell (by simp; omega) _)).mono ?_
  rintro e w4 ⟨rfl, hb⟩
  have HB4 : Hid (Below w.heap.size w w4) := Lib.hid ((HB3.out.setCell (by simp; omega) _).trans (hb.mono (by have := HB3.out.size; simp; omega)))
  clear hb
  go_wp2_with fail
  go_ret
  exact ⟨rfl, HB4.out⟩


set_option maxHeartbeats 4000000 in
theorem less_2 (s : SetC) (c d : Int) (w : World) (hE : RuleEnv w) (hK : KindsAt w)
    (h : ∀ W, Below w.heap.size w W → Calls Tryd.prog 10 #[setV s.s0 s.s1 s.s2 s.s3 s.s4, decV c d] W fun e w' => e = .returned (.tuple #[.string ⟨#[116, 119, 111]⟩, .nilIface]) ∧ Below W.heap.size W w')
    (h1 : ∀ W, Below w.heap.size w W → Calls Tryd.prog 10 #[setV s.s0 s.s1 s.s2 s.s3 ⟨#[]⟩, decV c d] W fun e w' => e = .returned (.tuple #[.string ⟨#[116, 119, 111]⟩, .nilIface]) ∧ Below W.heap.size W w')
    (h2 : ∀ W, Below w.heap.size w W → Calls Tryd.prog 10 #[setV s.s0 s.s1 s.s2 ⟨#[]⟩ ⟨#[]⟩, decV c d] W fun e w' => e = .returned (.tuple #[.string ⟨#[116, 119, 111]⟩, .nilIface]) ∧ Below W.heap.size W w') :
    Calls Tryd.prog 4 #[setV s.s0 s.s1 s.s2 s.s3 s.s4, decV c d] w fun e w' => e = .returned (.bool true) ∧ Below w.heap.size w w' := by
  have KN := Lib.hid (fun W (hb : Below w.heap.size w W) => kind_n1 W (hE.below hb) (hK.below hb))
  have KS := Lib.hid h
  have K1 := Lib.hid h1
  have K2 := Lib.hid h2
  clear h h1 h2 hE hK
  obtain ⟨s0, s1, s2, s3, s4⟩ := s
  simp only at *
  go_enter Tryd.func4, Tryd.ntmps4
  go_wp2_with fail
  refine (KN.out _ (by (repeat (first | with_reducible exact Below.refl _ _ | with_reducible refine bel_set ?_ ?_ | with_reducible refine bel_alloc ?_ ?_ | with_reducible refine Below.drew ?_ | with_reducible refine bel_drewN _ ?_ | with_reducible refine bel_call ?_ (by assumption) ?_)); all_goals (first | (simp; done) | omega | (simp; omega)))).mono ?_
  rintro e w1 ⟨rfl, hb⟩
  have w1s0 : w1.cell? ⟨w.heap.size, 0, none⟩ = some (.string s0) := carry hb (by go_simp)
  have w1s1 : w1.cell? ⟨w.heap.size, 1, none⟩ = some (.string s1) := carry hb (by go_simp)
  have w1s2 : w1.cell? ⟨w.heap.size, 2, none⟩ = some (.string s2) := carry hb (by go_simp)
  have w1s3 : w1.cell? ⟨w.heap.size, 3, none⟩ = some (.string s3) := carry hb (by go_simp)
  have w1s4 : w1.cell? ⟨w.heap.size, 4, none⟩ = some (.string s4) := carry hb (by go_simp)
  have w1c : w1.cell? ⟨w.heap.size + 1, 0, none⟩ = some (.int .i64 c) := carry hb (by go_simp)
  have w1d : w1.cell? ⟨w.heap.size + 1, 1, none⟩ = some (.int .i64 d) := carry hb (by go_simp)
  have HB1 : Hid (Below w.heap.size w w1) := Lib.hid (by (repeat (first | with_reducible exact Below.refl _ _ | with_reducible refine bel_set ?_ ?_ | with_reducible refine bel_alloc ?_ ?_ | with_reducible refine Below.drew ?_ | with_reducible refine bel_drewN _ ?_ | with_reducible refine bel_call ?_ (by assumption) ?_)); all_goals (first | (simp; done) | omega | (simp; omega)))
  clear hb
  go_wp2_with fail
  refine (KS.out _ HB1.out).mono ?_
  rintro e w2 ⟨rfl, hb⟩
  have HB2 : Hid (Below w.heap.size w w2) := Lib.hid (HB1.out.trans (hb.mono HB1.out.size))
  have w2s0 := carry hb w1s0
  have w2s1 := carry hb w1s1
  have w2s2 := carry hb w1s2
  have w2s3 := carry hb w1s3
  have w2s4 := carry hb w1s4
  have w2c := carry hb w1c
  have w2d := carry hb w1d
  clear w1s0 w1s1 w1s2 w1s3 w1s4 w1c w1d
  have q2 := lt_of_cell w2c
  clear hb
  go_wp2_with fail
  refine (K1.out _ (HB2.out.alloc HB2.out.size _)).mono ?_
  rintro e w3 ⟨rfl, hb⟩
  have w3c := carry hb (carry ((Below.refl _ _).alloc (Nat.le_refl _) _) w2c)
  have w3d := carry hb (carry ((Below.refl _ _).alloc (Nat.le_refl _) _) w2d)
  have t0 : w3.cell? ⟨w2.heap.size, 0, none⟩ = some (.string s0) := carry hb (by go_simp)
  have t1 : w3.cell? ⟨w2.heap.size, 1, none⟩ = some (.string s1) := carry hb (by go_simp)
  have t2 : w3.cell? ⟨w2.heap.size, 2, none⟩ = some (.string s2) := carry hb (by go_simp)
  have t3 : w3.cell? ⟨w2.heap.size, 3, none⟩ = some (.string s3) := carry hb (by go_simp)
  have t4 : w3.cell? ⟨w2.heap.size, 4, none⟩ = some (.string ⟨#[]⟩) := carry hb (by go_simp)
  have tf : w3.frozen? ⟨w2.heap.size, 3, none⟩ = false := (Below.frozen hb (p := ⟨w2.heap.size, 3, none⟩) (by simp)).trans (by go_simp)
  have HB3 : Hid (Below w.heap.size w w3) := Lib.hid ((HB2.out.alloc HB2.out.size _).trans (hb.mono (by have := HB2.out.size; simp; omega)))
  have q3 := lt_of_cell t0
  clear hb w2s0 w2s1 w2s2 w2s3 w2s4 w2c w2d
  go_wp2_with fail
  refine (K2.out _ (HB3.out.setCell (by simp; omega) _)).mono ?_
  rintro e w4 ⟨rfl, hb⟩
  have HB4 : Hid (Below w.heap.size w w4) := Lib.hid ((HB3.out.setCell (by simp; omega) _).trans (hb.mono (by have := HB3.out.size; simp; omega)))
  clear hb
  go_wp2_with fail
  go_ret
  exact ⟨rfl, HB4.out⟩


set_option maxHeartbeats 4000000 in
theorem less_3 (s : SetC) (c d : Int) (w : World) (hE : RuleEnv w) (hK : KindsAt w)
    (h : ∀ W, Below w.heap.size w W → Calls Tryd.prog 10 #[setV s.s0 s.s1 s.s2 s.s3 s.s4, decV c d] W fun e w' => e = .returned (.tuple #[.string ⟨#[102, 101, 119]⟩, .nilIface]) ∧ Below W.heap.size W w')
    (h1 : ∀ W, Below w.heap.size w W → Calls Tryd.prog 10 #[setV s.s0 s.s1 s.s2 s.s3 ⟨#[]⟩, decV c d] W fun e w' => e = .returned (.tuple #[.string ⟨#[102, 101, 119]⟩, .nilIface]) ∧ Below W.heap.size W w')
    (h2 : ∀ W, Below w.heap.size w W → Calls Tryd.prog 10 #[setV s.s0 s.s1 s.s2 ⟨#[]⟩ ⟨#[]⟩, decV c d] W fun e w' => e = .returned (.tuple #[.string ⟨#[111, 116, 104, 101, 114]⟩, .nilIface]) ∧ Below W.heap.size W w') :
    Calls Tryd.prog 4 #[setV s.s0 s.s1 s.s2 s.s3 s.s4, decV c d] w fun e w' => e = .returned (.bool true) ∧ Below w.heap.size w w' := by
  have KN := Lib.hid (fun W (hb : Below w.heap.size w W) => kind_n1 W (hE.below hb) (hK.below hb))
  have KS := Lib.hid h
  have K1 := Lib.hid h1
  have K2 := Lib.hid h2
  clear h h1 h2 hE hK
  obtain ⟨s0, s1, s2, s3, s4⟩ := s
  simp only at *
  go_enter Tryd.func4, Tryd.ntmps4
  go_wp2_with fail
  refine (KN.out _ (by (repeat (first | with_reducible exact Below.refl _ _ | with_reducible refine bel_set ?_ ?_ | with_reducible refine bel_alloc ?_ ?_ | with_reducible refine Below.drew ?_ | with_reducible refine bel_drewN _ ?_ | with_reducible refine bel_call ?_ (by assumption) ?_)); all_goals (first | (simp; done) | omega | (simp; omega)))).mono ?_
  rintro e w1 ⟨rfl, hb⟩
  have w1s0 : w1.cell? ⟨w.heap.size, 0, none⟩ = some (.string s0) := carry hb (by go_simp)
  have w1s1 : w1.cell? ⟨w.heap.size, 1, none⟩ = some (.string s1) := carry hb (by go_simp)
  have w1s2 : w1.cell? ⟨w.heap.size, 2, none⟩ = some (.string s2) := carry hb (by go_simp)
  have w1s3 : w1.cell? ⟨w.heap.size, 3, none⟩ = some (.string s3) := carry hb (by go_simp)
  have w1s4 : w1.cell? ⟨w.heap.size, 4, none⟩ = some (.string s4) := carry hb (by go_simp)
  have w1c : w1.cell? ⟨w.heap.size + 1, 0, none⟩ = some (.int .i64 c) := carry hb (by go_simp)
  have w1d : w1.cell? ⟨w.heap.size + 1, 1, none⟩ = some (.int .i64 d) := carry hb (by go_simp)
  have HB1 : Hid (Below w.heap.size w w1) := Lib.hid (by (repeat (first | with_reducible exact Below.refl _ _ | with_reducible refine bel_set ?_ ?_ | with_reducible refine bel_alloc ?_ ?_ | with_reducible refine Below.drew ?_ | with_reducible refine bel_drewN _ ?_ | with_reducible refine bel_call ?_ (by assumption) ?_)); all_goals (first | (simp; done) | omega | (simp; omega)))
  clear hb
  go_wp2_with fail
  refine (KS.out _ HB1.out).mono ?_
  rintro e w2 ⟨rfl, hb⟩
  have HB2 : Hid (Below w.heap.size w w2) := Lib.hid (HB1.out.trans (hb.mono HB1.out.size))
  have w2s0 := carry hb w1s0
  have w2s1 := carry hb w1s1
  have w2s2 := carry hb w1s2
  have w2s3 := carry hb w1s3
  have w2s4 := carry hb w1s4
  have w2c := carry hb w1c
  have w2d := carry hb w1d
  clear w1s0 w1s1 w1s2 w1s3 w1s4 w1c w1d
  have q2 := lt_of_cell w2c
  clear hb
  go_wp2_with fail
  refine (K1.out _ (HB2.out.alloc HB2.out.size _)).mono ?_
  rintro e w3 ⟨rfl, hb⟩
  have w3c := carry hb (carry ((Below.refl _ _).alloc (Nat.le_refl _) _) w2c)
  have w3d := carry hb (carry ((Below.refl _ _).alloc (Nat.le_refl _) _) w2d)
  have t0 : w3.cell? ⟨w2.heap.size, 0, none⟩ = some (.string s0) := carry hb (by go_simp)
  have t1 : w3.cell? ⟨w2.heap.size, 1, none⟩ = some (.string s1) := carry hb (by go_simp)
  have t2 : w3.cell? ⟨w2.heap.size, 2, none⟩ = some (.string s2) := carry hb (by go_simp)
  have t3 : w3.cell? ⟨w2.heap.size, 3, none⟩ = some (.string s3) := carry hb (by go_simp)
  have t4 : w3.cell? ⟨w2.heap.size, 4, none⟩ = some (.string ⟨#[]⟩) := carry hb (by go_simp)
  have tf : w3.frozen? ⟨w2.heap.size, 3, none⟩ = false := (Below.frozen hb (p := ⟨w2.heap.size, 3, none⟩) (by simp)).trans (by go_simp)
  have HB3 : Hid (Below w.heap.size w w3) := Lib.hid ((HB2.out.alloc HB2.out.size _).trans (hb.mono (by have := HB2.out.size; simp; omega)))
  have q3 := lt_of_cell t0
  clear hb w2s0 w2s1 w2s2 w2s3 w2s4 w2c w2d
  go_wp2_with fail
  refine (K2.out _ (HB3.out.setCell (by simp; omega) _)).mono ?_
  rintro e w4 ⟨rfl, hb⟩
  have HB4 : Hid (Below w.heap.size w w4) := Lib.hid ((HB3.out.setCell (by simp; omega) _).trans (hb.mono (by have := HB3.out.size; simp; omega)))
  clear hb
  go_wp2_with fail
  go_ret
  exact ⟨rfl, HB4.out⟩


set_option maxHeartbeats 4000000 in
theorem less_4 (s : SetC) (c d : Int) (w : World) (hE : RuleEnv w) (hK : KindsAt w)
    (h : ∀ W, Below w.heap.size w W → Calls Tryd.prog 10 #[setV s.s0 s.s1 s.s2 s.s3 s.s4, decV c d] W fun e w' => e = .returned (.tuple #[.string ⟨#[109, 97, 110, 121]⟩, .nilIface]) ∧ Below W.heap.size W w')
    (h1 : ∀ W, Below w.heap.size w W → Calls Tryd.prog 10 #[setV s.s0 s.s1 s.s2 s.s3 ⟨#[]⟩, decV c d] W fun e w' => e = .returned (.tuple #[.string ⟨#[111, 116, 104, 101, 114]⟩, .nilIface]) ∧ Below W.heap.size W w')
    (h2 : ∀ W, Below w.heap.size w W → Calls Tryd.prog 10 #[setV s.s0 s.s1 s.s2 ⟨#[]⟩ ⟨#[]⟩, decV c d] W fun e w' => e = .returned (.tuple #[.string ⟨#[111, 116, 104, 101, 114]⟩, .nilIface]) ∧ Below W.heap.size W w') :
    Calls Tryd.prog 4 #[setV s.s0 s.s1 s.s2 s.s3 s.s4, decV c d] w fun e w' => e = .returned (.bool true) ∧ Below w.heap.size w w' := by
  have KN := Lib.hid (fun W (hb : Below w.heap.size w W) => kind_n1 W (hE.below hb) (hK.below hb))
  have KS := Lib.hid h
  have K1 := Lib.hid h1
  have K2 := Lib.hid h2
  clear h h1 h2 hE hK
  obtain ⟨s0, s1, s2, s3, s4⟩ := s
  simp only at *
  go_enter Tryd.func4, Tryd.ntmps4
  go_wp2_with fail
  refine (KN.out _ (by (repeat (first | with_reducible exact Below.refl _ _ | with_reducible refine bel_set ?_ ?_ | with_reducible refine bel_alloc ?_ ?_ | with_reducible refine Below.drew ?_ | with_reducible refine bel_drewN _ ?_ | with_reducible refine bel_call ?_ (by assumption) ?_)); all_goals (first | (simp; done) | omega | (simp; omega)))).mono ?_
  rintro e w1 ⟨rfl, hb⟩
  have w1s0 : w1.cell? ⟨w.heap.size, 0, none⟩ = some (.string s0) := carry hb (by go_simp)
  have w1s1 : w1.cell? ⟨w.heap.size, 1, none⟩ = some (.string s1) := carry hb (by go_simp)
  have w1s2 : w1.cell? ⟨w.heap.size, 2, none⟩ = some (.string s2) := carry hb (by go_simp)
  have w1s3 : w1.cell? ⟨w.heap.size, 3, none⟩ = some (.string s3) := carry hb (by go_simp)
  have w1s4 : w1.cell? ⟨w.heap.size, 4, none⟩ = some (.string s4) := carry hb (by go_simp)
  have w1c : w1.cell? ⟨w.heap.size + 1, 0, none⟩ = some (.int .i64 c) := carry hb (by go_simp)
  have w1d : w1.cell? ⟨w.heap.size + 1, 1, none⟩ = some (.int .i64 d) := carry hb (by go_simp)
  have HB1 : Hid (Below w.heap.size w w1) := Lib.hid (by (repeat (first | with_reducible exact Below.refl _ _ | with_reducible refine bel_set ?_ ?_ | with_reducible refine bel_alloc ?_ ?_ | with_reducible refine Below.drew ?_ | with_reducible refine bel_drewN _ ?_ | with_reducible refine bel_call ?_ (by assumption) ?_)); all_goals (first | (simp; done) | omega | (simp; omega)))
  clear hb
  go_wp2_with fail
  refine (KS.out _ HB1.out).mono ?_
  rintro e w2 ⟨rfl, hb⟩
  have HB2 : Hid (Below w.heap.size w w2) := Lib.hid (HB1.out.trans (hb.mono HB1.out.size))
  have w2s0 := carry hb w1s0
  have w2s1 := carry hb w1s1
  have w2s2 := carry hb w1s2
  have w2s3 := carry hb w1s3
  have w2s4 := carry hb w1s4
  have w2c := carry hb w1c
  have w2d := carry hb w1d
  clear w1s0 w1s1 w1s2 w1s3 w1s4 w1c w1d
  have q2 := lt_of_cell w2c
  clear hb
  go_wp2_with fail
  refine (K1.out _ (HB2.out.alloc HB2.out.size _)).mono ?_
  rintro e w3 ⟨rfl, hb⟩
  have w3c := carry hb (carry ((Below.refl _ _).alloc (Nat.le_refl _) _) w2c)
  have w3d := carry hb (carry ((Below.refl _ _).alloc (Nat.le_refl _) _) w2d)
  have t0 : w3.cell? ⟨w2.heap.size, 0, none⟩ = some (.string s0) := carry hb (by go_simp)
  have t1 : w3.cell? ⟨w2.heap.size, 1, none⟩ = some (.string s1) := carry hb (by go_simp)
  have t2 : w3.cell? ⟨w2.heap.size, 2, none⟩ = some (.string s2) := carry hb (by go_simp)
  have t3 : w3.cell? ⟨w2.heap.size, 3, none⟩ = some (.string s3) := carry hb (by go_simp)
  have t4 : w3.cell? ⟨w2.heap.size, 4, none⟩ = some (.string ⟨#[]⟩) := carry hb (by go_simp)
  have tf : w3.frozen? ⟨w2.heap.size, 3, none⟩ = false := (Below.frozen hb (p := ⟨w2.heap.size, 3, none⟩) (by simp)).trans (by go_simp)
  have HB3 : Hid (Below w.heap.size w w3) := Lib.hid ((HB2.out.alloc HB2.out.size _).trans (hb.mono (by have := HB2.out.size; simp; omega)))
  have q3 := lt_of_cell t0
  clear hb w2s0 w2s1 w2s2 w2s3 w2s4 w2c w2d
  go_wp2_with fail
  refine (K2.out _ (HB3.out.setCell (by simp; omega) _)).mono ?_
  rintro e w4 ⟨rfl, hb⟩
  have HB4 : Hid (Below w.heap.size w w4) := Lib.hid ((HB3.out.setCell (by simp; omega) _).trans (hb.mono (by have := HB3.out.size; simp; omega)))
  clear hb
  go_wp2_with fail
  go_ret
  exact ⟨rfl, HB4.out⟩


set_option maxHeartbeats 4000000 in
theorem less_5 (s : SetC) (c d : Int) (w : World) (hE : RuleEnv w) (hK : KindsAt w)
    (h : ∀ W, Below w.heap.size w W → Calls Tryd.prog 10 #[setV s.s0 s.s1 s.s2 s.s3 s.s4, decV c d] W fun e w' => e = .returned (.tuple #[.string ⟨#[111, 116, 104, 101, 114]⟩, .nilIface]) ∧ Below W.heap.size W w')
    (h1 : ∀ W, Below w.heap.size w W → Calls Tryd.prog 10 #[setV s.s0 s.s1 s.s2 s.s3 ⟨#[]⟩, decV c d] W fun e w' => e = .returned (.tuple #[.string ⟨#[111, 116, 104, 101, 114]⟩, .nilIface]) ∧ Below W.heap.size W w')
    (h2 : ∀ W, Below w.heap.size w W → Calls Tryd.prog 10 #[setV s.s0 s.s1 s.s2 ⟨#[]⟩ ⟨#[]⟩, decV c d] W fun e w' => e = .returned (.tuple #[.string ⟨#[111, 116, 104, 101, 114]⟩, .nilIface]) ∧ Below W.heap.size W w') :
    Calls Tryd.prog 4 #[setV s.s0 s.s1 s.s2 s.s3 s.s4, decV c d] w fun e w' => e = .returned (.bool true) ∧ Below w.heap.size w w' := by
  have KN := Lib.hid (fun W (hb : Below w.heap.size w W) => kind_n1 W (hE.below hb) (hK.below hb))
  have KS := Lib.hid h
  have K1 := Lib.hid h1
  have K2 := Lib.hid h2
  clear h h1 h2 hE hK
  obtain ⟨s0, s1, s2, s3, s4⟩ := s
  simp only at *
  go_enter Tryd.func4, Tryd.ntmps4
  go_wp2_with fail
  refine (KN.out _ (by (repeat (first | with_reducible exact Below.refl _ _ | with_reducible refine bel_set ?_ ?_ | with_reducible refine bel_alloc ?_ ?_ | with_reducible refine Below.drew ?_ | with_reducible refine bel_drewN _ ?_ | with_reducible refine bel_call ?_ (by assumption) ?_)); all_goals (first | (simp; done) | omega | (simp; omega)))).mono ?_
  rintro e w1 ⟨rfl, hb⟩
  have w1s0 : w1.cell? ⟨w.heap.size, 0, none⟩ = some (.string s0) := carry hb (by go_simp)
  have w1s1 : w1.cell? ⟨w.heap.size, 1, none⟩ = some (.string s1) := carry hb (by go_simp)
  have w1s2 : w1.cell? ⟨w.heap.size, 2, none⟩ = some (.string s2) := carry hb (by go_simp)
  have w1s3 : w1.cell? ⟨w.heap.size, 3, none⟩ = some (.string s3) := carry hb (by go_simp)
  have w1s4 : w1.cell? ⟨w.heap.size, 4, none⟩ = some (.string s4) := carry hb (by go_simp)
  have w1c : w1.cell? ⟨w.heap.size + 1, 0, none⟩ = some (.int .i64 c) := carry hb (by go_simp)
  have w1d : w1.cell? ⟨w.heap.size + 1, 1, none⟩ = some (.int .i64 d) := carry hb (by go_simp)
  have HB1 : Hid (Below w.heap.size w w1) := Lib.hid (by (repeat (first | with_reducible exact Below.refl _ _ | with_reducible refine bel_set ?_ ?_ | with_reducible refine bel_alloc ?_ ?_ | with_reducible refine Below.drew ?_ | with_reducible refine bel_drewN _ ?_ | with_reducible refine bel_call ?_ (by assumption) ?_)); all_goals (first | (simp; done) | omega | (simp; omega)))
  clear hb
  go_wp2_with fail
  refine (KS.out _ HB1.out).mono ?_
  rintro e w2 ⟨rfl, hb⟩
  have HB2 : Hid (Below w.heap.size w w2) := Lib.hid (HB1.out.trans (hb.mono HB1.out.size))
  have w2s0 := carry hb w1s0
  have w2s1 := carry hb w1s1
  have w2s2 := carry hb w1s2
  have w2s3 := carry hb w1s3
  have w2s4 := carry hb w1s4
  have w2c := carry hb w1c
  have w2d := carry hb w1d
  clear w1s0 w1s1 w1s2 w1s3 w1s4 w1c w1d
  have q2 := lt_of_cell w2c
  clear hb
  go_wp2_with fail
  refine (K1.out _ (HB2.out.alloc HB2.out.size _)).mono ?_
  rintro e w3 ⟨rfl, hb⟩
  have w3c := carry hb (carry ((Below.refl _ _).alloc (Nat.le_refl _) _) w2c)
  have w3d := carry hb (carry ((Below.refl _ _).alloc (Nat.le_refl _) _) w2d)
  have t0 : w3.cell? ⟨w2.heap.size, 0, none⟩ = some (.string s0) := carry hb (by go_simp)
  have t1 : w3.cell? ⟨w2.heap.size, 1, none⟩ = some (.string s1) := carry hb (by go_simp)
  have t2 : w3.cell? ⟨w2.heap.size, 2, none⟩ = some (.string s2) := carry hb (by go_simp)
  have t3 : w3.cell? ⟨w2.heap.size, 3, none⟩ = some (.string s3) := carry hb (by go_simp)
  have t4 : w3.cell? ⟨w2.heap.size, 4, none⟩ = some (.string ⟨#[]⟩) := carry hb (by go_simp)
  have tf : w3.frozen? ⟨w2.heap.size, 3, none⟩ = false := (Below.frozen hb (p := ⟨w2.heap.size, 3, none⟩) (by simp)).trans (by go_simp)
  have HB3 : Hid (Below w.heap.size w w3) := Lib.hid ((HB2.out.alloc HB2.out.size _).trans (hb.mono (by have := HB2.out.size; simp; omega)))
  have q3 := lt_of_cell t0
  clear hb w2s0 w2s1 w2s2 w2s3 w2s4 w2c w2d
  go_wp2_with fail
  refine (K2.out _ (HB3.out.setCell (by simp; omega) _)).mono ?_
  rintro e w4 ⟨rfl, hb⟩
  have HB4 : Hid (Below w.heap.size w w4) := Lib.hid ((HB3.out.setCell (by simp; omega) _).trans (hb.mono (by have := HB3.out.size; simp; omega)))
  clear hb
  go_wp2_with fail
  go_ret
  exact ⟨rfl, HB4.out⟩


theorem walk34 (s : SetC) (c d : Int) (w : World) (hE : RuleEnv w) (hK : KindsAt w) (hs : s.small) :
    Calls Tryd.prog 4 #[setV s.s0 s.s1 s.s2 s.s3 s.s4, decV c d] w fun e w' => e = .returned (.bool true) ∧ Below w.heap.size w w' := by
  cases hok : s.ok
  · exact less_bad s c d w hE hK 3 fun W hb => kind_bad s c d W (hE.below hb) hs hok
  · by_cases hd : decOk c d
    · obtain ⟨e, rfl⟩ : ∃ e : Nat, d = e := ⟨d.toNat, by have := hd.1; omega⟩
      have k0 := fun W (hb : Below w.heap.size w W) => kind_ok s c e W (hE.below hb) (hK.below hb) hs hok hd
      have k1 := fun W (hb : Below w.heap.size w W) => kind_ok s.less1 c e W (hE.below hb) (hK.below hb) (small_less1 hs) (ok_less1 hok) hd
      have k2 := fun W (hb : Below w.heap.size w W) => kind_ok s.less2 c e W (hE.below hb) (hK.below hb) (small_less2 hs) (ok_less2 hok) hd
      rw [kind_less1] at k1
      rw [kind_less2] at k2
      have hN : s.kind (opsC c e) ≤ 5 := by rcases kind_is s (opsC c e) with ⟨h, _⟩ | ⟨h, _⟩ <;> omega
      generalize s.kind (opsC c e) = N at *
      have hc : N = 0 ∨ N = 1 ∨ N = 2 ∨ N = 3 ∨ N = 4 ∨ N = 5 := by omega
      rcases hc with rfl | rfl | rfl | rfl | rfl | rfl
      · exact less_0 s c e w hE hK k0 k1 k2
      · exact less_1 s c e w hE hK k0 k1 k2
      · exact less_2 s c e w hE hK k0 k1 k2
      · exact less_3 s c e w hE hK k0 k1 k2
      · exact less_4 s c e w hE hK k0 k1 k2
      · exact less_5 s c e w hE hK k0 k1 k2
    · exact less_bad s c d w hE hK 1 fun W hb => kind_dec s c d W (hE.below hb) hs hok hd
end Go.Proofs.YtkklemhhimcahaaDoor
