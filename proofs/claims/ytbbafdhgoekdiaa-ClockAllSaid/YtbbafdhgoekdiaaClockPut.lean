/- clock.Cache: Put. -/
import Derived.Test.YtbbafdhgoekdiaaClockSet
import Derived.StillTailTactics
namespace Go.Proofs.Ytbbafdhgoekdiaa
open Go.RowKit

/-- How many are marked. -/
def marks (M : Nat → Bool) : Nat → Nat
  | 0 => 0
  | n + 1 => marks M n + (if M n then 1 else 0)
theorem marks_congr (M M' : Nat → Bool) (n : Nat) (h : ∀ i, i < n → M i = M' i) : marks M n = marks M' n := by
  induction n with
  | zero => rfl
  | succ n ih => rw [marks, marks, ih fun i hi => h i (by omega), h n (by omega)]
theorem marks_off (M : Nat → Bool) (n h : Nat) (hh : h < n) (hm : M h = true) : marks (fun j => if j = h then false else M j) n + 1 = marks M n := by
  induction n with
  | zero => omega
  | succ n ih =>
    rw [marks, marks]
    by_cases e : h = n
    · subst e
      rw [if_pos rfl, hm, marks_congr _ M h fun i hi => by rw [if_neg (by omega)]]
      simp
    · have := ih (by omega)
      rw [show (if n = h then false else M n) = M n from if_neg (fun h' => e h'.symm)]
      omega
def cellOn (w : World) (p : Addr) : Bool := match w.cell? p with | some (.bool true) => true | _ => false
def marksAt (w : World) (pb n : Nat) : Nat := marks (fun i => cellOn w ⟨pb, i * 4 + 3, none⟩) n
theorem marksAt_eq {w : World} {cb pb n h : Nat} {S : Cch} (c : CacheAt w cb pb n S h) : marksAt w pb n = marks S.M n :=
  marks_congr _ _ _ fun i hi => by
    unfold cellOn
    rw [c.m i hi]
    cases S.M i <;> rfl

theorem CacheAt.put {w : World} {cb pb n h : Nat} {S : Cch} (c : CacheAt w cb pb n S h) {i : Nat} (hi : i < n) (key val : ByteArray) :
    CacheAt ((((w.setCell ⟨pb, i * 4, none⟩ (.string key)).setCell ⟨pb, i * 4 + 1, none⟩ (.string val)).setCell ⟨pb, i * 4 + 2, none⟩ (.bool true)).setCell ⟨pb, i * 4 + 3, none⟩ (.bool true)) cb pb n (S.put i key val) h :=
  (((c.setK hi key).setV hi val).setU hi true).setM hi true

theorem put_old (i : Nat) (key val : ByteArray) (cb pb n h : Nat) (S : Cch) (w : World) (hc : CacheAt w cb pb n S h) (hi : i < n) (h1 : isAt S key i = true) (h2 : ∀ j, j < i → isAt S key j = false) :
    Calls Try.prog 11 #[.pointer (some ⟨cb, 0, none⟩), .string key, .string val] w fun e w' => e = .returned (.tuple #[.string ⟨#[]⟩, .bool false]) ∧ CacheAt w' cb pb n (S.put i key val) h ∧ Off [cb, pb] w w' := by
  have H := Lib.hid hc
  have lc := hc.lcb
  have lp := hc.lpb
  have H1 := Lib.hid h1
  have H2 := Lib.hid h2
  clear hc h1 h2
  go_enter Try.func11, Try.ntmps11
  go_wp2_with fail
  refine (at_gen i key cb pb n h S _ H.out (.inl ⟨i, hi, rfl, H1.out, H2.out⟩)).mono ?_
  rintro e w1 ⟨rfl, hb1⟩
  have s1 := hb1.size
  have H3 := Lib.hid (H.out.below hb1)
  have H4 := Lib.hid (H3.out.put hi key val)
  have c0 := H3.out.head
  have ck := H3.out.k i hi
  have cv := H3.out.v i hi
  have cu := H3.out.u i hi
  have cm := H3.out.m i hi
  have f0 := H3.out.fp
  have i1 : (0 : Int) ≤ (i : Int) := by omega
  have i2 : (i : Int) < (n : Int) := by omega
  go_wp2_with fail
  go_ret2
  exact ⟨rfl, H4.out, ((((((Off.refl _ _).below hb1 (Nat.le_refl _)).setCell _ _ (by simp)).setCell _ _ (by simp)).setCell _ _ (by simp)).setCell _ _ (by simp))⟩

theorem put_free (i : Nat) (key val : ByteArray) (cb pb n h : Nat) (S : Cch) (w : World) (hc : CacheAt w cb pb n S h) (hi : i < n) (h0 : ∀ j, j < n → isAt S key j = false) (h1 : isFree S i = true) (h2 : ∀ j, j < i → isFree S j = false) :
    Calls Try.prog 11 #[.pointer (some ⟨cb, 0, none⟩), .string key, .string val] w fun e w' => e = .returned (.tuple #[.string ⟨#[]⟩, .bool false]) ∧ CacheAt w' cb pb n (S.put i key val) h ∧ Off [cb, pb] w w' := by
  have H := Lib.hid hc
  have lc := hc.lcb
  have lp := hc.lpb
  have H0 := Lib.hid h0
  have H1 := Lib.hid h1
  have H2 := Lib.hid h2
  clear hc h0 h1 h2
  go_enter Try.func11, Try.ntmps11
  go_wp2_with fail
  refine (at_gen (-1) key cb pb n h S _ H.out (.inr ⟨rfl, H0.out⟩)).mono ?_
  rintro e wa ⟨rfl, hba⟩
  have sa := hba.size
  have HA := Lib.hid (H.out.below hba)
  go_wp2_with fail
  refine (free_gen i cb pb n h S _ HA.out (.inl ⟨i, hi, rfl, H1.out, H2.out⟩)).mono ?_
  rintro e w1 ⟨rfl, hb1⟩
  have s1 := hb1.size
  have H3 := Lib.hid (HA.out.below hb1)
  have H4 := Lib.hid (H3.out.put hi key val)
  have c0 := H3.out.head
  have ck := H3.out.k i hi
  have cv := H3.out.v i hi
  have cu := H3.out.u i hi
  have cm := H3.out.m i hi
  have f0 := H3.out.fp
  have i1 : (0 : Int) ≤ (i : Int) := by omega
  have i2 : (i : Int) < (n : Int) := by omega
  go_wp2_with fail
  go_ret2
  exact ⟨rfl, H4.out, (((((((Off.refl _ _).below hba (Nat.le_refl _)).below hb1 sa).setCell _ _ (by simp)).setCell _ _ (by simp)).setCell _ _ (by simp)).setCell _ _ (by simp))⟩

set_option maxHeartbeats 1000000 in
theorem put_evict (key val : ByteArray) (cb pb n h : Nat) (S : Cch) (w : World) (hc : CacheAt w cb pb n S h) (h0 : ∀ j, j < n → isAt S key j = false) (h1 : ∀ j, j < n → isFree S j = false) :
    Calls Try.prog 11 #[.pointer (some ⟨cb, 0, none⟩), .string key, .string val] w fun e w' =>
      ∃ (i h' : Nat) (M : Nat → Bool), i < n ∧ e = .returned (.tuple #[.string (S.K i), .bool true]) ∧ CacheAt w' cb pb n (Cch.put { S with M := M } i key val) h' ∧ Off [cb, pb] w w' := by
  have H := Lib.hid hc
  have n0 := hc.n0
  have n1 := hc.n1
  have lc := hc.lcb
  have lp := hc.lpb
  have H0 := Lib.hid h0
  have H1 := Lib.hid h1
  clear hc h0 h1
  go_enter Try.func11, Try.ntmps11
  go_wp2_with fail
  refine (at_gen (-1) key cb pb n h S _ H.out (.inr ⟨rfl, H0.out⟩)).mono ?_
  rintro e wa ⟨rfl, hba⟩
  have sa := hba.size
  have HA := Lib.hid (H.out.below hba)
  go_wp2_with fail
  refine (free_gen (-1) cb pb n h S _ HA.out (.inr ⟨rfl, H1.out⟩)).mono ?_
  rintro e w1 ⟨rfl, hb1⟩
  have s1 := hb1.size
  have H3 := Lib.hid (HA.out.below hb1)
  have O3 := Lib.hid (((Off.refl [cb, pb] w).below hba (Nat.le_refl _)).below hb1 sa)
  clear hba hb1
  go_wp2_with fail
  go_loopw [] (fun wr => ∃ (g : Nat) (M : Nat → Bool), Hid (CacheAt wr cb pb n { S with M := M } g) ∧ Hid (Off [cb, pb] w wr)) (fun wr => marksAt wr pb n)
  case atStart => exact ⟨h, S.M, H3, O3⟩
  case round =>
    obtain ⟨g, M, HC, HO⟩ := hrel
    have hg := HC.out.hh
    have c0 := HC.out.head
    have c1 := HC.out.hand
    have cm := HC.out.m g hg
    have i1 : (0 : Int) ≤ (g : Int) := by omega
    have i2 : (g : Int) < (n : Int) := by omega
    simp only at cm
    have c0_wr := c0
    have c1_wr := c1
    have cm_wr := cm
    clear c0 c1 cm
    cases hm : M g
    · rw [hm] at cm_wr
      go_wp2_with fail
      go_quiet (fail)
      obtain ⟨w2, e_w2⟩ : ∃ w2, w2 = wr.drewN nq := ⟨_, rfl⟩
      rw [← e_w2]
      have HC2 : Hid (CacheAt w2 cb pb n { S with M := M } g) := Lib.hid (e_w2 ▸ HC.out.drewN nq)
      have HO2 : Hid (Off [cb, pb] w w2) := Lib.hid (e_w2 ▸ HO.out.drewN nq)
      clear HC HO c0_wr c1_wr cm_wr e_w2
      have c0_w2 := HC2.out.head
      have c1_w2 := HC2.out.hand
      have ck_w2 : w2.cell? ⟨pb, g * 4, none⟩ = some (.string (S.K g)) := HC2.out.k g hg
      go_wp2_with fail
      go_quiet (fail)
      go_wp2_with fail
      obtain ⟨w3, e_w3⟩ : ∃ w3, w3 = w2.drewN nq := ⟨_, rfl⟩
      rw [← e_w3]
      have HC3 : Hid (CacheAt w3 cb pb n { S with M := M } g) := Lib.hid (e_w3 ▸ HC2.out.drewN nq)
      have HO3 : Hid (Off [cb, pb] w w3) := Lib.hid (e_w3 ▸ HO2.out.drewN nq)
      clear HC2 HO2 c0_w2 c1_w2 ck_w2 e_w3
      have c0_w3 := HC3.out.head
      have c1_w3 := HC3.out.hand
      have c0l_w3 : ({ heap := w3.heap, tape := w3.tape, drawn := w3.drawn + 1, os := w3.os, output := w3.output } : World).cell? ⟨cb, 0, none⟩ = some (.slice (some ⟨pb, 0, none⟩) n n) := c0_w3
      have c1l_w3 : ({ heap := w3.heap, tape := w3.tape, drawn := w3.drawn + 1, os := w3.os, output := w3.output } : World).cell? ⟨cb, 1, none⟩ = some (.int .i64 g) := c1_w3
      go_still_tail 12, (by kernel_rfl)
      change wpList _ _ _ _ _ w3.drew
      obtain ⟨w4, e_w4⟩ : ∃ w4, w4 = w3.drew := ⟨_, rfl⟩
      rw [← e_w4]
      have HC4 : Hid (CacheAt w4 cb pb n { S with M := M } g) := Lib.hid (e_w4 ▸ HC3.out.drewN 1)
      have HO4 : Hid (Off [cb, pb] w w4) := Lib.hid (e_w4 ▸ HO3.out.drewN 1)
      clear HC3 HO3 c0_w3 c1_w3 c0l_w3 c1l_w3 e_w4
      have ck := HC4.out.k g hg
      have cv := HC4.out.v g hg
      have cu := HC4.out.u g hg
      have cm := HC4.out.m g hg
      have f4 := HC4.out.fp
      go_wp2_with fail
      obtain ⟨w5, e_w5⟩ : ∃ w5, w5 = ((((w4.setCell ⟨pb, g * 4, none⟩ (.string key)).setCell ⟨pb, g * 4 + 1, none⟩ (.string val)).setCell ⟨pb, g * 4 + 2, none⟩ (.bool true)).setCell ⟨pb, g * 4 + 3, none⟩ (.bool true)) := ⟨_, rfl⟩
      rw [← e_w5]
      have HC5 : Hid (CacheAt w5 cb pb n (Cch.put { S with M := M } g key val) g) := Lib.hid (e_w5 ▸ HC4.out.put hg key val)
      have HO5 : Hid (Off [cb, pb] w w5) := Lib.hid (e_w5 ▸ ((((HO4.out.setCell _ _ (by simp)).setCell _ _ (by simp)).setCell _ _ (by simp)).setCell _ _ (by simp)))
      clear HC4 HO4 ck cv cu cm f4 e_w5
      have c0_w5 := HC5.out.head
      have c1_w5 := HC5.out.hand
      have c0l_w5 : ({ heap := w5.heap, tape := w5.tape, drawn := w5.drawn + 1, os := w5.os, output := w5.output } : World).cell? ⟨cb, 0, none⟩ = some (.slice (some ⟨pb, 0, none⟩) n n) := c0_w5
      have c1l_w5 : ({ heap := w5.heap, tape := w5.tape, drawn := w5.drawn + 1, os := w5.os, output := w5.output } : World).cell? ⟨cb, 1, none⟩ = some (.int .i64 g) := c1_w5
      have hmod : ((g : Int) + 1) % (n : Int) = (((g + 1) % n : Nat) : Int) := by simp
      have hmlt : (g + 1) % n < n := Nat.mod_lt _ (by omega)
      have j1 : IntKind.i64.wrap ((g : Int) + 1) = (g : Int) + 1 := IntWalk.i64_in _ (by omega)
      have j2 : n ≠ 0 := by omega
      have HT := Lib.hid hmod
      clear hmod
      go_still_tail 14, (by kernel_rfl)
      change wpList _ _ _ _ _ w5.drew
      obtain ⟨w6, e_w6⟩ : ∃ w6, w6 = w5.drew := ⟨_, rfl⟩
      rw [← e_w6]
      have HC6 : Hid (CacheAt w6 cb pb n (Cch.put { S with M := M } g key val) g) := Lib.hid (e_w6 ▸ HC5.out.drewN 1)
      have HO6 : Hid (Off [cb, pb] w w6) := Lib.hid (e_w6 ▸ HO5.out.drewN 1)
      clear HC5 HO5 c0_w5 c1_w5 c0l_w5 c1l_w5 e_w6
      have c1_w6 := HC6.out.hand
      have f6 := HC6.out.fc 1
      go_wp2_with fail
      rw [HT.out]
      go_ret2
      exact ⟨g, _, M, hg, rfl, HC6.out.setHand hmlt, HO6.out.setCell _ _ (by simp)⟩
    · have hms : marks (fun j => if j = g then false else M j) n + 1 = marks M n := marks_off M n g hg hm
      have HM := Lib.hid hms
      clear hms
      rw [hm] at cm_wr
      go_wp2_with fail
      go_quiet (fail)
      go_wp2_with fail
      obtain ⟨w2, e_w2⟩ : ∃ w2, w2 = wr.drewN nq := ⟨_, rfl⟩
      rw [← e_w2]
      have c0_w2 : w2.cell? ⟨cb, 0, none⟩ = some (.slice (some ⟨pb, 0, none⟩) n n) := e_w2 ▸ c0_wr
      have c1_w2 : w2.cell? ⟨cb, 1, none⟩ = some (.int .i64 g) := e_w2 ▸ c1_wr
      have cm_w2 : w2.cell? ⟨pb, g * 4 + 3, none⟩ = some (.bool true) := e_w2 ▸ cm_wr
      have HC2 : Hid (CacheAt w2 cb pb n { S with M := M } g) := Lib.hid (e_w2 ▸ HC.out.drewN nq)
      have HO2 : Hid (Off [cb, pb] w w2) := Lib.hid (e_w2 ▸ HO.out.drewN nq)
      have HK2 : Hid (marksAt wr pb n = marks M n) := Lib.hid (marksAt_eq HC.out)
      clear HC HO c0_wr c1_wr cm_wr e_w2
      have c0l_w2 : ({ heap := w2.heap, tape := w2.tape, drawn := w2.drawn + 1, os := w2.os, output := w2.output } : World).cell? ⟨cb, 0, none⟩ = some (.slice (some ⟨pb, 0, none⟩) n n) := c0_w2
      have c1l_w2 : ({ heap := w2.heap, tape := w2.tape, drawn := w2.drawn + 1, os := w2.os, output := w2.output } : World).cell? ⟨cb, 1, none⟩ = some (.int .i64 g) := c1_w2
      go_still_tail 10, (by kernel_rfl)
      change wpList _ _ _ _ _ w2.drew
      obtain ⟨w3, e_w3⟩ : ∃ w3, w3 = w2.drew := ⟨_, rfl⟩
      rw [← e_w3]
      have HC3 : Hid (CacheAt w3 cb pb n { S with M := M } g) := Lib.hid (e_w3 ▸ HC2.out.drewN 1)
      have HO3 : Hid (Off [cb, pb] w w3) := Lib.hid (e_w3 ▸ HO2.out.drewN 1)
      clear HC2 HO2 c0_w2 c1_w2 cm_w2 c0l_w2 c1l_w2 e_w3
      have cm_w3 : w3.cell? ⟨pb, g * 4 + 3, none⟩ = some (.bool (M g)) := HC3.out.m g hg
      rw [hm] at cm_w3
      have f3 := HC3.out.fp (g * 4 + 3)
      go_wp2_with fail
      obtain ⟨w4, e_w4⟩ : ∃ w4, w4 = w3.setCell ⟨pb, g * 4 + 3, none⟩ (.bool false) := ⟨_, rfl⟩
      rw [← e_w4]
      have HC4 : Hid (CacheAt w4 cb pb n { S with M := fun j => if j = g then false else M j } g) := Lib.hid (e_w4 ▸ HC3.out.setM hg false)
      have HO4 : Hid (Off [cb, pb] w w4) := Lib.hid (e_w4 ▸ HO3.out.setCell _ _ (by simp))
      clear HC3 HO3 cm_w3 f3 e_w4
      have c0_w4 := HC4.out.head
      have c1_w4 := HC4.out.hand
      have c0l_w4 : ({ heap := w4.heap, tape := w4.tape, drawn := w4.drawn + 1, os := w4.os, output := w4.output } : World).cell? ⟨cb, 0, none⟩ = some (.slice (some ⟨pb, 0, none⟩) n n) := c0_w4
      have c1l_w4 : ({ heap := w4.heap, tape := w4.tape, drawn := w4.drawn + 1, os := w4.os, output := w4.output } : World).cell? ⟨cb, 1, none⟩ = some (.int .i64 g) := c1_w4
      have hmod : ((g : Int) + 1) % (n : Int) = (((g + 1) % n : Nat) : Int) := by simp
      have hmlt : (g + 1) % n < n := Nat.mod_lt _ (by omega)
      have j1 : IntKind.i64.wrap ((g : Int) + 1) = (g : Int) + 1 := IntWalk.i64_in _ (by omega)
      have j2 : n ≠ 0 := by omega
      have HT := Lib.hid hmod
      clear hmod
      go_still_tail 14, (by kernel_rfl)
      change wpList _ _ _ _ _ w4.drew
      obtain ⟨w5, e_w5⟩ : ∃ w5, w5 = w4.drew := ⟨_, rfl⟩
      rw [← e_w5]
      have HC5 : Hid (CacheAt w5 cb pb n { S with M := fun j => if j = g then false else M j } g) := Lib.hid (e_w5 ▸ HC4.out.drewN 1)
      have HO5 : Hid (Off [cb, pb] w w5) := Lib.hid (e_w5 ▸ HO4.out.drewN 1)
      clear HC4 HO4 c0_w4 c1_w4 c0l_w4 c1l_w4 e_w5
      have c1_w5 := HC5.out.hand
      have f5 := HC5.out.fc 1
      go_wp2_with fail
      rw [HT.out]
      go_roundw
      case rel => exact ⟨_, _, Lib.hid (HC5.out.setHand hmlt), Lib.hid (HO5.out.setCell _ _ (by simp))⟩
      case measure => rw [HK2.out, marksAt_eq (HC5.out.setHand hmlt), ← HM.out]; exact Nat.lt_succ_self _

end Go.Proofs.Ytbbafdhgoekdiaa
