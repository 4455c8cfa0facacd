/- ClockPut, ClockKeys: texts put together. -/
import Derived.Test.YtplaohmdllindaaGreatDoorQn3
import Derived.StillTailTactics
set_option linter.unusedVariables false
set_option linter.unusedSimpArgs false
/- clock.Cache: Put. -/
namespace Go.Proofs.YtplaohmdllindaaGreatDoor
open Go.RowKit

theorem CacheAt.put {w : World} {cb pb n h : Nat} {S : Cch} (c : CacheAt w cb pb n S h) {i : Nat} (hi : i < n) (key val : ByteArray) :
    CacheAt ((((w.setCell ⟨pb, i * 4, none⟩ (.string key)).setCell ⟨pb, i * 4 + 1, none⟩ (.string val)).setCell ⟨pb, i * 4 + 2, none⟩ (.bool true)).setCell ⟨pb, i * 4 + 3, none⟩ (.bool true)) cb pb n (S.put i key val) h :=
  (((c.setK hi key).setV hi val).setU hi true).setM hi true

theorem put_free (i : Nat) (key val : ByteArray) (cb pb n h : Nat) (S : Cch) (w : World) (hc : CacheAt w cb pb n S h) (hi : i < n) (h0 : ∀ j, j < n → isAt S key j = false) (h1 : isFree S i = true) (h2 : ∀ j, j < i → isFree S j = false) :
    Calls Tryz.prog 111 #[.pointer (some ⟨cb, 0, none⟩), .string key, .string val] w fun e w' => e = .returned (.tuple #[.string ⟨#[]⟩, .bool false]) ∧ CacheAt w' cb pb n (S.put i key val) h ∧ Off [cb, pb] w w' := by
  have H := Lib.hid hc
  have lc := hc.lcb
  have lp := hc.lpb
  have H0 := Lib.hid h0
  have H1 := Lib.hid h1
  have H2 := Lib.hid h2
  clear hc h0 h1 h2
  go_enter Tryz.func111, Tryz.ntmps111
  go_wp2_with fail
  refine (at_gen (-1) key cb pb n h S _ H.out (.inr ⟨rfl, H0.out⟩)).mono ?_
  rintro e wa ⟨rfl, hba⟩
  have sa := hba.size
  have HA := Lib.hid (H.out.below hba)
  go_wp2_with fail
  refine (free_gen i cb pb n h S _ HA.out (.inl ⟨i, hi, rfl, H1.out, H2.out⟩)).mono ?_
  rintro e w1 ⟨rfl, hb1⟩
  have s1 := hb1.size
  have H3 := Lib.hid (HA.out.below hb1)
  have H4 := Lib.hid (H3.out.put hi key val)
  have c0 := H3.out.head
  have ck := H3.out.k i hi
  have cv := H3.out.v i hi
  have cu := H3.out.u i hi
  have cm := H3.out.m i hi
  have f0 := H3.out.fp
  have i1 : (0 : Int) ≤ (i : Int) := by omega
  have i2 : (i : Int) < (n : Int) := by omega
  go_wp2_with fail
  go_ret2
  exact ⟨rfl, H4.out, (((((((Off.refl _ _).below hba (Nat.le_refl _)).below hb1 sa).setCell _ _ (by simp)).setCell _ _ (by simp)).setCell _ _ (by simp)).setCell _ _ (by simp))⟩

end Go.Proofs.YtplaohmdllindaaGreatDoor

/- clock.Cache: Keys. -/
namespace Go.Proofs.YtplaohmdllindaaGreatDoor
open Go.RowKit

end Go.Proofs.YtplaohmdllindaaGreatDoor
