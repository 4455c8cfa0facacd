/- Itoa, RuleEnv, MsgExact: texts put together. -/
import Derived.Test.YtplaohmdllindaaGreatDoorQn2
import Derived.Test.YtplaohmdllindaaGreatDoorQn1
import Derived.Lib.LaidTab
import Derived.Lib.ItoaMem
import Derived.Lib.AppendIntMem
import Derived.Lib.AtoiErrMem
import Derived.Lib.AtoiAll
set_option linter.unusedVariables false
set_option linter.unusedSimpArgs false
/- strconv.Itoa over the table that the library's text lays. -/
namespace Go.Proofs.YtplaohmdllindaaGreatDoor
open Go.RowKit

/-- The table of powers of ten lies in the world. -/
def Pow (w : World) : Prop := Lib.TabIs Tryz.prog w "internal/strconv.uint64pow10" .u64 Lib.pow10Tab
theorem Pow.below {w w' : World} (h : Pow w) (hb : Below w.heap.size w w') : Pow w' := Lib.tabBelow_of_tabIs h w' hb
theorem itoa_any (n : Int) (w : World) (h0 : -9223372036854775808 ≤ n) (h1 : n ≤ 9223372036854775807) (hP : Pow w) :
    Calls Tryz.prog 78 #[.int .i64 n] w fun e w' => e = .returned (.string ⟨(Lib.itoa n).toArray⟩) ∧ Below w.heap.size w w' := by
  refine (Tryz.strconv_Itoa n h0 h1 w hP).mono ?_
  rintro e w' ⟨rfl, k, os, rfl⟩
  exact ⟨rfl, Lib.below_grow _ w (Nat.le_refl _) k os⟩

end Go.Proofs.YtplaohmdllindaaGreatDoor

/- What the library's tables hold. -/
namespace Go.Proofs.YtplaohmdllindaaGreatDoor
open Go.RowKit

/-- what is asked of the library's own variables -/
structure RuleEnv (w : World) : Prop where
  maxl : MaxL w
  pow : Pow w
  syn : ∃ te pe, w.cell? ⟨7, 0, none⟩ = some (.iface te pe)
  ran : ∃ te pe, w.cell? ⟨8, 0, none⟩ = some (.iface te pe)
theorem RuleEnv.below {w w' : World} (h : RuleEnv w) (hb : Below w.heap.size w w') : RuleEnv w' := by
  obtain ⟨h1, h2, ⟨t1, p1, h3⟩, ⟨t2, p2, h4⟩⟩ := h
  exact ⟨h1.below hb, h2.below hb, ⟨t1, p1, carry hb h3⟩, ⟨t2, p2, carry hb h4⟩⟩

end Go.Proofs.YtplaohmdllindaaGreatDoor

/- msg.exact. -/
namespace Go.Proofs.YtplaohmdllindaaGreatDoor
open Go.RowKit

/-- where the text does not begin with '=' -/
theorem exact_bare (s : ByteArray) (w : World) (hE : RuleEnv w) (hs : s.size ≤ 281474976710656) (hp : Lib.hasPrefix s.data.toList [61] = false) :
    Calls Tryz.prog 215 #[.string s] w fun e w' => e = .returned (.int .i64 (-1)) ∧ Below w.heap.size w w' := by
  have hT : (⟨(Lib.trimPrefix s.data.toList [61]).toArray⟩ : ByteArray) = s := by
    unfold Lib.trimPrefix
    rw [hp]
    rfl
  have HP := Lib.hid hp
  have HT := Lib.hid hT
  clear hp hT
  cases h : Lib.atoiAll s.data.toList with
  | ok v =>
    have K := fun w => Tryz.strconv_Atoi_ok s (by omega) v h w
    have HK := Lib.hid K
    clear h hE K
    go_enter Tryz.func215, Tryz.ntmps215
    go_wp2_with fail
    refine (Tryz.strings_CutPrefix s ⟨#[61]⟩ _).mono ?_
    rintro e w1 ⟨rfl, rfl⟩
    rw [HP.out, HT.out]
    go_wp2_with fail
    refine (HK.out _).mono ?_
    rintro e w2 ⟨rfl, hw⟩
    have hb : Below w1.heap.size w1 w2 := by
      rcases hw with rfl | ⟨t, rfl⟩
      · exact Below.refl _ _
      · exact Lib.bytesWorld_below w1 _ t
    clear hw
    go_wp2_with fail
    go_ret
    exact ⟨rfl, hb⟩
  | range =>
    obtain ⟨te, pe, hc⟩ := hE.ran
    have K := Lib.hid (Tryz.strconv_Atoi_range s hs h _ w hc (.inr ⟨te, pe, rfl⟩))
    clear h hE hc
    generalize Lib.atoiSat s.data.toList = V at *
    go_enter Tryz.func215, Tryz.ntmps215
    go_wp2_with fail
    refine (Tryz.strings_CutPrefix s ⟨#[61]⟩ _).mono ?_
    rintro e w1 ⟨rfl, rfl⟩
    rw [HP.out, HT.out]
    go_wp2_with fail
    refine K.out.mono ?_
    rintro e w2 ⟨N, rfl, _, _, hb⟩
    go_wp2_with fail
    go_ret
    exact ⟨rfl, hb⟩
  | _ =>
    obtain ⟨te, pe, hc⟩ := hE.syn
    have K := Lib.hid (Tryz.strconv_Atoi_syntax s hs h _ w hc (.inr ⟨te, pe, rfl⟩))
    clear h hE hc
    go_enter Tryz.func215, Tryz.ntmps215
    go_wp2_with fail
    refine (Tryz.strings_CutPrefix s ⟨#[61]⟩ _).mono ?_
    rintro e w1 ⟨rfl, rfl⟩
    rw [HP.out, HT.out]
    go_wp2_with fail
    refine K.out.mono ?_
    rintro e w2 ⟨N, rfl, _, _, hb⟩
    go_wp2_with fail
    go_ret
    exact ⟨rfl, hb⟩

set_option maxHeartbeats 1000000 in
theorem exact_rest (s r : ByteArray) (w : World) (hE : RuleEnv w) (hs : r.size ≤ 281474976710656) (hp : Lib.hasPrefix s.data.toList [61] = true) (hT : (⟨(Lib.trimPrefix s.data.toList [61]).toArray⟩ : ByteArray) = r) :
    Calls Tryz.prog 215 #[.string s] w fun e w' => e = .returned (.int .i64 (exC (61 :: r.data.toList))) ∧ Below w.heap.size w w' := by
  have HP := Lib.hid hp
  have HT := Lib.hid hT
  clear hp hT
  cases h : Lib.atoiAll r.data.toList with
  | ok v =>
    have K := fun w => Tryz.strconv_Atoi_ok r (by omega) v h w
    have HK := Lib.hid K
    have hE1 := Lib.hid (@id (∀ w2 : World, Below w.heap.size w w2 → Pow w2) fun w2 hb => hE.pow.below hb)
    clear hE K
    by_cases hv : 0 ≤ v ∧ v ≤ 999
    · obtain ⟨v0, v1⟩ := hv
      obtain ⟨m, rfl⟩ : ∃ m : Nat, v = (m : Int) := ⟨v.toNat, by omega⟩
      have it : Lib.itoa (m : Int) = Lib.decDigits m := Lib.itoa_nonneg m
      by_cases hr : Lib.decDigits m = r.data.toList
      · have hx : exC (61 :: r.data.toList) = (m : Int) := by rw [← hr]; exact ex_of m (by omega)
        have hq : (⟨(Lib.itoa (m : Int)).toArray⟩ : ByteArray) = r := by rw [it, hr]
        rw [hx]
        have HQ := Lib.hid hq
        clear hx hq hr it h
        go_enter Tryz.func215, Tryz.ntmps215
        go_wp2_with fail
        refine (Tryz.strings_CutPrefix s ⟨#[61]⟩ _).mono ?_
        rintro e w1 ⟨rfl, rfl⟩
        rw [HP.out, HT.out]
        go_wp2_with fail
        refine (HK.out _).mono ?_
        rintro e w2 ⟨rfl, hw⟩
        have hb : Below w1.heap.size w1 w2 := by
          rcases hw with rfl | ⟨t, rfl⟩
          · exact Below.refl _ _
          · exact Lib.bytesWorld_below w1 _ t
        clear hw
        go_wp2_with fail
        refine (itoa_any (m : Int) _ (by omega) (by omega) (hE1.out _ hb)).mono ?_
        rintro e w3 ⟨rfl, hb3⟩
        rw [HQ.out]
        go_wp2_with fail
        go_ret
        exact ⟨rfl, hb.trans (hb3.mono hb.size)⟩
      · have hx : exC (61 :: r.data.toList) = -1 := ex_no fun k hk he => hr (by
          rw [← he, atoi_dd k hk] at h
          injection h with h
          have : k = m := by omega
          rw [← this]; exact he)
        rw [hx]
        generalize hq : (⟨(Lib.itoa (m : Int)).toArray⟩ : ByteArray) = t
        have n1 : ¬ t.toList = r.toList := by
          rw [Lib.toList_data, Lib.toList_data, ← hq, it]
          exact hr
        have n2 : (t.toList == r.toList) = false := by rw [beq_eq_false_iff_ne]; exact n1
        have HQ := Lib.hid hq
        clear hx hq hr it h
        go_enter Tryz.func215, Tryz.ntmps215
        go_wp2_with fail
        refine (Tryz.strings_CutPrefix s ⟨#[61]⟩ _).mono ?_
        rintro e w1 ⟨rfl, rfl⟩
        rw [HP.out, HT.out]
        go_wp2_with fail
        refine (HK.out _).mono ?_
        rintro e w2 ⟨rfl, hw⟩
        have hb : Below w1.heap.size w1 w2 := by
          rcases hw with rfl | ⟨t, rfl⟩
          · exact Below.refl _ _
          · exact Lib.bytesWorld_below w1 _ t
        clear hw
        go_wp2_with fail
        refine (itoa_any (m : Int) _ (by omega) (by omega) (hE1.out _ hb)).mono ?_
        rintro e w3 ⟨rfl, hb3⟩
        rw [HQ.out]
        go_wp2_with fail
        go_ret
        exact ⟨rfl, hb.trans (hb3.mono hb.size)⟩
    · have hx : exC (61 :: r.data.toList) = -1 := ex_no fun k hk he => hv (by
        rw [← he, atoi_dd k hk] at h
        injection h with h
        omega)
      rw [hx]
      clear hx h
      by_cases v0 : v < 0
      · go_enter Tryz.func215, Tryz.ntmps215
        go_wp2_with fail
        refine (Tryz.strings_CutPrefix s ⟨#[61]⟩ _).mono ?_
        rintro e w1 ⟨rfl, rfl⟩
        rw [HP.out, HT.out]
        go_wp2_with fail
        refine (HK.out _).mono ?_
        rintro e w2 ⟨rfl, hw⟩
        have hb : Below w1.heap.size w1 w2 := by
          rcases hw with rfl | ⟨t, rfl⟩
          · exact Below.refl _ _
          · exact Lib.bytesWorld_below w1 _ t
        clear hw
        go_wp2_with fail
        go_ret
        exact ⟨rfl, hb⟩
      · have v1 : 999 < v := by omega
        go_enter Tryz.func215, Tryz.ntmps215
        go_wp2_with fail
        refine (Tryz.strings_CutPrefix s ⟨#[61]⟩ _).mono ?_
        rintro e w1 ⟨rfl, rfl⟩
        rw [HP.out, HT.out]
        go_wp2_with fail
        refine (HK.out _).mono ?_
        rintro e w2 ⟨rfl, hw⟩
        have hb : Below w1.heap.size w1 w2 := by
          rcases hw with rfl | ⟨t, rfl⟩
          · exact Below.refl _ _
          · exact Lib.bytesWorld_below w1 _ t
        clear hw
        go_wp2_with fail
        go_ret
        exact ⟨rfl, hb⟩
  | range =>
    have hx : exC (61 :: r.data.toList) = -1 := ex_no fun k hk he => by
      rw [← he, atoi_dd k hk] at h
      cases h
    rw [hx]
    obtain ⟨te, pe, hc⟩ := hE.ran
    have K := Lib.hid (Tryz.strconv_Atoi_range r hs h _ w hc (.inr ⟨te, pe, rfl⟩))
    clear h hE hc hx
    generalize Lib.atoiSat r.data.toList = V at *
    go_enter Tryz.func215, Tryz.ntmps215
    go_wp2_with fail
    refine (Tryz.strings_CutPrefix s ⟨#[61]⟩ _).mono ?_
    rintro e w1 ⟨rfl, rfl⟩
    rw [HP.out, HT.out]
    go_wp2_with fail
    refine K.out.mono ?_
    rintro e w2 ⟨N, rfl, _, _, hb⟩
    go_wp2_with fail
    go_ret
    exact ⟨rfl, hb⟩
  | _ =>
    have hx : exC (61 :: r.data.toList) = -1 := ex_no fun k hk he => by
      rw [← he, atoi_dd k hk] at h
      cases h
    rw [hx]
    obtain ⟨te, pe, hc⟩ := hE.syn
    have K := Lib.hid (Tryz.strconv_Atoi_syntax r hs h _ w hc (.inr ⟨te, pe, rfl⟩))
    clear h hE hc hx
    go_enter Tryz.func215, Tryz.ntmps215
    go_wp2_with fail
    refine (Tryz.strings_CutPrefix s ⟨#[61]⟩ _).mono ?_
    rintro e w1 ⟨rfl, rfl⟩
    rw [HP.out, HT.out]
    go_wp2_with fail
    refine K.out.mono ?_
    rintro e w2 ⟨N, rfl, _, _, hb⟩
    go_wp2_with fail
    go_ret
    exact ⟨rfl, hb⟩

theorem msg_exact (s : ByteArray) (w : World) (hE : RuleEnv w) (hs : s.size ≤ 281474976710656) :
    Calls Tryz.prog 215 #[.string s] w fun e w' => e = .returned (.int .i64 (exC s.data.toList)) ∧ Below w.heap.size w w' := by
  cases hp : Lib.hasPrefix s.data.toList [61]
  · rw [ex_head hp]
    exact exact_bare s w hE hs hp
  · have hc := ex_cut hp
    have hl : s.data.toList.length = s.size := by simp
    have h1 := congrArg List.length hc
    have h2 := exact_rest s ⟨(Lib.trimPrefix s.data.toList [61]).toArray⟩ w hE (by
      show (Lib.trimPrefix s.data.toList [61]).toArray.size ≤ _
      rw [List.size_toArray]
      rw [hl, List.length_cons] at h1
      omega) hp rfl
    rw [show (⟨(Lib.trimPrefix s.data.toList [61]).toArray⟩ : ByteArray).data.toList = Lib.trimPrefix s.data.toList [61] from rfl, ← hc] at h2
    exact h2
end Go.Proofs.YtplaohmdllindaaGreatDoor
