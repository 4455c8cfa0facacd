/- FindEnglish: texts put together. -/
import Derived.Test.YtnhlnhmjnnopaaaDoorFe21
set_option linter.unusedVariables false
set_option linter.unusedSimpArgs false
/- FindEnglish: the law's walk. -/
namespace Go.Proofs.YtnhlnhmjnnopaaaDoor
open Go.RowKit

def hasE (key : ByteArray) (b : BunC) : Bool := decide (0 ≤ entAtI b.es key)
theorem hasE_text (b : BunC) (key : ByteArray) (h : (entText b.es key).isSome = true) : hasE key b = true := by
  unfold hasE entAtI
  rw [entText_at] at h
  cases hN : entAtN b.es key with
  | none => rw [hN] at h; cases h
  | some i => exact decide_eq_true (Int.natCast_nonneg i)
def oneB : List BunC := [⟨⟨#[101, 110]⟩, [⟨⟨#[97]⟩, ⟨#[98]⟩⟩]⟩]
theorem one_find : findP oneB ⟨#[100, 101]⟩ ⟨#[97]⟩ = (0, 0, ⟨#[98]⟩) := by decide +kernel
theorem any_succ {l : List BunC} {k : Nat} {x : BunC} (f : BunC → Bool) (h : l[k]? = some x) : (l.take (k + 1)).any f = ((l.take k).any f || f x) := by
  rw [List.take_add_one, h, Option.toList_some, List.any_append]
  simp

set_option maxHeartbeats 8000000 in
set_option maxRecDepth 100000 in
theorem walkF (A : Option Addr) (c : Nat) (l : List BunC) (name key : ByteArray) (w : World) (hM : MaxL w) (hL : BunsIn w A l) (hc : l.length ≤ c) (hc2 : c ≤ 9223372036854775807) (hs : ∀ b ∈ l, b.small) (hn : name.size ≤ 1000000000) :
    Calls Tryd.prog 3 #[.slice A l.length c, .string name, .string key] w fun e w' => e = .returned (.bool true) ∧ Below w.heap.size w w' := by
  obtain ⟨W0, hW0⟩ : ∃ W0, W0 = (w.alloc (.cells #[.string ⟨#[97]⟩, .string ⟨#[98]⟩] 28)).alloc (.cells #[.string ⟨#[101, 110]⟩, .slice (some ⟨w.heap.size, 0, none⟩) 1 1] 31) := ⟨_, rfl⟩
  have hb0 : Below w.heap.size w W0 := by rw [hW0]; exact (by (repeat (first | with_reducible exact Below.refl _ _ | with_reducible refine bel_set ?_ ?_ | with_reducible refine bel_alloc ?_ ?_ | with_reducible refine Below.drew ?_ | with_reducible refine bel_drewN _ ?_ | with_reducible refine bel_call ?_ (by assumption) ?_)); all_goals (first | (simp; done) | omega | (simp; omega)))
  have hone : BunsIn W0 (some ⟨w.heap.size + 1, 0, none⟩) oneB := .inr ⟨w.heap.size + 1, 0, rfl, fun j x hx => by
    obtain rfl : j = 0 := by have h : j < oneB.length := (List.getElem?_eq_some_iff.1 hx).1; simp [oneB] at h; omega
    cases hx
    refine ⟨some ⟨w.heap.size, 0, none⟩, 1, ?_, ?_, .inr ⟨w.heap.size, 0, rfl, fun j y hy => ?_⟩, Nat.le_refl _, (by decide), nofun⟩
    · rw [hW0]; go_simp
    · rw [hW0]; go_simp
    · obtain rfl : j = 0 := by have h := (List.getElem?_eq_some_iff.1 hy).1; simp at h; omega
      cases hy
      refine ⟨?_, ?_⟩
      · rw [hW0]; go_simp
      · rw [hW0]; go_simp⟩
  have K1 := Lib.hid (find_in (some ⟨w.heap.size + 1, 0, none⟩) 1 oneB ⟨#[100, 101]⟩ ⟨#[97]⟩ W0 (hM.below hb0) hone (Nat.le_refl _) (by decide) (fun b hb => by
    rw [show b = ⟨⟨#[101, 110]⟩, [⟨⟨#[97]⟩, ⟨#[98]⟩⟩]⟩ by simpa [oneB] using hb]
    refine ⟨by decide, by decide, fun e he => ?_⟩
    rw [show e = ⟨⟨#[97]⟩, ⟨#[98]⟩⟩ by simpa using he]
    exact ⟨by decide, by decide⟩) (by decide))
  rw [one_find] at K1
  have HB0 := Lib.hid hb0
  have HL := Lib.hid hL
  have HM := Lib.hid hM
  have HS := Lib.hid hs
  have E0 : Hid (errOf 0 = .nilIface) := Lib.hid rfl
  simp only at K1
  rw [E0.out] at K1
  have K2 := Lib.hid (fun W (hb : Below w.heap.size w W) => find_in A c l name key W (HM.out.below hb) (HL.out.below hb) hc hc2 HS.out hn)
  have K3 := Lib.hid (fun W (hb : Below w.heap.size w W) => ref_load A c l W (HM.out.below hb) (HL.out.below hb) hc hc2 HS.out)
  have K4 := Lib.hid (fun W (hb : Below w.heap.size w W) => ref_no_tag name W (HM.out.below hb) hn)
  have K5 := Lib.hid (fun W (hb : Below w.heap.size w W) => text_in A c l ⟨#[101, 110]⟩ key W (HL.out.below hb) hc hc2)
  have HW0 := Lib.hid hW0
  have hlw := Lib.hid (find_law l name key)
  have hbd := Lib.hid (find_bad l name key)
  clear hone hb0 hL hM hs hW0
  obtain ⟨R, hR⟩ : ∃ R, R = findP l name key := ⟨_, rfl⟩
  rw [← hR] at K2 hlw hbd
  obtain ⟨Rk, Ri, Rs⟩ := R
  simp only at K2 hlw
  clear hR
  go_enter Tryd.func3, Tryd.ntmps3
  go_wp2_with fail
  rw [← HW0.out]
  refine K1.out.mono ?_
  rintro e w1 ⟨rfl, hb1⟩
  have HB1 := Lib.hid (HB0.out.trans (hb1.mono HB0.out.size))
  clear hb1
  go_wp2_with fail
  refine (K2.out _ HB1.out).mono ?_
  rintro e w2 ⟨rfl, hb2⟩
  have HB2 := Lib.hid (HB1.out.trans (hb2.mono HB1.out.size))
  clear hb2
  by_cases hbad : loadErr [] l ≠ 0 ∨ ownTag name.data.toList = false
  · obtain ⟨k, hk, hkk⟩ := hbd.out hbad
    simp only [Prod.mk.injEq] at hkk
    obtain ⟨rfl, rfl, rfl⟩ := hkk
    have ET : errOf Rk = errT Rk := if_neg hk
    rw [ET]
    clear ET hk
    by_cases hl0 : loadErr [] l = 0
    · have hown : ownTag name.data.toList = false := hbad.resolve_left (fun h => h hl0)
      rw [hl0] at K3
      rw [hown] at K4
      clear hbad hl0 hown
      go_wp2_with fail
      refine (K3.out _ HB2.out).mono ?_
      rintro e w3 ⟨rfl, hb3⟩
      have HB3 := Lib.hid (HB2.out.trans (hb3.mono HB2.out.size))
      clear hb3
      go_wp2_with fail
      refine (K4.out _ HB3.out).mono ?_
      rintro e w4 ⟨rfl, hb4⟩
      go_wp2_with fail
      go_ret
      exact ⟨rfl, HB3.out.trans (hb4.mono HB3.out.size)⟩
    · have hl1 : (loadErr [] l != 0) = true := bne_iff_ne.2 hl0
      clear hbad hl0
      generalize loadErr [] l = E at *
      go_wp2_with fail
      refine (K3.out _ HB2.out).mono ?_
      rintro e w3 ⟨rfl, hb3⟩
      have HB3 := Lib.hid (HB2.out.trans (hb3.mono HB2.out.size))
      clear hb3
      go_wp2_with fail
      go_ret
      exact ⟨rfl, HB3.out⟩
  · obtain ⟨hl0, hown⟩ : loadErr [] l = 0 ∧ ownTag name.data.toList = true := by
      refine ⟨Decidable.byContradiction fun h => hbad (.inl h), ?_⟩
      cases h : ownTag name.data.toList
      · exact absurd (.inr h) hbad
      · rfl
    obtain ⟨g1, g2⟩ := hlw.out hl0 hown
    have G1 := Lib.hid g1
    have G2 := Lib.hid g2
    rw [hl0] at K3
    rw [hown] at K4
    have HT : Hid ((textIn l ⟨#[101, 110]⟩ key).2 = (bunAt [101, 110] key 0 l).isSome) := Lib.hid (by
      unfold textIn
      rw [show (⟨#[101, 110]⟩ : ByteArray).data.toList = [101, 110] from rfl]
      cases bunAt [101, 110] key 0 l <;> rfl)
    clear hbad hl0 hown g1 g2 hlw hbd
    generalize textIn l ⟨#[101, 110]⟩ key = TX at *
    obtain ⟨Tt, Tb⟩ := TX
    simp only at HT K5
    go_wp2_with fail
    refine (K3.out _ HB2.out).mono ?_
    rintro e w3 ⟨rfl, hb3⟩
    have HB3 := Lib.hid (HB2.out.trans (hb3.mono HB2.out.size))
    clear hb3
    go_wp2_with fail
    refine (K4.out _ HB3.out).mono ?_
    rintro e w4 ⟨rfl, hb4⟩
    have HB4 := Lib.hid (HB3.out.trans (hb4.mono HB3.out.size))
    clear hb4
    go_wp2_with fail
    refine (K5.out _ HB4.out).mono ?_
    rintro e w5 ⟨rfl, rfl⟩
    go_wp2_with fail
    go_loop [15, 16] (fun sv kv => ∃ k : Nat, k ≤ l.length ∧ kv = .int .i64 k ∧ sv = .bool ((l.take k).any (hasE key))) (fun _ kv => l.length - (intOf kv).toNat)
    case atStart => exact ⟨0, Nat.zero_le _, rfl, rfl⟩
    case round =>
      obtain ⟨k, hk, rfl, rfl⟩ := hrel
      by_cases hlt : k < l.length
      · obtain ⟨x, hx⟩ : ∃ x, l[k]? = some x := ⟨l[k]'(by omega), List.getElem?_eq_getElem (by omega)⟩
        obtain ⟨g, o, rfl, hat⟩ := (HL.out.below HB4.out).at (by omega)
        obtain ⟨B, d, n0, n1, hE, hd, hd2, _⟩ := hat k x hx
        have KE := Lib.hid (entry_at B x.es.length d x.es key w5 hE (Nat.le_refl _) hd hd2)
        rw [List.take_length] at KE
        have j0 : (0 : Int) ≤ (k : Int) := by omega
        have j1 : (k : Int) < (l.length : Int) := by omega
        have f1 : IntKind.i64.wrap ((k : Int) + 1) = (k : Int) + 1 := IntWalk.i64_in _ (by omega)
        have HAS := Lib.hid (any_succ (hasE key) hx)
        have HD : Hid (hasE key x = decide (0 ≤ entAtI x.es key)) := Lib.hid rfl
        clear hat hx hE
        generalize entAtI x.es key = q at *
        cases hsome : (l.take k).any (hasE key)
        · have HS2 : Hid ((l.take (k + 1)).any (hasE key) = decide (0 ≤ q)) := Lib.hid (by rw [HAS.out, hsome, Bool.false_or, HD.out])
          clear hsome
          go_wp2_with fail
          refine KE.out.mono ?_
          rintro e w6 ⟨rfl, rfl⟩
          go_wp2_with fail
          go_round
          case rel => exact ⟨k + 1, by omega, by go_num, by rw [HS2.out]⟩
          case measure => simp [intOf]; omega
        · have HS2 : Hid ((l.take (k + 1)).any (hasE key) = true) := Lib.hid (by rw [HAS.out, hsome, Bool.true_or])
          clear hsome
          go_wp2_with fail
          go_round
          case rel => exact ⟨k + 1, by omega, by go_num, by rw [HS2.out]⟩
          case measure => simp [intOf]; omega
      · obtain rfl : k = l.length := by omega
        by_cases hz : Rk = 0
        · subst hz
          obtain ⟨b, hb, hbt⟩ := G2.out rfl
          have hany : (l.take l.length).any (hasE key) = true := by
            rw [List.take_length]
            exact List.any_eq_true.2 ⟨b, List.mem_of_getElem? hb, hasE_text b key hbt⟩
          have hbl := (List.getElem?_eq_some_iff.1 hb).1
          obtain ⟨g, o, rfl, hat⟩ := (HL.out.below HB4.out).at (by omega)
          obtain ⟨B, d, n0, n1, hE, hd, hd2, _⟩ := hat Ri b hb
          have KE := Lib.hid (entry_at B b.es.length d b.es key w5 hE (Nat.le_refl _) hd hd2)
          rw [List.take_length] at KE
          have hq : (0 : Int) ≤ entAtI b.es key := of_decide_eq_true (hasE_text b key hbt)
          have j0 : (0 : Int) ≤ (Ri : Int) := by omega
          have j1 : (Ri : Int) < (l.length : Int) := by omega
          rw [hany, E0.out]
          clear hat hb hbt hE hany G1 G2
          generalize entAtI b.es key = q at *
          cases Tb
          · go_wp2_with fail
            refine KE.out.mono ?_
            rintro e w6 ⟨rfl, rfl⟩
            go_wp2_with fail
            go_ret
            exact ⟨rfl, HB4.out⟩
          · go_wp2_with fail
            refine KE.out.mono ?_
            rintro e w6 ⟨rfl, rfl⟩
            go_wp2_with fail
            go_ret
            exact ⟨rfl, HB4.out⟩
        · have hen : Tb = false := by
            cases hT : Tb with
            | false => rfl
            | true => exact absurd (G1.out (by rw [← HT.out]; exact hT)) hz
          subst hen
          have ET : errOf Rk = errT Rk := if_neg hz
          rw [ET]
          generalize (l.take l.length).any (hasE key) = sb at *
          go_wp2_with fail
          go_ret
          exact ⟨rfl, HB4.out⟩
end Go.Proofs.YtnhlnhmjnnopaaaDoor
