/- NamesWrap: the walk. -/
import Derived.Test.YthlcjlmaaaappaaDoorWrapPlain
import Derived.Test.YthlcjlmaaaappaaDoorNeedArgs2
import Derived.Test.YthlcjlmaaaappaaDoorLitNodes
namespace Go.Proofs.YthlcjlmaaaappaaDoor
open Go.RowKit

theorem OwnsG.litArg (w : World) (x : ArgC) (base : Nat) (hb : base ≤ w.heap.size) : OwnsG kArg (w.alloc (.cells #[.string x.name, .bool x.isNum, .int .i64 x.coef, .int .i64 x.scale, .string x.text] 45)) base (.slice (some ⟨w.heap.size, 0, none⟩) 1 1) [x] :=
  World.ownsRow_lit (size := 5) w _ 1 hb (by decide) rfl
theorem names_show : namesP 1 showA = 0 := by decide +kernel
theorem any_hasA (name : ByteArray) (l : List Need) : ((l.map argN).any (hasA name)) = true ↔ name.toList ∈ namesOf l := by
  rw [List.any_eq_true]
  unfold namesOf
  constructor
  · rintro ⟨x, hx, h⟩
    obtain ⟨n, hn, rfl⟩ := List.mem_map.1 hx
    exact List.mem_map.2 ⟨n, hn, by simpa [hasA, argN] using h⟩
  · intro h
    obtain ⟨n, hn, he⟩ := List.mem_map.1 h
    exact ⟨argN n, List.mem_map.2 ⟨n, hn, rfl⟩, by simpa [hasA, argN] using he⟩

set_option maxHeartbeats 4000000 in
theorem walk (f : Nat) (v : Value) (ms : List Nd) (name : ByteArray) (w : World) (hE : RuleEnv w) (hK : MKinds w) (hN : NodesIn f w v ms) (hn : name.size ≤ 140737488355328) :
    Calls Tryd.prog 4 #[v, .string name] w fun e w' => e = .returned (.bool true) ∧ Below w.heap.size w w' := by
  obtain ⟨A, c, rfl, hc, hc2, hl⟩ := hN.form
  have HE := Lib.hid hE
  have HK := Lib.hid hK
  have HN := Lib.hid hN
  clear hE hK hN
  go_enter Tryd.func4, Tryd.ntmps4
  go_wp2_with fail
  have hb1 : Below w.heap.size w (w.alloc (.cells #[.int .i64 2, .string ⟨#[97]⟩, .int .i64 0, .slice none 0 0] 32)) := (Below.refl _ _).alloc (Nat.le_refl _) _
  refine (names_Of_ok 1 _ showA _ (HE.out.below hb1) (HK.out.below hb1) (lit_show _ w.heap.size (by go_simp) (by go_simp) (by go_simp) (by go_simp)) names_show).mono ?_
  rintro e w1 ⟨⟨v1, rfl, hO1⟩, hb2⟩
  have HB1 := Lib.hid (hb1.trans (hb2.mono hb1.size))
  obtain ⟨A1, c1, rfl, g1, g2, _, _⟩ := args_of hO1
  have el : ((allN 1 [] showA).map argN).length = 1 := rfl
  rw [el]
  clear hb1 hb2 hO1 el g1
  go_wp2_with fail
  have s1 := HB1.out.size
  have KW : Hid (∀ W : World, Below w.heap.size w W → Below w.heap.size w ((W.alloc (.cells #[.string otherS, .slice A ms.length c] 35)).alloc (.cells #[.int .i64 5, .string name, .int .i64 0, .slice (some ⟨W.heap.size, 0, none⟩) 1 1] 32)) ∧
      NodesIn (f + 1) ((W.alloc (.cells #[.string otherS, .slice A ms.length c] 35)).alloc (.cells #[.int .i64 5, .string name, .int .i64 0, .slice (some ⟨W.heap.size, 0, none⟩) 1 1] 32)) (.slice (some ⟨W.heap.size + 1, 0, none⟩) 1 1) (wrapS name ms)) := Lib.hid (fun W hb => by
    have h1 : Below w.heap.size w (W.alloc (.cells #[.string otherS, .slice A ms.length c] 35)) := hb.alloc hb.size _
    have h2 : Below w.heap.size w ((W.alloc (.cells #[.string otherS, .slice A ms.length c] 35)).alloc (.cells #[.int .i64 5, .string name, .int .i64 0, .slice (some ⟨W.heap.size, 0, none⟩) 1 1] 32)) := h1.alloc h1.size _
    exact ⟨h2, lit_wrap 5 name _ (W.heap.size + 1) W.heap.size (by decide) (NodesIn.below h2 f HN.out) hn (by go_simp) (by go_simp) (by go_simp) (by go_simp) (by go_simp) (by go_simp)⟩)
  unfold otherS at KW
  by_cases h1 : namesP f ms = 0
  · have K1 := Lib.hid (names_Of_ok f _ ms w1 (HE.out.below HB1.out) (HK.out.below HB1.out) (NodesIn.below HB1.out f HN.out) h1)
    have hm : msgP f ms = 0 := by
      unfold namesP at h1
      split at h1
      · rename_i h; exact h
      · exact h1
    have hlen : ((allN f [] ms).map argN).length ≤ 60 := by have h1 := (msg_small hm).1; have h2 := allN_length f [] ms; simp at h2 ⊢; omega
    have HIFF := Lib.hid (any_hasA name (allN f [] ms))
    have HCONS : Hid (¬ name.toList ∈ namesOf (allN f [] ms) → (allN (f + 1) [] (wrapS name ms)).map argN = ⟨name, false, 0, 0, ⟨#[]⟩⟩ :: (allN f [] ms).map argN) := Lib.hid (fun h => by
      rw [wrap_all, all_cons ⟨name, false, true⟩ f ms h]; rfl)
    clear hm
    generalize (allN f [] ms).map argN = M at *
    refine K1.out.mono ?_
    rintro e w2 ⟨⟨v2, rfl, hO2⟩, hb2⟩
    have HB2 := Lib.hid (HB1.out.trans (hb2.mono s1))
    have hO2b := hO2.base s1
    obtain ⟨A2, c2, rfl, g3, g4, g5, hin2⟩ := args_of hO2b
    have HIN2 := Lib.hid hin2
    obtain ⟨hb3, hN3⟩ := KW.out w2 HB2.out
    have HB3 := Lib.hid hb3
    have HB23 : Hid (Below w2.heap.size w2 _) := Lib.hid (((Below.refl w2.heap.size w2).alloc (Nat.le_refl _) (.cells #[.string ⟨#[111, 116, 104, 101, 114]⟩, .slice A ms.length c] 35)).alloc (by simp) (.cells #[.int .i64 5, .string name, .int .i64 0, .slice (some ⟨w2.heap.size, 0, none⟩) 1 1] 32))
    have HN3 := Lib.hid hN3
    clear hb2 hO2 hO2b hin2 hb3 hN3 KW K1
    by_cases h2 : namesP (f + 1) (wrapS name ms) = 0
    · have K2 := Lib.hid (names_Of_ok (f + 1) _ _ _ (HE.out.below HB3.out) (HK.out.below HB3.out) HN3.out h2)
      generalize (allN (f + 1) [] (wrapS name ms)).map argN = M3 at *
      go_wp2_with fail
      refine K2.out.mono ?_
      rintro e w3 ⟨⟨v3, rfl, hO3⟩, hb3⟩
      have s3 := HB3.out.size
      have HB4 := Lib.hid (HB3.out.trans (hb3.mono s3))
      obtain ⟨A3, c3, rfl, g6, g7, _, hin3⟩ := args_of hO3
      have HIN3 := Lib.hid hin3
      have HIN2x := Lib.hid ((HIN2.out.below HB23.out).below hb3)
      have KO := Lib.hid (arg_of A2 c2 M name w3 HIN2x.out g3 g4)
      clear hb3 hO3 hin3 K2
      cases hq : M.any (hasA name)
      · rw [hq] at KO
        have hno : ¬ name.toList ∈ namesOf (allN f [] ms) := fun h => by
          have := HIFF.out.2 h; rw [hq] at this; cases this
        have hM3 := HCONS.out hno
        subst hM3
        clear hq hno HCONS HIFF
        go_wp2_with fail
        refine KO.out.mono ?_
        rintro e w4 ⟨⟨i, rfl, hi⟩, hb4⟩
        have i0 : ¬ (0 : Int) ≤ i := of_decide_eq_false hi
        have s4 := HB4.out.size
        have HB5 := Lib.hid (HB4.out.trans (hb4.mono s4))
        have HIN2y := Lib.hid (HIN2x.out.below hb4)
        have HIN3y := Lib.hid (HIN3.out.below hb4)
        have s5 := HB5.out.size
        clear hi hb4
        have HLA := Lib.hid (OwnsG.litArg w4 ⟨name, false, 0, 0, ⟨#[]⟩⟩ w4.heap.size (Nat.le_refl _))
        have hbl : Below w4.heap.size w4 (w4.alloc (.cells #[.string name, .bool false, .int .i64 0, .int .i64 0, .string ⟨#[]⟩] 45)) := (Below.refl _ _).alloc (Nat.le_refl _) _
        have HBL := Lib.hid hbl
        have HIN2z := Lib.hid ((HIN2y.out.below hbl).lies)
        clear hbl
        go_wp2_with (at_builtin; refine wpList_append_manyG (k := kArg) rfl _ _ rfl rfl rfl HLA.out HIN2z.out g5 (by simp) (by show (1 + M.length) * 56 ≤ _; omega) (by simp; omega) ?_; intro v' w' ho hoff; obtain ⟨A6, c6, rfl, f1, f2, f3, hin6⟩ := args_of ho; have HIN6 := Lib.hid hin6; have hbg := HLA.out.grown hoff (by simp); have HBG := Lib.hid (HBL.out.trans hbg); clear ho hoff hin6 hbg)
        have KS := Lib.hid (same_args A3 A6 c3 c6 (⟨name, false, 0, 0, ⟨#[]⟩⟩ :: M) w' (HIN3y.out.below HBG.out) HIN6.out g6 g7 (by simp at f1 ⊢; omega) f2)
        rw [List.length_cons] at KS
        refine KS.out.mono ?_
        rintro e w7 ⟨rfl, hb7⟩
        have HB7 := Lib.hid (HB5.out.trans ((HBG.out.trans (hb7.mono HBG.out.size)).mono s5))
        clear hb7
        go_wp2_with fail
        go_ret
        exact ⟨rfl, HB7.out⟩
      · rw [hq] at KO
        clear hq HCONS HIFF
        go_wp2_with fail
        refine KO.out.mono ?_
        rintro e w4 ⟨⟨i, rfl, hi⟩, hb4⟩
        have i0 : (0 : Int) ≤ i := of_decide_eq_true hi
        have s4 := HB4.out.size
        have HB5 := Lib.hid (HB4.out.trans (hb4.mono s4))
        clear hi hb4
        go_wp2_with fail
        go_ret
        exact ⟨rfl, HB5.out⟩
    · have K2 := Lib.hid (names_Of_no (f + 1) _ _ _ (HE.out.below HB3.out) (HK.out.below HB3.out) HN3.out h2)
      generalize namesP (f + 1) (wrapS name ms) = E at *
      go_wp2_with fail
      refine K2.out.mono ?_
      rintro e w3 ⟨rfl, hb3⟩
      have HB4 := Lib.hid (HB3.out.trans (hb3.mono HB3.out.size))
      clear hb3
      go_wp2_with fail
      go_ret
      exact ⟨rfl, HB4.out⟩
  · have K1 := Lib.hid (names_Of_no f _ ms w1 (HE.out.below HB1.out) (HK.out.below HB1.out) (NodesIn.below HB1.out f HN.out) h1)
    have h2 := wrap_names name f ms h1
    refine K1.out.mono ?_
    rintro e w2 ⟨rfl, hb2⟩
    have HB2 := Lib.hid (HB1.out.trans (hb2.mono s1))
    obtain ⟨hb3, hN3⟩ := KW.out w2 HB2.out
    have HB3 := Lib.hid hb3
    have HN3 := Lib.hid hN3
    have K2 := Lib.hid (names_Of_no (f + 1) _ _ _ (HE.out.below HB3.out) (HK.out.below HB3.out) HN3.out h2)
    clear hb2 hb3 hN3 KW K1
    generalize namesP (f + 1) (wrapS name ms) = E at *
    generalize namesP f ms = E1 at *
    go_wp2_with fail
    refine K2.out.mono ?_
    rintro e w3 ⟨rfl, hb3⟩
    have HB4 := Lib.hid (HB3.out.trans (hb3.mono HB3.out.size))
    clear hb3
    go_wp2_with fail
    go_ret
    exact ⟨rfl, HB4.out⟩
end Go.Proofs.YthlcjlmaaaappaaDoor
