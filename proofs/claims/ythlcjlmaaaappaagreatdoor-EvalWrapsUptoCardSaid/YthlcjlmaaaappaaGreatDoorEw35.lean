/- EvalWraps: texts put together. -/
import Derived.Test.YthlcjlmaaaappaaGreatDoorEw33
import Derived.Deep.RegionHeld
set_option linter.unusedVariables false
set_option linter.unusedSimpArgs false
/- EvalWraps: the law's walk. -/
namespace Go.Proofs.YthlcjlmaaaappaaGreatDoor
open Go.RowKit Go.Maps

theorem wrapK_fit {L f : Nat} {ms : List Nd} (kd : Int) (hL : 200 ≤ L) (h : FitN L f ms) : FitN L (f + 1) (wrapK kd zzS ms) := fun x hx => by
  have : x = .mk kd zzS 0 [(otherS, ms)] := by simpa [wrapK] using hx
  subst this
  have h1 : zzS.size = 8 := rfl
  have h2 : otherS.size = 5 := rfl
  refine ⟨by show zzS.size ≤ L; omega, fun c hc => ?_⟩
  have : c = (otherS, ms) := by simpa [Nd.cs] using hc
  subst this
  exact ⟨by show otherS.size ≤ L; omega, h⟩

theorem arg_cell (w : World) (t : ArgC) (i : Nat) (u : Value) (hu : (kArg.cells t)[i]? = some u) : (w.alloc (.cells #[.string t.name, .bool t.isNum, .int .i64 t.coef, .int .i64 t.scale, .string t.text] 53)).cell? ⟨w.heap.size, i, none⟩ = some u := by
  match i, u, hu with
  | 0, _, hu => injection hu with hu; subst hu; go_simp
  | 1, _, hu => injection hu with hu; subst hu; go_simp
  | 2, _, hu => injection hu with hu; subst hu; go_simp
  | 3, _, hu => injection hu with hu; subst hu; go_simp
  | 4, _, hu => injection hu with hu; subst hu; go_simp

theorem zz_ok : nameB zzS.data.toList = true := by decide
theorem zz_sz : zzS.size ≤ 140737488355328 := by decide

set_option maxHeartbeats 8000000 in
set_option maxRecDepth 100000 in
theorem walkW (L f : Nat) (v : Value) (ms : List Nd) (lng text : ByteArray) (A : Option Addr) (c : Nat) (ags : List ArgC) (dc ds : Int) (w : World) (hE : RuleEnv w) (hM : MKinds w) (hK : KindsAt w) (hL : NumLaid w) (hT : ErrT w) (hN : NodesIn f w v ms) (hA : ArgsIn w A ags) (hA0 : A = none → c = 0) (hc : ags.length ≤ c) (hc2 : c ≤ 9223372036854775807) (hl : ags.length ≤ 100000000000)
    (hL1 : 200 ≤ L) (hL2 : L ≤ 1000000000000) (hfit : FitN L f ms) (hz : ∀ a ∈ ags, a.name.size ≤ 140737488355328 ∧ a.text.size ≤ L) (hln : lng.size ≤ 140737488355328) (htx : text.size ≤ L) :
    Calls Tryz.prog 6 #[v, .string lng, .slice A ags.length c, .string text, decV dc ds] w fun e w' => e = .returned (.bool true) ∧ Below w.heap.size w w' := by
  obtain ⟨Am, cm, rfl, _, _, _⟩ := hN.form
  have KW := Lib.hid (fun (W : World) (hb : Below w.heap.size w W) b => say_word W b (hE.below hb) (hM.below hb) (hK.below hb) (hL.below hb))
  have KS2 := Lib.hid (fun (W : World) (hb : Below w.heap.size w W) (u : Value) (kd : Int) (B : Option Addr) (d : Nat) (bs : List ArgC) hu hB hd hd2 hdl hbz => eval_Say L (f + 1) u (wrapK kd zzS ms) lng B d bs W (hE.below hb) (hM.below hb) (hK.below hb) (hL.below hb) hu hB hd hd2 hdl hL1 hL2 (wrapK_fit kd hL1 hfit) hbz hln)
  have KS1 := Lib.hid (fun (W : World) (hb : Below w.heap.size w W) => eval_Say L f _ ms lng A c ags W (hE.below hb) (hM.below hb) (hK.below hb) (hL.below hb) (NodesIn.below hb f hN) (hA.below hb) hc hc2 (by omega) hL1 hL2 hfit hz hln)
  have HA := Lib.hid hA
  have HN := Lib.hid hN
  have HT := Lib.hid hT
  have HZ := Lib.hid hz
  have HA0 := Lib.hid hA0
  clear hE hM hK hL hN hA hfit hz hL1 hL2 hT hA0
  obtain ⟨S, hS⟩ : ∃ S, S = setOf lng := ⟨_, rfl⟩
  rw [← hS] at KS1 KS2
  clear hS
  go_enter Tryz.func6, Tryz.ntmps6
  go_wp2_with fail
  have hb1 : Below w.heap.size w ((w.alloc (.cells #[.int .i64 dc, .int .i64 ds] 51)).alloc (.cells #[.int .i64 1, .string ⟨#[97]⟩, .int .i64 0, .slice none 0 0] 30)) := (by (repeat (first | with_reducible exact Below.refl _ _ | with_reducible refine bel_set ?_ ?_ | with_reducible refine bel_alloc ?_ ?_ | with_reducible refine Below.drew ?_ | with_reducible refine bel_drewN _ ?_ | with_reducible refine bel_call ?_ (by assumption) ?_)); all_goals (first | (simp; done) | omega | (simp; omega)))
  refine (KW.out _ hb1 (w.heap.size + 1) (by go_simp) (by go_simp) (by go_simp) (by go_simp)).mono ?_
  rintro e w1 ⟨rfl, hb2⟩
  have d0 : w1.cell? ⟨w.heap.size, 0, none⟩ = some (.int .i64 dc) := carry hb2 (by go_simp)
  have d1 : w1.cell? ⟨w.heap.size, 1, none⟩ = some (.int .i64 ds) := carry hb2 (by go_simp)
  have HB1 := Lib.hid (hb1.trans (hb2.mono hb1.size))
  clear hb1 hb2
  go_wp2_with fail
  refine (KS1.out w1 HB1.out).mono ?_
  rintro e w2 ⟨rfl, hb2⟩
  have HB2 := Lib.hid (HB1.out.trans (hb2.mono HB1.out.size))
  replace d0 := carry hb2 d0
  replace d1 := carry hb2 d1
  clear hb2
  by_cases hr : (topT S f ms ags).1 = 0
  · obtain ⟨t1, t2, t3⟩ := sayT_fits hr
    have E0 : errOf (topT S f ms ags).1 = .nilIface := by rw [hr]; rfl
    have HW := Lib.hid (fun kd hk z hz hkz hno => wrapK_says S hr kd hk z hz hkz hno)
    obtain ⟨R, hR⟩ : ∃ R, R = (topT S f ms ags).2 := ⟨_, rfl⟩
    have hRR : topT S f ms ags = (0, R) := Prod.ext hr hR.symm
    rw [E0, ← hR]
    rw [hRR] at HW
    have KA := Lib.hid (arg_of A c ags zzS w2 (HA.out.below HB2.out) hc hc2)
    unfold zzS at KA
    clear t1 t2 t3 hr E0 hRR hR
    go_wp2_with fail
    refine KA.out.mono ?_
    rintro e w3 ⟨⟨i, rfl, hi⟩, hb3⟩
    have HB3 := Lib.hid (HB2.out.trans (hb3.mono HB2.out.size))
    replace d0 := carry hb3 d0
    replace d1 := carry hb3 d1
    clear hb3 KA
    by_cases hz : 0 ≤ i
    · clear hi
      go_wp2_with fail
      go_ret
      exact ⟨rfl, HB3.out⟩
    · have hany : ags.any (hasA zzS) = false := by rw [show zzS = (⟨#[122, 122, 95, 122, 122, 95, 122, 122]⟩ : ByteArray) from rfl, ← hi]; exact decide_eq_false hz
      have HNO := Lib.hid (zz_no hany)
      have KD := Lib.hid (dec_fault dc ds w3)
      clear hi hany
      by_cases hd : decOk dc ds
      · have hdd : decide (¬ decOk dc ds) = false := decide_eq_false (fun h => h hd)
        rw [hdd] at KD
        have HD := Lib.hid hd
        clear hd hdd
        go_wp2_with fail
        refine KD.out.mono ?_
        rintro e w4 ⟨rfl, hb4⟩
        have HB4 := Lib.hid (HB3.out.trans (hb4.mono HB3.out.size))
        replace d0 := carry hb4 d0
        replace d1 := carry hb4 d1
        clear hb4
        have s4 := HB4.out.size
        -- the case, the node, the empty row
        obtain ⟨w5, hw5⟩ : ∃ w5, w5 = ((w4.alloc (.cells #[.string ⟨#[111, 116, 104, 101, 114]⟩, .slice Am ms.length cm] 33)).alloc (.cells #[.int .i64 5, .string ⟨#[122, 122, 95, 122, 122, 95, 122, 122]⟩, .int .i64 0, .slice (some ⟨w4.heap.size, 0, none⟩) 1 1] 30)) := ⟨_, rfl⟩
        have s5 : w5.heap.size = w4.heap.size + 1 + 1 := by rw [hw5]; simp
        have hb45 : Below w4.heap.size w4 w5 := by rw [hw5]; exact (by (repeat (first | with_reducible exact Below.refl _ _ | with_reducible refine bel_set ?_ ?_ | with_reducible refine bel_alloc ?_ ?_ | with_reducible refine Below.drew ?_ | with_reducible refine bel_drewN _ ?_ | with_reducible refine bel_call ?_ (by assumption) ?_)); all_goals (first | (simp; done) | omega | (simp; omega)))
        have hN5 : NodesIn (f + 1) w5 (.slice (some ⟨w4.heap.size + 1, 0, none⟩) 1 1) (wrapK 5 zzS ms) := by
          refine wrapK_in 5 (.inr rfl) w5 (w4.heap.size + 1) w4.heap.size (NodesIn.below (HB4.out.trans (hb45.mono s4)) f HN.out) ?_ ?_ ?_ ?_ ?_ ?_
          all_goals (rw [hw5]; first | (go_simp; done) | (go_simp; rfl))
        have hcs : w5.cell? ⟨w4.heap.size, 0, none⟩ = some (.string otherS) ∧ w5.cell? ⟨w4.heap.size, 1, none⟩ = some (.slice Am ms.length cm) := by rw [hw5]; exact ⟨by go_simp; rfl, by go_simp⟩
        obtain ⟨b5, hb5⟩ : ∃ b5, b5 = w5.heap.size := ⟨_, rfl⟩
        have ho6 : OwnsG kArg (w5.alloc (.cells #[] 53)) b5 (.slice (some ⟨w4.heap.size + 1 + 1, 0, none⟩) 0 0) [] := by
          rw [← s5]
          exact World.ownsRow_lit (size := 5) w5 #[] 0 (by omega) (by simp [maxLen]) rfl
        have hb56 : Below w5.heap.size w5 (w5.alloc (.cells #[] 53)) := (by (repeat (first | with_reducible exact Below.refl _ _ | with_reducible refine bel_set ?_ ?_ | with_reducible refine bel_alloc ?_ ?_ | with_reducible refine Below.drew ?_ | with_reducible refine bel_drewN _ ?_ | with_reducible refine bel_call ?_ (by assumption) ?_)); all_goals (first | (simp; done) | omega | (simp; omega)))
        have HB6 : Hid (Below w.heap.size w (w5.alloc (.cells #[] 53))) := Lib.hid ((HB4.out.trans (hb45.mono s4)).trans (hb56.mono (by have := hb45.size; omega)))
        have HO6 := Lib.hid ho6
        have HN5 := Lib.hid hN5
        have HCS := Lib.hid hcs
        have HB45 := Lib.hid hb45
        have HB56 := Lib.hid hb56
        rw [hw5] at HO6 HB6
        have HW5 := Lib.hid hw5
        have HAI := Lib.hid (HA.out.below HB6.out).lies
        clear hb45 hN5 hcs ho6 hb56 hw5
        have L1 : Hid ((0 + ags.length) * 56 ≤ 140737488355328) := Lib.hid (by omega)
        have L2 : Hid ((ags.length + 1) * 56 ≤ 140737488355328) := Lib.hid (by omega)
        have L3 : Hid (ags.length + 1 ≤ 9223372036854775807) := Lib.hid (by omega)
        have L4 : Hid (([] : List ArgC).length + ags.length ≤ 9223372036854775807) := Lib.hid (by simp; omega)
        have L5 : Hid (b5 = w4.heap.size + 1 + 1) := Lib.hid (by omega)
        have L6 : Hid (b5 = w5.heap.size) := Lib.hid hb5
        clear hb5
        go_wp2_with (at_builtin; (first
          | (refine wpList_append_manyG (k := kArg) (base := b5) rfl (.tmp 66) (.tmp 67) rfl (ys := ags) rfl rfl HO6.out HAI.out HA0.out (by have := L5.out; simp; omega) L1.out L4.out ?_; intro v' w7 ho hoff; rw [List.nil_append] at ho; have hbg := HO6.out.grown hoff (by have := L5.out; simp; omega); rw [← HW5.out] at hbg; have HB57 := Lib.hid (HB56.out.trans (hbg.mono (by have := L6.out; omega))); have HO7 := Lib.hid ho; obtain ⟨A7, c7, rfl, _⟩ := ho.form; clear ho hoff hbg)
          | (refine wpList_append_gB (k := kArg) (base := b5) rfl (.tmp 68) (.tmp 71) rfl ⟨zzS, false, 0, 0, text⟩ rfl rfl (HO7.out.below ((Below.refl _ _).alloc (Nat.le_refl _) _)) (arg_cell w7 ⟨zzS, false, 0, 0, text⟩) (by have := L6.out; have := HB57.out.size; simp; omega) L2.out L3.out ?_; intro v' w9 ho hoff hfr; have hbg := (HO7.out.below ((Below.refl w7.heap.size w7).alloc (Nat.le_refl _) _)).grown hoff (by have := L6.out; have := HB57.out.size; simp; omega); have HB79 := Lib.hid (((Below.refl b5 w7).alloc (by have := L6.out; have := HB57.out.size; omega) _).trans hbg); obtain ⟨A9, c9, rfl, f1, f2, f3, hin9⟩ := args_of ho; have HIN9 := Lib.hid hin9; clear ho hoff hfr hbg hin9)))
        have HB59 := Lib.hid (HB57.out.trans (HB79.out.mono (by have := L6.out; omega)))
        have HB49 := Lib.hid (HB45.out.trans (HB59.out.mono (by have := HB45.out.size; omega)))
        have HB9 := Lib.hid (HB4.out.trans (HB49.out.mono s4))
        have HN9 := Lib.hid (NodesIn.below HB59.out (f + 1) HN5.out)
        obtain ⟨k, t, hkt, hk⟩ : ∃ k t, (if wrapBig f ms then ((4 : Int), (⟨#[]⟩ : ByteArray)) else (0, R)) = (k, t) ∧ (k = 4 ∨ k = 0 ∧ t = R) := by
          by_cases hw : wrapBig f ms = true
          · exact ⟨4, ⟨#[]⟩, if_pos hw, .inl rfl⟩
          · exact ⟨0, R, if_neg hw, .inr ⟨rfl, rfl⟩⟩
        have HK := Lib.hid hk
        have E5 : topT S (f + 1) (wrapK 5 zzS ms) (ags ++ [⟨zzS, false, 0, 0, text⟩]) = (k, t) := (HW.out 5 (.inr rfl) ⟨zzS, false, 0, 0, text⟩ ⟨zz_ok, nofun⟩ rfl HNO.out).trans hkt
        have E4 : topT S (f + 1) (wrapK 4 zzS ms) (ags ++ [⟨zzS, true, dc, ds, ⟨#[]⟩⟩]) = (k, t) := (HW.out 4 (.inl rfl) ⟨zzS, true, dc, ds, ⟨#[]⟩⟩ ⟨zz_ok, fun _ => HD.out⟩ rfl HNO.out).trans hkt
        have HE4 := Lib.hid E4
        have K5 := KS2.out w9 HB9.out _ 5 A9 c9 _ HN9.out HIN9.out f1 f2 (by simp; omega) (fun a ha => by
          rcases List.mem_append.1 ha with h | h
          · exact HZ.out a h
          · obtain rfl := List.mem_singleton.1 h
            exact ⟨zz_sz, htx⟩)
        rw [E5, List.length_append] at K5
        have HK5 := Lib.hid K5
        clear hkt hk E4 E5 K5 f1 f2 f3 HIN9 HN9
        refine HK5.out.mono ?_
        rintro e w10 ⟨rfl, hb10⟩
        have HB10 := Lib.hid (HB9.out.trans (hb10.mono HB9.out.size))
        have HB410 := Lib.hid (HB49.out.trans (hb10.mono HB49.out.size))
        replace d0 := carry HB410.out d0
        replace d1 := carry HB410.out d1
        have HC := Lib.hid (⟨carry (HB59.out.trans (hb10.mono HB59.out.size)) HCS.out.1, carry (HB59.out.trans (hb10.mono HB59.out.size)) HCS.out.2⟩ : w10.cell? ⟨w4.heap.size, 0, none⟩ = some (.string otherS) ∧ w10.cell? ⟨w4.heap.size, 1, none⟩ = some (.slice Am ms.length cm))
        have HLT10 : Hid (w.heap.size < w10.heap.size) := Lib.hid (lt_of_cell d0)
        clear hb10 HK5 HB57 HB79 HO7 HB6 HO6 HN5 HB45 HB56 HW5 HAI L5 L6 HCS HB59 HB49 HB9 HB410
        go_upto_region 9 with fail
        refine wp_region_held_drew (S := S9 w w10 dc ds) (by kernel_rfl) ?_ (fun hHeld => ?_)
        · exact ⟨by go_simp, by go_simp, Lib.hid (Below.refl _ _).drew, HLT10⟩
        refine wpAnyH_take (i := 0) (v := ?v1) rfl (by kernel_rfl) (by kernel_rfl) (by kernel_rfl) (fun _ _ _ h => h) (Or.inl ⟨rfl, ?hy1⟩) hHeld ?rest1
        case hy1 => (intro w hSw; have hs0 := hSw.1; have hs1 := hSw.2.1; clear hSw; go_simp; try with_reducible rfl)
        try simp only [Act.put, List.setIfInBounds_toArray, List.set_cons_zero, List.set_cons_succ, List.getElem_toArray, List.getElem_cons_zero, List.getElem_cons_succ]
        refine wpAnyH_take (i := 1) (v := ?v2) rfl (by kernel_rfl) (by kernel_rfl) (by kernel_rfl) (fun _ _ _ h => h) (Or.inl ⟨rfl, ?hy2⟩) hHeld ?rest2
        case hy2 => (intro w hSw; have hs0 := hSw.1; have hs1 := hSw.2.1; clear hSw; go_simp; try with_reducible rfl)
        try simp only [Act.put, List.setIfInBounds_toArray, List.set_cons_zero, List.set_cons_succ, List.getElem_toArray, List.getElem_cons_zero, List.getElem_cons_succ]
        refine wpAnyH_take (i := 3) (v := ?v3) rfl (by kernel_rfl) (by kernel_rfl) (by kernel_rfl) (fun _ _ _ h => h) (Or.inl ⟨rfl, ?hy3⟩) hHeld ?rest3
        case hy3 => (intro w hSw; have hs0 := hSw.1; have hs1 := hSw.2.1; clear hSw; go_simp; try with_reducible rfl)
        try simp only [Act.put, List.setIfInBounds_toArray, List.set_cons_zero, List.set_cons_succ, List.getElem_toArray, List.getElem_cons_zero, List.getElem_cons_succ]
        refine wpAnyH_take (i := 5) (v := ?v4) rfl (by kernel_rfl) (by kernel_rfl) (by kernel_rfl) (fun _ _ _ h => h) (Or.inl ⟨rfl, ?hy4⟩) hHeld ?rest4
        case hy4 => (intro w hSw; have hs0 := hSw.1; have hs1 := hSw.2.1; clear hSw; go_simp; try with_reducible rfl)
        try simp only [Act.put, List.setIfInBounds_toArray, List.set_cons_zero, List.set_cons_succ, List.getElem_toArray, List.getElem_cons_zero, List.getElem_cons_succ]
        refine wpAnyH_take (i := 7) (v := ?v5) rfl (by kernel_rfl) (by kernel_rfl) (by kernel_rfl) (fun _ _ _ h => h) (Or.inl ⟨rfl, ?hy5⟩) hHeld ?rest5
        case hy5 => (intro w hSw; have hs0 := hSw.1; have hs1 := hSw.2.1; clear hSw; go_simp; try with_reducible rfl)
        try simp only [Act.put, List.setIfInBounds_toArray, List.set_cons_zero, List.set_cons_succ, List.getElem_toArray, List.getElem_cons_zero, List.getElem_cons_succ]
        refine wpAnyH_take (i := 8) (v := ?v6) rfl (by kernel_rfl) (by kernel_rfl) (by kernel_rfl) (fun _ _ _ h => h) (Or.inl ⟨rfl, ?hy6⟩) hHeld ?rest6
        case hy6 => (intro w hSw; have hs0 := hSw.1; have hs1 := hSw.2.1; clear hSw; go_simp; try with_reducible rfl)
        try simp only [Act.put, List.setIfInBounds_toArray, List.set_cons_zero, List.set_cons_succ, List.getElem_toArray, List.getElem_cons_zero, List.getElem_cons_succ]
        have HS := Lib.hid hHeld
        generalize w10.drew = x0 at *
        refine wpAnyH_ready (rs := [2, 4, 9]) (by kernel_rfl) (by simp) (AllReadyH.cons rfl (fun K hK => ?_) (AllReadyH.cons rfl (fun K hK => ?_) (AllReadyH.cons rfl (fun K hK => ?_) (AllReadyH.nil))))
        · -- [] then 2
          clear hHeld
          obtain ⟨g7, hg7⟩ : ∃ g, g = x0.heap.size := ⟨_, rfl⟩
          obtain ⟨x7, hx7⟩ : ∃ W1, W1 = x0.alloc (.cells #[.int .i64 4, .string ⟨#[122, 122, 95, 122, 122, 95, 122, 122]⟩, .int .i64 0, .slice (some ⟨w4.heap.size, 0, none⟩) 1 1] 30) := ⟨_, rfl⟩
          have hst : Below x0.heap.size x0 x7 := by rw [hx7]; exact bell _ _
          have HM : Hid (NodeBlk x7 g7 4 w4.heap.size) := Lib.hid (by rw [hx7, hg7]; exact NodeBlk.new x0 4 w4.heap.size)
          have hNew := S9.step HS.out hst HS.out.2.2.1.out.size
          go_simp
          rw [← hx7, ← hg7]
          refine hK.out _ _ hNew (fun _ => ?_)
          clear hx7 hst hg7
          clear hK K
          have hHeld := hNew
          have HS := Lib.hid hNew
          clear hNew
          try simp only [Act.put, List.setIfInBounds_toArray, List.set_cons_zero, List.set_cons_succ, List.getElem_toArray, List.getElem_cons_zero, List.getElem_cons_succ]
          refine wpAnyH_ready (rs := [4, 9]) (by kernel_rfl) (by simp) (AllReadyH.cons rfl (fun K hK => ?_) (AllReadyH.cons rfl (fun K hK => ?_) (AllReadyH.nil)))
          · -- [2] then 4
            clear hHeld
            obtain ⟨g8, hg8⟩ : ∃ g, g = x7.heap.size := ⟨_, rfl⟩
            have HE : Hid (w10.heap.size ≤ g8) := Lib.hid (by rw [hg8]; exact HS.out.2.2.1.out.size)
            obtain ⟨x8, hx8⟩ : ∃ W1, W1 = x7.alloc (.cells #[] 53) := ⟨_, rfl⟩
            have hst : Below x7.heap.size x7 x8 := by rw [hx8]; exact bell _ _
            replace HM := Lib.hid (HM.out.below hst)
            have HL : Hid (LitAt x8 g8) := Lib.hid (by rw [hx8, hg8]; exact LitAt.new x7)
            have hNew := S9.step HS.out hst HS.out.2.2.1.out.size
            go_simp
            rw [← hx8, ← hg8]
            refine hK.out _ _ hNew (fun _ => ?_)
            clear hx8 hst hg8
            clear hK K
            have hHeld := hNew
            have HS := Lib.hid hNew
            clear hNew
            try simp only [Act.put, List.setIfInBounds_toArray, List.set_cons_zero, List.set_cons_succ, List.getElem_toArray, List.getElem_cons_zero, List.getElem_cons_succ]
            refine wpAnyH_ready (rs := [6, 9]) (by kernel_rfl) (by simp) (AllReadyH.cons rfl (fun K hK => ?_) (AllReadyH.cons rfl (fun K hK => ?_) (AllReadyH.nil)))
            · -- [2, 4] then 6
              clear hHeld
              apply step_append_manyG (k := kArg) (base := g8) (s := .tmp 81) (x := .tmp 82) (ys := ags) (hown := HL.out.2) (hy := (HA.out.below (HB10.out.trans (HS.out.2.2.1.out.mono HB10.out.size))).lies) (hA := HA0.out) (hb := Nat.le_of_lt HL.out.1) (hn := L1.out) (hn2 := L4.out)
              any_goals rfl
              intro v' x9 ho hoff
              rw [List.nil_append] at ho
              have hst := HL.out.2.grown hoff (Nat.le_of_lt HL.out.1)
              have hNew := S9.step HS.out hst HE.out
              replace HM := Lib.hid (HM.out.off hoff (HM.out.1.not HL.out.2 (by decide)))
              have HV : Hid (RowAt x9 g8 v' ags) := Lib.hid ⟨Nat.le_trans (Nat.le_of_lt HL.out.1) hst.size, ho⟩
              obtain ⟨A9, c9, rfl, _⟩ := ho.form
              refine hK.out _ _ hNew (fun _ => ?_)
              clear ho hoff hst HL
              clear hK K
              have hHeld := hNew
              have HS := Lib.hid hNew
              clear hNew
              try simp only [Act.put, List.setIfInBounds_toArray, List.set_cons_zero, List.set_cons_succ, List.getElem_toArray, List.getElem_cons_zero, List.getElem_cons_succ]
              refine wpAnyH_ready (rs := [9]) (by kernel_rfl) (by simp) (AllReadyH.cons rfl (fun K hK => ?_) (AllReadyH.nil))
              · -- [2, 4, 6] then 9
                clear hHeld
                obtain ⟨g10, hg10⟩ : ∃ g, g = x9.heap.size := ⟨_, rfl⟩
                obtain ⟨x10, hx10⟩ : ∃ W1, W1 = x9.alloc (.cells #[.string ⟨#[122, 122, 95, 122, 122, 95, 122, 122]⟩, .bool true, .int .i64 dc, .int .i64 ds, .string ⟨#[]⟩] 53) := ⟨_, rfl⟩
                have hst : Below x9.heap.size x9 x10 := by rw [hx10]; exact bell _ _
                replace HM := Lib.hid (HM.out.below hst)
                replace HV := Lib.hid (HV.out.below hst)
                have HG : Hid (ArgBlk x10 g10 ⟨zzS, true, dc, ds, ⟨#[]⟩⟩) := Lib.hid (by rw [hx10, hg10]; exact ArgBlk.new x9 ⟨zzS, true, dc, ds, ⟨#[]⟩⟩)
                have hNew := S9.step HS.out hst HS.out.2.2.1.out.size
                go_simp
                rw [← hx10, ← hg10]
                refine hK.out _ _ hNew (fun _ => ?_)
                clear hx10 hst hg10
                clear hK K
                have hHeld := hNew
                have HS := Lib.hid hNew
                clear hNew
                try simp only [Act.put, List.setIfInBounds_toArray, List.set_cons_zero, List.set_cons_succ, List.getElem_toArray, List.getElem_cons_zero, List.getElem_cons_succ]
                refine wpAnyH_ready (rs := [10]) (by kernel_rfl) (by simp) (AllReadyH.cons rfl (fun K hK => ?_) (AllReadyH.nil))
                · -- [2, 4, 6, 9] then 10
                  clear hHeld
                  apply step_append_gB (k := kArg) (base := g8) (s := .tmp 83) (x := .tmp 86) (t := ⟨zzS, true, dc, ds, ⟨#[]⟩⟩) (hown := HV.out.2) (hc := HG.out.2) (hb := HV.out.1) (hn := L2.out) (hn2 := L3.out)
                  any_goals rfl
                  intro v' x11 ho hoff hfr
                  have hst := HV.out.2.grown hoff HV.out.1
                  have hNew := S9.step HS.out hst HE.out
                  replace HM := Lib.hid (HM.out.off hoff (HM.out.1.not HV.out.2 (by decide)))
                  obtain ⟨A11, c11, rfl, f1, f2, f3, hin⟩ := args_of ho
                  have HR : Hid (ArgsIn x11 A11 (ags ++ [⟨zzS, true, dc, ds, ⟨#[]⟩⟩])) := Lib.hid hin
                  have F1 := Lib.hid f1
                  have F2 := Lib.hid f2
                  refine hK.out _ _ hNew (fun _ => ?_)
                  clear ho hoff hst hfr HV HG hin f1 f2 f3
                  clear hK K
                  have hHeld := hNew
                  have HS := Lib.hid hNew
                  clear hNew
                  try simp only [Act.put, List.setIfInBounds_toArray, List.set_cons_zero, List.set_cons_succ, List.getElem_toArray, List.getElem_cons_zero, List.getElem_cons_succ]
                  refine wpAnyH_ready (rs := [11]) (by kernel_rfl) (by simp) (AllReadyH.cons rfl (fun K hK => ?_) (AllReadyH.nil))
                  · -- [2, 4, 6, 9, 10] then 11
                    clear hHeld
                    have HB11 := Lib.hid (HB10.out.trans (HS.out.2.2.1.out.mono HB10.out.size))
                    have K4 := KS2.out x11 HB11.out _ 4 A11 c11 _ (node_in HM.out (carry HS.out.2.2.1.out HC.out.1) (carry HS.out.2.2.1.out HC.out.2) (NodesIn.below HB11.out f HN.out)) HR.out F1.out F2.out (by simp; omega) (fun a ha => by
                      rcases List.mem_append.1 ha with h | h
                      · exact HZ.out a h
                      · obtain rfl := List.mem_singleton.1 h
                        exact ⟨zz_sz, Nat.zero_le _⟩)
                    rw [HE4.out, List.length_append] at K4
                    go_simp
                    go_at_call 16
                    refine K4.mono ?_
                    rintro e x12 ⟨rfl, hst⟩
                    have hNew := S9.step HS.out hst HS.out.2.2.1.out.size
                    try dsimp only
                    refine hK.out _ _ hNew (fun _ => ?_)
                    have HB12 := Lib.hid (HB10.out.trans (hNew.2.2.1.out.mono HB10.out.size))
                    have hNew2 := hNew
                    clear hK K hNew hst K4
                    try simp only [Act.put, List.setIfInBounds_toArray, List.set_cons_zero, List.set_cons_succ, List.getElem_toArray, List.getElem_cons_zero, List.getElem_cons_succ]
                    have hHeld := hNew2
                    refine wpAnyH_take (i := 12) (v := ?v13) rfl (by kernel_rfl) (by kernel_rfl) (by kernel_rfl) (fun _ _ _ h => h) (Or.inl ⟨rfl, ?hy13⟩) hHeld ?rest13
                    case hy13 => (intro w hSw; clear hSw; go_simp; try with_reducible rfl)
                    try simp only [Act.put, List.setIfInBounds_toArray, List.set_cons_zero, List.set_cons_succ, List.getElem_toArray, List.getElem_cons_zero, List.getElem_cons_succ]
                    refine wpAnyH_take (i := 13) (v := ?v14) rfl (by kernel_rfl) (by kernel_rfl) (by kernel_rfl) (fun _ _ _ h => h) (Or.inl ⟨rfl, ?hy14⟩) hHeld ?rest14
                    case hy14 => (intro w hSw; clear hSw; go_simp; try with_reducible rfl)
                    try simp only [Act.put, List.setIfInBounds_toArray, List.set_cons_zero, List.set_cons_succ, List.getElem_toArray, List.getElem_cons_zero, List.getElem_cons_succ]
                    refine wpAnyH_take (i := 14) (v := ?v15) rfl (by kernel_rfl) (by kernel_rfl) (by kernel_rfl) (fun _ _ _ h => h) (Or.inl ⟨rfl, ?hy15⟩) hHeld ?rest15
                    case hy15 => (intro w hSw; clear hSw; go_simp; try with_reducible rfl)
                    try simp only [Act.put, List.setIfInBounds_toArray, List.set_cons_zero, List.set_cons_succ, List.getElem_toArray, List.getElem_cons_zero, List.getElem_cons_succ]
                    refine wpAnyH_take (i := 15) (v := ?v16) rfl (by kernel_rfl) (by kernel_rfl) (by kernel_rfl) (fun _ _ _ h => h) (Or.inl ⟨rfl, ?hy16⟩) hHeld ?rest16
                    case hy16 => (intro w hSw; clear hSw; go_simp; try with_reducible rfl)
                    try simp only [Act.put, List.setIfInBounds_toArray, List.set_cons_zero, List.set_cons_succ, List.getElem_toArray, List.getElem_cons_zero, List.getElem_cons_succ]
                    refine wpAnyH_take (i := 16) (v := ?v17) rfl (by kernel_rfl) (by kernel_rfl) (by kernel_rfl) (fun _ _ _ h => h) (Or.inl ⟨rfl, ?hy17⟩) hHeld ?rest17
                    case hy17 => (intro w hSw; clear hSw; go_simp; try with_reducible rfl)
                    try simp only [Act.put, List.setIfInBounds_toArray, List.set_cons_zero, List.set_cons_succ, List.getElem_toArray, List.getElem_cons_zero, List.getElem_cons_succ]
                    refine wpAnyH_done (by kernel_rfl) ?_ _
                    try dsimp only
                    rcases HK.out with rfl | ⟨rfl, rfl⟩
                    · go_wp2_with fail
                      refine (same_err 4 4 x12 (HT.out.below HB12.out)).mono ?_
                      rintro e w13 ⟨rfl, hb13⟩
                      have HB13 := Lib.hid (HB12.out.trans (hb13.mono HB12.out.size))
                      clear hb13
                      go_wp2_with fail
                      refine (told_same 4 4 w13 (HT.out.below HB13.out)).mono ?_
                      rintro e w14 ⟨rfl, hb14⟩
                      have HB14 := Lib.hid (HB13.out.trans (hb14.mono HB13.out.size))
                      clear hb14
                      go_wp2_with fail
                      go_ret
                      exact ⟨rfl, HB14.out⟩
                    · rw [show errOf 0 = Value.nilIface from rfl]
                      go_wp2_with fail
                      refine (same_err 0 4 x12 (HT.out.below HB12.out)).mono ?_
                      rintro e w13 ⟨rfl, hb13⟩
                      have HB13 := Lib.hid (HB12.out.trans (hb13.mono HB12.out.size))
                      clear hb13
                      go_wp2_with fail
                      refine (told_same 0 0 w13 (HT.out.below HB13.out)).mono ?_
                      rintro e w14 ⟨rfl, hb14⟩
                      have HB14 := Lib.hid (HB13.out.trans (hb14.mono HB13.out.size))
                      clear hb14
                      go_wp2_with fail
                      go_ret
                      exact ⟨rfl, HB14.out⟩
            · -- [2, 4] then 9
              clear hHeld
              obtain ⟨g18, hg18⟩ : ∃ g, g = x8.heap.size := ⟨_, rfl⟩
              have HNE : Hid (g18 ≠ g8) := Lib.hid (by rw [hg18]; exact Nat.ne_of_gt HL.out.1)
              obtain ⟨x18, hx18⟩ : ∃ W1, W1 = x8.alloc (.cells #[.string ⟨#[122, 122, 95, 122, 122, 95, 122, 122]⟩, .bool true, .int .i64 dc, .int .i64 ds, .string ⟨#[]⟩] 53) := ⟨_, rfl⟩
              have hst : Below x8.heap.size x8 x18 := by rw [hx18]; exact bell _ _
              replace HM := Lib.hid (HM.out.below hst)
              replace HL := Lib.hid (HL.out.below hst)
              have HG : Hid (ArgBlk x18 g18 ⟨zzS, true, dc, ds, ⟨#[]⟩⟩) := Lib.hid (by rw [hx18, hg18]; exact ArgBlk.new x8 ⟨zzS, true, dc, ds, ⟨#[]⟩⟩)
              have hNew := S9.step HS.out hst HS.out.2.2.1.out.size
              go_simp
              rw [← hx18, ← hg18]
              refine hK.out _ _ hNew (fun _ => ?_)
              clear hx18 hst hg18
              clear hK K
              have hHeld := hNew
              have HS := Lib.hid hNew
              clear hNew
              try simp only [Act.put, List.setIfInBounds_toArray, List.set_cons_zero, List.set_cons_succ, List.getElem_toArray, List.getElem_cons_zero, List.getElem_cons_succ]
              refine wpAnyH_ready (rs := [6]) (by kernel_rfl) (by simp) (AllReadyH.cons rfl (fun K hK => ?_) (AllReadyH.nil))
              · -- [2, 4, 9] then 6
                clear hHeld
                apply step_append_manyG (k := kArg) (base := g8) (s := .tmp 81) (x := .tmp 82) (ys := ags) (hown := HL.out.2) (hy := (HA.out.below (HB10.out.trans (HS.out.2.2.1.out.mono HB10.out.size))).lies) (hA := HA0.out) (hb := Nat.le_of_lt HL.out.1) (hn := L1.out) (hn2 := L4.out)
                any_goals rfl
                intro v' x19 ho hoff
                rw [List.nil_append] at ho
                have hst := HL.out.2.grown hoff (Nat.le_of_lt HL.out.1)
                have hNew := S9.step HS.out hst HE.out
                replace HM := Lib.hid (HM.out.off hoff (HM.out.1.not HL.out.2 (by decide)))
                replace HG := Lib.hid (HG.out.off hoff (by simpa [Value.ownBlock] using HNE.out))
                have HV : Hid (RowAt x19 g8 v' ags) := Lib.hid ⟨Nat.le_trans (Nat.le_of_lt HL.out.1) hst.size, ho⟩
                clear HNE
                obtain ⟨A19, c19, rfl, _⟩ := ho.form
                refine hK.out _ _ hNew (fun _ => ?_)
                clear ho hoff hst HL
                clear hK K
                have hHeld := hNew
                have HS := Lib.hid hNew
                clear hNew
                try simp only [Act.put, List.setIfInBounds_toArray, List.set_cons_zero, List.set_cons_succ, List.getElem_toArray, List.getElem_cons_zero, List.getElem_cons_succ]
                refine wpAnyH_ready (rs := [10]) (by kernel_rfl) (by simp) (AllReadyH.cons rfl (fun K hK => ?_) (AllReadyH.nil))
                · -- [2, 4, 6, 9] then 10
                  clear hHeld
                  apply step_append_gB (k := kArg) (base := g8) (s := .tmp 83) (x := .tmp 86) (t := ⟨zzS, true, dc, ds, ⟨#[]⟩⟩) (hown := HV.out.2) (hc := HG.out.2) (hb := HV.out.1) (hn := L2.out) (hn2 := L3.out)
                  any_goals rfl
                  intro v' x20 ho hoff hfr
                  have hst := HV.out.2.grown hoff HV.out.1
                  have hNew := S9.step HS.out hst HE.out
                  replace HM := Lib.hid (HM.out.off hoff (HM.out.1.not HV.out.2 (by decide)))
                  obtain ⟨A20, c20, rfl, f1, f2, f3, hin⟩ := args_of ho
                  have HR : Hid (ArgsIn x20 A20 (ags ++ [⟨zzS, true, dc, ds, ⟨#[]⟩⟩])) := Lib.hid hin
                  have F1 := Lib.hid f1
                  have F2 := Lib.hid f2
                  refine hK.out _ _ hNew (fun _ => ?_)
                  clear ho hoff hst hfr HV HG hin f1 f2 f3
                  clear hK K
                  have hHeld := hNew
                  have HS := Lib.hid hNew
                  clear hNew
                  try simp only [Act.put, List.setIfInBounds_toArray, List.set_cons_zero, List.set_cons_succ, List.getElem_toArray, List.getElem_cons_zero, List.getElem_cons_succ]
                  refine wpAnyH_ready (rs := [11]) (by kernel_rfl) (by simp) (AllReadyH.cons rfl (fun K hK => ?_) (AllReadyH.nil))
                  · -- [2, 4, 6, 9, 10] then 11
                    clear hHeld
                    have HB11 := Lib.hid (HB10.out.trans (HS.out.2.2.1.out.mono HB10.out.size))
                    have K4 := KS2.out x20 HB11.out _ 4 A20 c20 _ (node_in HM.out (carry HS.out.2.2.1.out HC.out.1) (carry HS.out.2.2.1.out HC.out.2) (NodesIn.below HB11.out f HN.out)) HR.out F1.out F2.out (by simp; omega) (fun a ha => by
                      rcases List.mem_append.1 ha with h | h
                      · exact HZ.out a h
                      · obtain rfl := List.mem_singleton.1 h
                        exact ⟨zz_sz, Nat.zero_le _⟩)
                    rw [HE4.out, List.length_append] at K4
                    go_simp
                    go_at_call 16
                    refine K4.mono ?_
                    rintro e x21 ⟨rfl, hst⟩
                    have hNew := S9.step HS.out hst HS.out.2.2.1.out.size
                    try dsimp only
                    refine hK.out _ _ hNew (fun _ => ?_)
                    have HB12 := Lib.hid (HB10.out.trans (hNew.2.2.1.out.mono HB10.out.size))
                    have hNew2 := hNew
                    clear hK K hNew hst K4
                    try simp only [Act.put, List.setIfInBounds_toArray, List.set_cons_zero, List.set_cons_succ, List.getElem_toArray, List.getElem_cons_zero, List.getElem_cons_succ]
                    have hHeld := hNew2
                    refine wpAnyH_take (i := 12) (v := ?v22) rfl (by kernel_rfl) (by kernel_rfl) (by kernel_rfl) (fun _ _ _ h => h) (Or.inl ⟨rfl, ?hy22⟩) hHeld ?rest22
                    case hy22 => (intro w hSw; clear hSw; go_simp; try with_reducible rfl)
                    try simp only [Act.put, List.setIfInBounds_toArray, List.set_cons_zero, List.set_cons_succ, List.getElem_toArray, List.getElem_cons_zero, List.getElem_cons_succ]
                    refine wpAnyH_take (i := 13) (v := ?v23) rfl (by kernel_rfl) (by kernel_rfl) (by kernel_rfl) (fun _ _ _ h => h) (Or.inl ⟨rfl, ?hy23⟩) hHeld ?rest23
                    case hy23 => (intro w hSw; clear hSw; go_simp; try with_reducible rfl)
                    try simp only [Act.put, List.setIfInBounds_toArray, List.set_cons_zero, List.set_cons_succ, List.getElem_toArray, List.getElem_cons_zero, List.getElem_cons_succ]
                    refine wpAnyH_take (i := 14) (v := ?v24) rfl (by kernel_rfl) (by kernel_rfl) (by kernel_rfl) (fun _ _ _ h => h) (Or.inl ⟨rfl, ?hy24⟩) hHeld ?rest24
                    case hy24 => (intro w hSw; clear hSw; go_simp; try with_reducible rfl)
                    try simp only [Act.put, List.setIfInBounds_toArray, List.set_cons_zero, List.set_cons_succ, List.getElem_toArray, List.getElem_cons_zero, List.getElem_cons_succ]
                    refine wpAnyH_take (i := 15) (v := ?v25) rfl (by kernel_rfl) (by kernel_rfl) (by kernel_rfl) (fun _ _ _ h => h) (Or.inl ⟨rfl, ?hy25⟩) hHeld ?rest25
                    case hy25 => (intro w hSw; clear hSw; go_simp; try with_reducible rfl)
                    try simp only [Act.put, List.setIfInBounds_toArray, List.set_cons_zero, List.set_cons_succ, List.getElem_toArray, List.getElem_cons_zero, List.getElem_cons_succ]
                    refine wpAnyH_take (i := 16) (v := ?v26) rfl (by kernel_rfl) (by kernel_rfl) (by kernel_rfl) (fun _ _ _ h => h) (Or.inl ⟨rfl, ?hy26⟩) hHeld ?rest26
                    case hy26 => (intro w hSw; clear hSw; go_simp; try with_reducible rfl)
                    try simp only [Act.put, List.setIfInBounds_toArray, List.set_cons_zero, List.set_cons_succ, List.getElem_toArray, List.getElem_cons_zero, List.getElem_cons_succ]
                    refine wpAnyH_done (by kernel_rfl) ?_ _
                    try dsimp only
                    rcases HK.out with rfl | ⟨rfl, rfl⟩
                    · go_wp2_with fail
                      refine (same_err 4 4 x21 (HT.out.below HB12.out)).mono ?_
                      rintro e w13 ⟨rfl, hb13⟩
                      have HB13 := Lib.hid (HB12.out.trans (hb13.mono HB12.out.size))
                      clear hb13
                      go_wp2_with fail
                      refine (told_same 4 4 w13 (HT.out.below HB13.out)).mono ?_
                      rintro e w14 ⟨rfl, hb14⟩
                      have HB14 := Lib.hid (HB13.out.trans (hb14.mono HB13.out.size))
                      clear hb14
                      go_wp2_with fail
                      go_ret
                      exact ⟨rfl, HB14.out⟩
                    · rw [show errOf 0 = Value.nilIface from rfl]
                      go_wp2_with fail
                      refine (same_err 0 4 x21 (HT.out.below HB12.out)).mono ?_
                      rintro e w13 ⟨rfl, hb13⟩
                      have HB13 := Lib.hid (HB12.out.trans (hb13.mono HB12.out.size))
                      clear hb13
                      go_wp2_with fail
                      refine (told_same 0 0 w13 (HT.out.below HB13.out)).mono ?_
                      rintro e w14 ⟨rfl, hb14⟩
                      have HB14 := Lib.hid (HB13.out.trans (hb14.mono HB13.out.size))
                      clear hb14
                      go_wp2_with fail
                      go_ret
                      exact ⟨rfl, HB14.out⟩
          · -- [2] then 9
            clear hHeld
            obtain ⟨g27, hg27⟩ : ∃ g, g = x7.heap.size := ⟨_, rfl⟩
            obtain ⟨x27, hx27⟩ : ∃ W1, W1 = x7.alloc (.cells #[.string ⟨#[122, 122, 95, 122, 122, 95, 122, 122]⟩, .bool true, .int .i64 dc, .int .i64 ds, .string ⟨#[]⟩] 53) := ⟨_, rfl⟩
            have hst : Below x7.heap.size x7 x27 := by rw [hx27]; exact bell _ _
            replace HM := Lib.hid (HM.out.below hst)
            have HG : Hid (ArgBlk x27 g27 ⟨zzS, true, dc, ds, ⟨#[]⟩⟩) := Lib.hid (by rw [hx27, hg27]; exact ArgBlk.new x7 ⟨zzS, true, dc, ds, ⟨#[]⟩⟩)
            have hNew := S9.step HS.out hst HS.out.2.2.1.out.size
            go_simp
            rw [← hx27, ← hg27]
            refine hK.out _ _ hNew (fun _ => ?_)
            clear hx27 hst hg27
            clear hK K
            have hHeld := hNew
            have HS := Lib.hid hNew
            clear hNew
            try simp only [Act.put, List.setIfInBounds_toArray, List.set_cons_zero, List.set_cons_succ, List.getElem_toArray, List.getElem_cons_zero, List.getElem_cons_succ]
            refine wpAnyH_ready (rs := [4]) (by kernel_rfl) (by simp) (AllReadyH.cons rfl (fun K hK => ?_) (AllReadyH.nil))
            · -- [2, 9] then 4
              clear hHeld
              obtain ⟨g28, hg28⟩ : ∃ g, g = x27.heap.size := ⟨_, rfl⟩
              have HNE : Hid (g27 ≠ g28) := Lib.hid (by rw [hg28]; exact Nat.ne_of_lt HG.out.1)
              have HE : Hid (w10.heap.size ≤ g28) := Lib.hid (by rw [hg28]; exact HS.out.2.2.1.out.size)
              obtain ⟨x28, hx28⟩ : ∃ W1, W1 = x27.alloc (.cells #[] 53) := ⟨_, rfl⟩
              have hst : Below x27.heap.size x27 x28 := by rw [hx28]; exact bell _ _
              replace HM := Lib.hid (HM.out.below hst)
              replace HG := Lib.hid (HG.out.below hst)
              have HL : Hid (LitAt x28 g28) := Lib.hid (by rw [hx28, hg28]; exact LitAt.new x27)
              have hNew := S9.step HS.out hst HS.out.2.2.1.out.size
              go_simp
              rw [← hx28, ← hg28]
              refine hK.out _ _ hNew (fun _ => ?_)
              clear hx28 hst hg28
              clear hK K
              have hHeld := hNew
              have HS := Lib.hid hNew
              clear hNew
              try simp only [Act.put, List.setIfInBounds_toArray, List.set_cons_zero, List.set_cons_succ, List.getElem_toArray, List.getElem_cons_zero, List.getElem_cons_succ]
              refine wpAnyH_ready (rs := [6]) (by kernel_rfl) (by simp) (AllReadyH.cons rfl (fun K hK => ?_) (AllReadyH.nil))
              · -- [2, 4, 9] then 6
                clear hHeld
                apply step_append_manyG (k := kArg) (base := g28) (s := .tmp 81) (x := .tmp 82) (ys := ags) (hown := HL.out.2) (hy := (HA.out.below (HB10.out.trans (HS.out.2.2.1.out.mono HB10.out.size))).lies) (hA := HA0.out) (hb := Nat.le_of_lt HL.out.1) (hn := L1.out) (hn2 := L4.out)
                any_goals rfl
                intro v' x29 ho hoff
                rw [List.nil_append] at ho
                have hst := HL.out.2.grown hoff (Nat.le_of_lt HL.out.1)
                have hNew := S9.step HS.out hst HE.out
                replace HM := Lib.hid (HM.out.off hoff (HM.out.1.not HL.out.2 (by decide)))
                replace HG := Lib.hid (HG.out.off hoff (by simpa [Value.ownBlock] using HNE.out))
                have HV : Hid (RowAt x29 g28 v' ags) := Lib.hid ⟨Nat.le_trans (Nat.le_of_lt HL.out.1) hst.size, ho⟩
                clear HNE
                obtain ⟨A29, c29, rfl, _⟩ := ho.form
                refine hK.out _ _ hNew (fun _ => ?_)
                clear ho hoff hst HL
                clear hK K
                have hHeld := hNew
                have HS := Lib.hid hNew
                clear hNew
                try simp only [Act.put, List.setIfInBounds_toArray, List.set_cons_zero, List.set_cons_succ, List.getElem_toArray, List.getElem_cons_zero, List.getElem_cons_succ]
                refine wpAnyH_ready (rs := [10]) (by kernel_rfl) (by simp) (AllReadyH.cons rfl (fun K hK => ?_) (AllReadyH.nil))
                · -- [2, 4, 6, 9] then 10
                  clear hHeld
                  apply step_append_gB (k := kArg) (base := g28) (s := .tmp 83) (x := .tmp 86) (t := ⟨zzS, true, dc, ds, ⟨#[]⟩⟩) (hown := HV.out.2) (hc := HG.out.2) (hb := HV.out.1) (hn := L2.out) (hn2 := L3.out)
                  any_goals rfl
                  intro v' x30 ho hoff hfr
                  have hst := HV.out.2.grown hoff HV.out.1
                  have hNew := S9.step HS.out hst HE.out
                  replace HM := Lib.hid (HM.out.off hoff (HM.out.1.not HV.out.2 (by decide)))
                  obtain ⟨A30, c30, rfl, f1, f2, f3, hin⟩ := args_of ho
                  have HR : Hid (ArgsIn x30 A30 (ags ++ [⟨zzS, true, dc, ds, ⟨#[]⟩⟩])) := Lib.hid hin
                  have F1 := Lib.hid f1
                  have F2 := Lib.hid f2
                  refine hK.out _ _ hNew (fun _ => ?_)
                  clear ho hoff hst hfr HV HG hin f1 f2 f3
                  clear hK K
                  have hHeld := hNew
                  have HS := Lib.hid hNew
                  clear hNew
                  try simp only [Act.put, List.setIfInBounds_toArray, List.set_cons_zero, List.set_cons_succ, List.getElem_toArray, List.getElem_cons_zero, List.getElem_cons_succ]
                  refine wpAnyH_ready (rs := [11]) (by kernel_rfl) (by simp) (AllReadyH.cons rfl (fun K hK => ?_) (AllReadyH.nil))
                  · -- [2, 4, 6, 9, 10] then 11
                    clear hHeld
                    have HB11 := Lib.hid (HB10.out.trans (HS.out.2.2.1.out.mono HB10.out.size))
                    have K4 := KS2.out x30 HB11.out _ 4 A30 c30 _ (node_in HM.out (carry HS.out.2.2.1.out HC.out.1) (carry HS.out.2.2.1.out HC.out.2) (NodesIn.below HB11.out f HN.out)) HR.out F1.out F2.out (by simp; omega) (fun a ha => by
                      rcases List.mem_append.1 ha with h | h
                      · exact HZ.out a h
                      · obtain rfl := List.mem_singleton.1 h
                        exact ⟨zz_sz, Nat.zero_le _⟩)
                    rw [HE4.out, List.length_append] at K4
                    go_simp
                    go_at_call 16
                    refine K4.mono ?_
                    rintro e x31 ⟨rfl, hst⟩
                    have hNew := S9.step HS.out hst HS.out.2.2.1.out.size
                    try dsimp only
                    refine hK.out _ _ hNew (fun _ => ?_)
                    have HB12 := Lib.hid (HB10.out.trans (hNew.2.2.1.out.mono HB10.out.size))
                    have hNew2 := hNew
                    clear hK K hNew hst K4
                    try simp only [Act.put, List.setIfInBounds_toArray, List.set_cons_zero, List.set_cons_succ, List.getElem_toArray, List.getElem_cons_zero, List.getElem_cons_succ]
                    have hHeld := hNew2
                    refine wpAnyH_take (i := 12) (v := ?v32) rfl (by kernel_rfl) (by kernel_rfl) (by kernel_rfl) (fun _ _ _ h => h) (Or.inl ⟨rfl, ?hy32⟩) hHeld ?rest32
                    case hy32 => (intro w hSw; clear hSw; go_simp; try with_reducible rfl)
                    try simp only [Act.put, List.setIfInBounds_toArray, List.set_cons_zero, List.set_cons_succ, List.getElem_toArray, List.getElem_cons_zero, List.getElem_cons_succ]
                    refine wpAnyH_take (i := 13) (v := ?v33) rfl (by kernel_rfl) (by kernel_rfl) (by kernel_rfl) (fun _ _ _ h => h) (Or.inl ⟨rfl, ?hy33⟩) hHeld ?rest33
                    case hy33 => (intro w hSw; clear hSw; go_simp; try with_reducible rfl)
                    try simp only [Act.put, List.setIfInBounds_toArray, List.set_cons_zero, List.set_cons_succ, List.getElem_toArray, List.getElem_cons_zero, List.getElem_cons_succ]
                    refine wpAnyH_take (i := 14) (v := ?v34) rfl (by kernel_rfl) (by kernel_rfl) (by kernel_rfl) (fun _ _ _ h => h) (Or.inl ⟨rfl, ?hy34⟩) hHeld ?rest34
                    case hy34 => (intro w hSw; clear hSw; go_simp; try with_reducible rfl)
                    try simp only [Act.put, List.setIfInBounds_toArray, List.set_cons_zero, List.set_cons_succ, List.getElem_toArray, List.getElem_cons_zero, List.getElem_cons_succ]
                    refine wpAnyH_take (i := 15) (v := ?v35) rfl (by kernel_rfl) (by kernel_rfl) (by kernel_rfl) (fun _ _ _ h => h) (Or.inl ⟨rfl, ?hy35⟩) hHeld ?rest35
                    case hy35 => (intro w hSw; clear hSw; go_simp; try with_reducible rfl)
                    try simp only [Act.put, List.setIfInBounds_toArray, List.set_cons_zero, List.set_cons_succ, List.getElem_toArray, List.getElem_cons_zero, List.getElem_cons_succ]
                    refine wpAnyH_take (i := 16) (v := ?v36) rfl (by kernel_rfl) (by kernel_rfl) (by kernel_rfl) (fun _ _ _ h => h) (Or.inl ⟨rfl, ?hy36⟩) hHeld ?rest36
                    case hy36 => (intro w hSw; clear hSw; go_simp; try with_reducible rfl)
                    try simp only [Act.put, List.setIfInBounds_toArray, List.set_cons_zero, List.set_cons_succ, List.getElem_toArray, List.getElem_cons_zero, List.getElem_cons_succ]
                    refine wpAnyH_done (by kernel_rfl) ?_ _
                    try dsimp only
                    rcases HK.out with rfl | ⟨rfl, rfl⟩
                    · go_wp2_with fail
                      refine (same_err 4 4 x31 (HT.out.below HB12.out)).mono ?_
                      rintro e w13 ⟨rfl, hb13⟩
                      have HB13 := Lib.hid (HB12.out.trans (hb13.mono HB12.out.size))
                      clear hb13
                      go_wp2_with fail
                      refine (told_same 4 4 w13 (HT.out.below HB13.out)).mono ?_
                      rintro e w14 ⟨rfl, hb14⟩
                      have HB14 := Lib.hid (HB13.out.trans (hb14.mono HB13.out.size))
                      clear hb14
                      go_wp2_with fail
                      go_ret
                      exact ⟨rfl, HB14.out⟩
                    · rw [show errOf 0 = Value.nilIface from rfl]
                      go_wp2_with fail
                      refine (same_err 0 4 x31 (HT.out.below HB12.out)).mono ?_
                      rintro e w13 ⟨rfl, hb13⟩
                      have HB13 := Lib.hid (HB12.out.trans (hb13.mono HB12.out.size))
                      clear hb13
                      go_wp2_with fail
                      refine (told_same 0 0 w13 (HT.out.below HB13.out)).mono ?_
                      rintro e w14 ⟨rfl, hb14⟩
                      have HB14 := Lib.hid (HB13.out.trans (hb14.mono HB13.out.size))
                      clear hb14
                      go_wp2_with fail
                      go_ret
                      exact ⟨rfl, HB14.out⟩
        · -- [] then 4
          clear hHeld
          obtain ⟨g37, hg37⟩ : ∃ g, g = x0.heap.size := ⟨_, rfl⟩
          have HE : Hid (w10.heap.size ≤ g37) := Lib.hid (by rw [hg37]; exact HS.out.2.2.1.out.size)
          obtain ⟨x37, hx37⟩ : ∃ W1, W1 = x0.alloc (.cells #[] 53) := ⟨_, rfl⟩
          have hst : Below x0.heap.size x0 x37 := by rw [hx37]; exact bell _ _
          have HL : Hid (LitAt x37 g37) := Lib.hid (by rw [hx37, hg37]; exact LitAt.new x0)
          have hNew := S9.step HS.out hst HS.out.2.2.1.out.size
          go_simp
          rw [← hx37, ← hg37]
          refine hK.out _ _ hNew (fun _ => ?_)
          clear hx37 hst hg37
          clear hK K
          have hHeld := hNew
          have HS := Lib.hid hNew
          clear hNew
          try simp only [Act.put, List.setIfInBounds_toArray, List.set_cons_zero, List.set_cons_succ, List.getElem_toArray, List.getElem_cons_zero, List.getElem_cons_succ]
          refine wpAnyH_ready (rs := [2, 6, 9]) (by kernel_rfl) (by simp) (AllReadyH.cons rfl (fun K hK => ?_) (AllReadyH.cons rfl (fun K hK => ?_) (AllReadyH.cons rfl (fun K hK => ?_) (AllReadyH.nil))))
          · -- [4] then 2
            clear hHeld
            obtain ⟨g38, hg38⟩ : ∃ g, g = x37.heap.size := ⟨_, rfl⟩
            obtain ⟨x38, hx38⟩ : ∃ W1, W1 = x37.alloc (.cells #[.int .i64 4, .string ⟨#[122, 122, 95, 122, 122, 95, 122, 122]⟩, .int .i64 0, .slice (some ⟨w4.heap.size, 0, none⟩) 1 1] 30) := ⟨_, rfl⟩
            have hst : Below x37.heap.size x37 x38 := by rw [hx38]; exact bell _ _
            replace HL := Lib.hid (HL.out.below hst)
            have HM : Hid (NodeBlk x38 g38 4 w4.heap.size) := Lib.hid (by rw [hx38, hg38]; exact NodeBlk.new x37 4 w4.heap.size)
            have hNew := S9.step HS.out hst HS.out.2.2.1.out.size
            go_simp
            rw [← hx38, ← hg38]
            refine hK.out _ _ hNew (fun _ => ?_)
            clear hx38 hst hg38
            clear hK K
            have hHeld := hNew
            have HS := Lib.hid hNew
            clear hNew
            try simp only [Act.put, List.setIfInBounds_toArray, List.set_cons_zero, List.set_cons_succ, List.getElem_toArray, List.getElem_cons_zero, List.getElem_cons_succ]
            refine wpAnyH_ready (rs := [6, 9]) (by kernel_rfl) (by simp) (AllReadyH.cons rfl (fun K hK => ?_) (AllReadyH.cons rfl (fun K hK => ?_) (AllReadyH.nil)))
            · -- [2, 4] then 6
              clear hHeld
              apply step_append_manyG (k := kArg) (base := g37) (s := .tmp 81) (x := .tmp 82) (ys := ags) (hown := HL.out.2) (hy := (HA.out.below (HB10.out.trans (HS.out.2.2.1.out.mono HB10.out.size))).lies) (hA := HA0.out) (hb := Nat.le_of_lt HL.out.1) (hn := L1.out) (hn2 := L4.out)
              any_goals rfl
              intro v' x39 ho hoff
              rw [List.nil_append] at ho
              have hst := HL.out.2.grown hoff (Nat.le_of_lt HL.out.1)
              have hNew := S9.step HS.out hst HE.out
              replace HM := Lib.hid (HM.out.off hoff (HM.out.1.not HL.out.2 (by decide)))
              have HV : Hid (RowAt x39 g37 v' ags) := Lib.hid ⟨Nat.le_trans (Nat.le_of_lt HL.out.1) hst.size, ho⟩
              obtain ⟨A39, c39, rfl, _⟩ := ho.form
              refine hK.out _ _ hNew (fun _ => ?_)
              clear ho hoff hst HL
              clear hK K
              have hHeld := hNew
              have HS := Lib.hid hNew
              clear hNew
              try simp only [Act.put, List.setIfInBounds_toArray, List.set_cons_zero, List.set_cons_succ, List.getElem_toArray, List.getElem_cons_zero, List.getElem_cons_succ]
              refine wpAnyH_ready (rs := [9]) (by kernel_rfl) (by simp) (AllReadyH.cons rfl (fun K hK => ?_) (AllReadyH.nil))
              · -- [2, 4, 6] then 9
                clear hHeld
                obtain ⟨g40, hg40⟩ : ∃ g, g = x39.heap.size := ⟨_, rfl⟩
                obtain ⟨x40, hx40⟩ : ∃ W1, W1 = x39.alloc (.cells #[.string ⟨#[122, 122, 95, 122, 122, 95, 122, 122]⟩, .bool true, .int .i64 dc, .int .i64 ds, .string ⟨#[]⟩] 53) := ⟨_, rfl⟩
                have hst : Below x39.heap.size x39 x40 := by rw [hx40]; exact bell _ _
                replace HM := Lib.hid (HM.out.below hst)
                replace HV := Lib.hid (HV.out.below hst)
                have HG : Hid (ArgBlk x40 g40 ⟨zzS, true, dc, ds, ⟨#[]⟩⟩) := Lib.hid (by rw [hx40, hg40]; exact ArgBlk.new x39 ⟨zzS, true, dc, ds, ⟨#[]⟩⟩)
                have hNew := S9.step HS.out hst HS.out.2.2.1.out.size
                go_simp
                rw [← hx40, ← hg40]
                refine hK.out _ _ hNew (fun _ => ?_)
                clear hx40 hst hg40
                clear hK K
                have hHeld := hNew
                have HS := Lib.hid hNew
                clear hNew
                try simp only [Act.put, List.setIfInBounds_toArray, List.set_cons_zero, List.set_cons_succ, List.getElem_toArray, List.getElem_cons_zero, List.getElem_cons_succ]
                refine wpAnyH_ready (rs := [10]) (by kernel_rfl) (by simp) (AllReadyH.cons rfl (fun K hK => ?_) (AllReadyH.nil))
                · -- [2, 4, 6, 9] then 10
                  clear hHeld
                  apply step_append_gB (k := kArg) (base := g37) (s := .tmp 83) (x := .tmp 86) (t := ⟨zzS, true, dc, ds, ⟨#[]⟩⟩) (hown := HV.out.2) (hc := HG.out.2) (hb := HV.out.1) (hn := L2.out) (hn2 := L3.out)
                  any_goals rfl
                  intro v' x41 ho hoff hfr
                  have hst := HV.out.2.grown hoff HV.out.1
                  have hNew := S9.step HS.out hst HE.out
                  replace HM := Lib.hid (HM.out.off hoff (HM.out.1.not HV.out.2 (by decide)))
                  obtain ⟨A41, c41, rfl, f1, f2, f3, hin⟩ := args_of ho
                  have HR : Hid (ArgsIn x41 A41 (ags ++ [⟨zzS, true, dc, ds, ⟨#[]⟩⟩])) := Lib.hid hin
                  have F1 := Lib.hid f1
                  have F2 := Lib.hid f2
                  refine hK.out _ _ hNew (fun _ => ?_)
                  clear ho hoff hst hfr HV HG hin f1 f2 f3
                  clear hK K
                  have hHeld := hNew
                  have HS := Lib.hid hNew
                  clear hNew
                  try simp only [Act.put, List.setIfInBounds_toArray, List.set_cons_zero, List.set_cons_succ, List.getElem_toArray, List.getElem_cons_zero, List.getElem_cons_succ]
                  refine wpAnyH_ready (rs := [11]) (by kernel_rfl) (by simp) (AllReadyH.cons rfl (fun K hK => ?_) (AllReadyH.nil))
                  · -- [2, 4, 6, 9, 10] then 11
                    clear hHeld
                    have HB11 := Lib.hid (HB10.out.trans (HS.out.2.2.1.out.mono HB10.out.size))
                    have K4 := KS2.out x41 HB11.out _ 4 A41 c41 _ (node_in HM.out (carry HS.out.2.2.1.out HC.out.1) (carry HS.out.2.2.1.out HC.out.2) (NodesIn.below HB11.out f HN.out)) HR.out F1.out F2.out (by simp; omega) (fun a ha => by
                      rcases List.mem_append.1 ha with h | h
                      · exact HZ.out a h
                      · obtain rfl := List.mem_singleton.1 h
                        exact ⟨zz_sz, Nat.zero_le _⟩)
                    rw [HE4.out, List.length_append] at K4
                    go_simp
                    go_at_call 16
                    refine K4.mono ?_
                    rintro e x42 ⟨rfl, hst⟩
                    have hNew := S9.step HS.out hst HS.out.2.2.1.out.size
                    try dsimp only
                    refine hK.out _ _ hNew (fun _ => ?_)
                    have HB12 := Lib.hid (HB10.out.trans (hNew.2.2.1.out.mono HB10.out.size))
                    have hNew2 := hNew
                    clear hK K hNew hst K4
                    try simp only [Act.put, List.setIfInBounds_toArray, List.set_cons_zero, List.set_cons_succ, List.getElem_toArray, List.getElem_cons_zero, List.getElem_cons_succ]
                    have hHeld := hNew2
                    refine wpAnyH_take (i := 12) (v := ?v43) rfl (by kernel_rfl) (by kernel_rfl) (by kernel_rfl) (fun _ _ _ h => h) (Or.inl ⟨rfl, ?hy43⟩) hHeld ?rest43
                    case hy43 => (intro w hSw; clear hSw; go_simp; try with_reducible rfl)
                    try simp only [Act.put, List.setIfInBounds_toArray, List.set_cons_zero, List.set_cons_succ, List.getElem_toArray, List.getElem_cons_zero, List.getElem_cons_succ]
                    refine wpAnyH_take (i := 13) (v := ?v44) rfl (by kernel_rfl) (by kernel_rfl) (by kernel_rfl) (fun _ _ _ h => h) (Or.inl ⟨rfl, ?hy44⟩) hHeld ?rest44
                    case hy44 => (intro w hSw; clear hSw; go_simp; try with_reducible rfl)
                    try simp only [Act.put, List.setIfInBounds_toArray, List.set_cons_zero, List.set_cons_succ, List.getElem_toArray, List.getElem_cons_zero, List.getElem_cons_succ]
                    refine wpAnyH_take (i := 14) (v := ?v45) rfl (by kernel_rfl) (by kernel_rfl) (by kernel_rfl) (fun _ _ _ h => h) (Or.inl ⟨rfl, ?hy45⟩) hHeld ?rest45
                    case hy45 => (intro w hSw; clear hSw; go_simp; try with_reducible rfl)
                    try simp only [Act.put, List.setIfInBounds_toArray, List.set_cons_zero, List.set_cons_succ, List.getElem_toArray, List.getElem_cons_zero, List.getElem_cons_succ]
                    refine wpAnyH_take (i := 15) (v := ?v46) rfl (by kernel_rfl) (by kernel_rfl) (by kernel_rfl) (fun _ _ _ h => h) (Or.inl ⟨rfl, ?hy46⟩) hHeld ?rest46
                    case hy46 => (intro w hSw; clear hSw; go_simp; try with_reducible rfl)
                    try simp only [Act.put, List.setIfInBounds_toArray, List.set_cons_zero, List.set_cons_succ, List.getElem_toArray, List.getElem_cons_zero, List.getElem_cons_succ]
                    refine wpAnyH_take (i := 16) (v := ?v47) rfl (by kernel_rfl) (by kernel_rfl) (by kernel_rfl) (fun _ _ _ h => h) (Or.inl ⟨rfl, ?hy47⟩) hHeld ?rest47
                    case hy47 => (intro w hSw; clear hSw; go_simp; try with_reducible rfl)
                    try simp only [Act.put, List.setIfInBounds_toArray, List.set_cons_zero, List.set_cons_succ, List.getElem_toArray, List.getElem_cons_zero, List.getElem_cons_succ]
                    refine wpAnyH_done (by kernel_rfl) ?_ _
                    try dsimp only
                    rcases HK.out with rfl | ⟨rfl, rfl⟩
                    · go_wp2_with fail
                      refine (same_err 4 4 x42 (HT.out.below HB12.out)).mono ?_
                      rintro e w13 ⟨rfl, hb13⟩
                      have HB13 := Lib.hid (HB12.out.trans (hb13.mono HB12.out.size))
                      clear hb13
                      go_wp2_with fail
                      refine (told_same 4 4 w13 (HT.out.below HB13.out)).mono ?_
                      rintro e w14 ⟨rfl, hb14⟩
                      have HB14 := Lib.hid (HB13.out.trans (hb14.mono HB13.out.size))
                      clear hb14
                      go_wp2_with fail
                      go_ret
                      exact ⟨rfl, HB14.out⟩
                    · rw [show errOf 0 = Value.nilIface from rfl]
                      go_wp2_with fail
                      refine (same_err 0 4 x42 (HT.out.below HB12.out)).mono ?_
                      rintro e w13 ⟨rfl, hb13⟩
                      have HB13 := Lib.hid (HB12.out.trans (hb13.mono HB12.out.size))
                      clear hb13
                      go_wp2_with fail
                      refine (told_same 0 0 w13 (HT.out.below HB13.out)).mono ?_
                      rintro e w14 ⟨rfl, hb14⟩
                      have HB14 := Lib.hid (HB13.out.trans (hb14.mono HB13.out.size))
                      clear hb14
                      go_wp2_with fail
                      go_ret
                      exact ⟨rfl, HB14.out⟩
            · -- [2, 4] then 9
              clear hHeld
              obtain ⟨g48, hg48⟩ : ∃ g, g = x38.heap.size := ⟨_, rfl⟩
              have HNE : Hid (g48 ≠ g37) := Lib.hid (by rw [hg48]; exact Nat.ne_of_gt HL.out.1)
              obtain ⟨x48, hx48⟩ : ∃ W1, W1 = x38.alloc (.cells #[.string ⟨#[122, 122, 95, 122, 122, 95, 122, 122]⟩, .bool true, .int .i64 dc, .int .i64 ds, .string ⟨#[]⟩] 53) := ⟨_, rfl⟩
              have hst : Below x38.heap.size x38 x48 := by rw [hx48]; exact bell _ _
              replace HM := Lib.hid (HM.out.below hst)
              replace HL := Lib.hid (HL.out.below hst)
              have HG : Hid (ArgBlk x48 g48 ⟨zzS, true, dc, ds, ⟨#[]⟩⟩) := Lib.hid (by rw [hx48, hg48]; exact ArgBlk.new x38 ⟨zzS, true, dc, ds, ⟨#[]⟩⟩)
              have hNew := S9.step HS.out hst HS.out.2.2.1.out.size
              go_simp
              rw [← hx48, ← hg48]
              refine hK.out _ _ hNew (fun _ => ?_)
              clear hx48 hst hg48
              clear hK K
              have hHeld := hNew
              have HS := Lib.hid hNew
              clear hNew
              try simp only [Act.put, List.setIfInBounds_toArray, List.set_cons_zero, List.set_cons_succ, List.getElem_toArray, List.getElem_cons_zero, List.getElem_cons_succ]
              refine wpAnyH_ready (rs := [6]) (by kernel_rfl) (by simp) (AllReadyH.cons rfl (fun K hK => ?_) (AllReadyH.nil))
              · -- [2, 4, 9] then 6
                clear hHeld
                apply step_append_manyG (k := kArg) (base := g37) (s := .tmp 81) (x := .tmp 82) (ys := ags) (hown := HL.out.2) (hy := (HA.out.below (HB10.out.trans (HS.out.2.2.1.out.mono HB10.out.size))).lies) (hA := HA0.out) (hb := Nat.le_of_lt HL.out.1) (hn := L1.out) (hn2 := L4.out)
                any_goals rfl
                intro v' x49 ho hoff
                rw [List.nil_append] at ho
                have hst := HL.out.2.grown hoff (Nat.le_of_lt HL.out.1)
                have hNew := S9.step HS.out hst HE.out
                replace HM := Lib.hid (HM.out.off hoff (HM.out.1.not HL.out.2 (by decide)))
                replace HG := Lib.hid (HG.out.off hoff (by simpa [Value.ownBlock] using HNE.out))
                have HV : Hid (RowAt x49 g37 v' ags) := Lib.hid ⟨Nat.le_trans (Nat.le_of_lt HL.out.1) hst.size, ho⟩
                clear HNE
                obtain ⟨A49, c49, rfl, _⟩ := ho.form
                refine hK.out _ _ hNew (fun _ => ?_)
                clear ho hoff hst HL
                clear hK K
                have hHeld := hNew
                have HS := Lib.hid hNew
                clear hNew
                try simp only [Act.put, List.setIfInBounds_toArray, List.set_cons_zero, List.set_cons_succ, List.getElem_toArray, List.getElem_cons_zero, List.getElem_cons_succ]
                refine wpAnyH_ready (rs := [10]) (by kernel_rfl) (by simp) (AllReadyH.cons rfl (fun K hK => ?_) (AllReadyH.nil))
                · -- [2, 4, 6, 9] then 10
                  clear hHeld
                  apply step_append_gB (k := kArg) (base := g37) (s := .tmp 83) (x := .tmp 86) (t := ⟨zzS, true, dc, ds, ⟨#[]⟩⟩) (hown := HV.out.2) (hc := HG.out.2) (hb := HV.out.1) (hn := L2.out) (hn2 := L3.out)
                  any_goals rfl
                  intro v' x50 ho hoff hfr
                  have hst := HV.out.2.grown hoff HV.out.1
                  have hNew := S9.step HS.out hst HE.out
                  replace HM := Lib.hid (HM.out.off hoff (HM.out.1.not HV.out.2 (by decide)))
                  obtain ⟨A50, c50, rfl, f1, f2, f3, hin⟩ := args_of ho
                  have HR : Hid (ArgsIn x50 A50 (ags ++ [⟨zzS, true, dc, ds, ⟨#[]⟩⟩])) := Lib.hid hin
                  have F1 := Lib.hid f1
                  have F2 := Lib.hid f2
                  refine hK.out _ _ hNew (fun _ => ?_)
                  clear ho hoff hst hfr HV HG hin f1 f2 f3
                  clear hK K
                  have hHeld := hNew
                  have HS := Lib.hid hNew
                  clear hNew
                  try simp only [Act.put, List.setIfInBounds_toArray, List.set_cons_zero, List.set_cons_succ, List.getElem_toArray, List.getElem_cons_zero, List.getElem_cons_succ]
                  refine wpAnyH_ready (rs := [11]) (by kernel_rfl) (by simp) (AllReadyH.cons rfl (fun K hK => ?_) (AllReadyH.nil))
                  · -- [2, 4, 6, 9, 10] then 11
                    clear hHeld
                    have HB11 := Lib.hid (HB10.out.trans (HS.out.2.2.1.out.mono HB10.out.size))
                    have K4 := KS2.out x50 HB11.out _ 4 A50 c50 _ (node_in HM.out (carry HS.out.2.2.1.out HC.out.1) (carry HS.out.2.2.1.out HC.out.2) (NodesIn.below HB11.out f HN.out)) HR.out F1.out F2.out (by simp; omega) (fun a ha => by
                      rcases List.mem_append.1 ha with h | h
                      · exact HZ.out a h
                      · obtain rfl := List.mem_singleton.1 h
                        exact ⟨zz_sz, Nat.zero_le _⟩)
                    rw [HE4.out, List.length_append] at K4
                    go_simp
                    go_at_call 16
                    refine K4.mono ?_
                    rintro e x51 ⟨rfl, hst⟩
                    have hNew := S9.step HS.out hst HS.out.2.2.1.out.size
                    try dsimp only
                    refine hK.out _ _ hNew (fun _ => ?_)
                    have HB12 := Lib.hid (HB10.out.trans (hNew.2.2.1.out.mono HB10.out.size))
                    have hNew2 := hNew
                    clear hK K hNew hst K4
                    try simp only [Act.put, List.setIfInBounds_toArray, List.set_cons_zero, List.set_cons_succ, List.getElem_toArray, List.getElem_cons_zero, List.getElem_cons_succ]
                    have hHeld := hNew2
                    refine wpAnyH_take (i := 12) (v := ?v52) rfl (by kernel_rfl) (by kernel_rfl) (by kernel_rfl) (fun _ _ _ h => h) (Or.inl ⟨rfl, ?hy52⟩) hHeld ?rest52
                    case hy52 => (intro w hSw; clear hSw; go_simp; try with_reducible rfl)
                    try simp only [Act.put, List.setIfInBounds_toArray, List.set_cons_zero, List.set_cons_succ, List.getElem_toArray, List.getElem_cons_zero, List.getElem_cons_succ]
                    refine wpAnyH_take (i := 13) (v := ?v53) rfl (by kernel_rfl) (by kernel_rfl) (by kernel_rfl) (fun _ _ _ h => h) (Or.inl ⟨rfl, ?hy53⟩) hHeld ?rest53
                    case hy53 => (intro w hSw; clear hSw; go_simp; try with_reducible rfl)
                    try simp only [Act.put, List.setIfInBounds_toArray, List.set_cons_zero, List.set_cons_succ, List.getElem_toArray, List.getElem_cons_zero, List.getElem_cons_succ]
                    refine wpAnyH_take (i := 14) (v := ?v54) rfl (by kernel_rfl) (by kernel_rfl) (by kernel_rfl) (fun _ _ _ h => h) (Or.inl ⟨rfl, ?hy54⟩) hHeld ?rest54
                    case hy54 => (intro w hSw; clear hSw; go_simp; try with_reducible rfl)
                    try simp only [Act.put, List.setIfInBounds_toArray, List.set_cons_zero, List.set_cons_succ, List.getElem_toArray, List.getElem_cons_zero, List.getElem_cons_succ]
                    refine wpAnyH_take (i := 15) (v := ?v55) rfl (by kernel_rfl) (by kernel_rfl) (by kernel_rfl) (fun _ _ _ h => h) (Or.inl ⟨rfl, ?hy55⟩) hHeld ?rest55
                    case hy55 => (intro w hSw; clear hSw; go_simp; try with_reducible rfl)
                    try simp only [Act.put, List.setIfInBounds_toArray, List.set_cons_zero, List.set_cons_succ, List.getElem_toArray, List.getElem_cons_zero, List.getElem_cons_succ]
                    refine wpAnyH_take (i := 16) (v := ?v56) rfl (by kernel_rfl) (by kernel_rfl) (by kernel_rfl) (fun _ _ _ h => h) (Or.inl ⟨rfl, ?hy56⟩) hHeld ?rest56
                    case hy56 => (intro w hSw; clear hSw; go_simp; try with_reducible rfl)
                    try simp only [Act.put, List.setIfInBounds_toArray, List.set_cons_zero, List.set_cons_succ, List.getElem_toArray, List.getElem_cons_zero, List.getElem_cons_succ]
                    refine wpAnyH_done (by kernel_rfl) ?_ _
                    try dsimp only
                    rcases HK.out with rfl | ⟨rfl, rfl⟩
                    · go_wp2_with fail
                      refine (same_err 4 4 x51 (HT.out.below HB12.out)).mono ?_
                      rintro e w13 ⟨rfl, hb13⟩
                      have HB13 := Lib.hid (HB12.out.trans (hb13.mono HB12.out.size))
                      clear hb13
                      go_wp2_with fail
                      refine (told_same 4 4 w13 (HT.out.below HB13.out)).mono ?_
                      rintro e w14 ⟨rfl, hb14⟩
                      have HB14 := Lib.hid (HB13.out.trans (hb14.mono HB13.out.size))
                      clear hb14
                      go_wp2_with fail
                      go_ret
                      exact ⟨rfl, HB14.out⟩
                    · rw [show errOf 0 = Value.nilIface from rfl]
                      go_wp2_with fail
                      refine (same_err 0 4 x51 (HT.out.below HB12.out)).mono ?_
                      rintro e w13 ⟨rfl, hb13⟩
                      have HB13 := Lib.hid (HB12.out.trans (hb13.mono HB12.out.size))
                      clear hb13
                      go_wp2_with fail
                      refine (told_same 0 0 w13 (HT.out.below HB13.out)).mono ?_
                      rintro e w14 ⟨rfl, hb14⟩
                      have HB14 := Lib.hid (HB13.out.trans (hb14.mono HB13.out.size))
                      clear hb14
                      go_wp2_with fail
                      go_ret
                      exact ⟨rfl, HB14.out⟩
          · -- [4] then 6
            clear hHeld
            apply step_append_manyG (k := kArg) (base := g37) (s := .tmp 81) (x := .tmp 82) (ys := ags) (hown := HL.out.2) (hy := (HA.out.below (HB10.out.trans (HS.out.2.2.1.out.mono HB10.out.size))).lies) (hA := HA0.out) (hb := Nat.le_of_lt HL.out.1) (hn := L1.out) (hn2 := L4.out)
            any_goals rfl
            intro v' x57 ho hoff
            rw [List.nil_append] at ho
            have hst := HL.out.2.grown hoff (Nat.le_of_lt HL.out.1)
            have hNew := S9.step HS.out hst HE.out
            have HV : Hid (RowAt x57 g37 v' ags) := Lib.hid ⟨Nat.le_trans (Nat.le_of_lt HL.out.1) hst.size, ho⟩
            obtain ⟨A57, c57, rfl, _⟩ := ho.form
            refine hK.out _ _ hNew (fun _ => ?_)
            clear ho hoff hst HL
            clear hK K
            have hHeld := hNew
            have HS := Lib.hid hNew
            clear hNew
            try simp only [Act.put, List.setIfInBounds_toArray, List.set_cons_zero, List.set_cons_succ, List.getElem_toArray, List.getElem_cons_zero, List.getElem_cons_succ]
            refine wpAnyH_ready (rs := [2, 9]) (by kernel_rfl) (by simp) (AllReadyH.cons rfl (fun K hK => ?_) (AllReadyH.cons rfl (fun K hK => ?_) (AllReadyH.nil)))
            · -- [4, 6] then 2
              clear hHeld
              obtain ⟨g58, hg58⟩ : ∃ g, g = x57.heap.size := ⟨_, rfl⟩
              obtain ⟨x58, hx58⟩ : ∃ W1, W1 = x57.alloc (.cells #[.int .i64 4, .string ⟨#[122, 122, 95, 122, 122, 95, 122, 122]⟩, .int .i64 0, .slice (some ⟨w4.heap.size, 0, none⟩) 1 1] 30) := ⟨_, rfl⟩
              have hst : Below x57.heap.size x57 x58 := by rw [hx58]; exact bell _ _
              replace HV := Lib.hid (HV.out.below hst)
              have HM : Hid (NodeBlk x58 g58 4 w4.heap.size) := Lib.hid (by rw [hx58, hg58]; exact NodeBlk.new x57 4 w4.heap.size)
              have hNew := S9.step HS.out hst HS.out.2.2.1.out.size
              go_simp
              rw [← hx58, ← hg58]
              refine hK.out _ _ hNew (fun _ => ?_)
              clear hx58 hst hg58
              clear hK K
              have hHeld := hNew
              have HS := Lib.hid hNew
              clear hNew
              try simp only [Act.put, List.setIfInBounds_toArray, List.set_cons_zero, List.set_cons_succ, List.getElem_toArray, List.getElem_cons_zero, List.getElem_cons_succ]
              refine wpAnyH_ready (rs := [9]) (by kernel_rfl) (by simp) (AllReadyH.cons rfl (fun K hK => ?_) (AllReadyH.nil))
              · -- [2, 4, 6] then 9
                clear hHeld
                obtain ⟨g59, hg59⟩ : ∃ g, g = x58.heap.size := ⟨_, rfl⟩
                obtain ⟨x59, hx59⟩ : ∃ W1, W1 = x58.alloc (.cells #[.string ⟨#[122, 122, 95, 122, 122, 95, 122, 122]⟩, .bool true, .int .i64 dc, .int .i64 ds, .string ⟨#[]⟩] 53) := ⟨_, rfl⟩
                have hst : Below x58.heap.size x58 x59 := by rw [hx59]; exact bell _ _
                replace HM := Lib.hid (HM.out.below hst)
                replace HV := Lib.hid (HV.out.below hst)
                have HG : Hid (ArgBlk x59 g59 ⟨zzS, true, dc, ds, ⟨#[]⟩⟩) := Lib.hid (by rw [hx59, hg59]; exact ArgBlk.new x58 ⟨zzS, true, dc, ds, ⟨#[]⟩⟩)
                have hNew := S9.step HS.out hst HS.out.2.2.1.out.size
                go_simp
                rw [← hx59, ← hg59]
                refine hK.out _ _ hNew (fun _ => ?_)
                clear hx59 hst hg59
                clear hK K
                have hHeld := hNew
                have HS := Lib.hid hNew
                clear hNew
                try simp only [Act.put, List.setIfInBounds_toArray, List.set_cons_zero, List.set_cons_succ, List.getElem_toArray, List.getElem_cons_zero, List.getElem_cons_succ]
                refine wpAnyH_ready (rs := [10]) (by kernel_rfl) (by simp) (AllReadyH.cons rfl (fun K hK => ?_) (AllReadyH.nil))
                · -- [2, 4, 6, 9] then 10
                  clear hHeld
                  apply step_append_gB (k := kArg) (base := g37) (s := .tmp 83) (x := .tmp 86) (t := ⟨zzS, true, dc, ds, ⟨#[]⟩⟩) (hown := HV.out.2) (hc := HG.out.2) (hb := HV.out.1) (hn := L2.out) (hn2 := L3.out)
                  any_goals rfl
                  intro v' x60 ho hoff hfr
                  have hst := HV.out.2.grown hoff HV.out.1
                  have hNew := S9.step HS.out hst HE.out
                  replace HM := Lib.hid (HM.out.off hoff (HM.out.1.not HV.out.2 (by decide)))
                  obtain ⟨A60, c60, rfl, f1, f2, f3, hin⟩ := args_of ho
                  have HR : Hid (ArgsIn x60 A60 (ags ++ [⟨zzS, true, dc, ds, ⟨#[]⟩⟩])) := Lib.hid hin
                  have F1 := Lib.hid f1
                  have F2 := Lib.hid f2
                  refine hK.out _ _ hNew (fun _ => ?_)
                  clear ho hoff hst hfr HV HG hin f1 f2 f3
                  clear hK K
                  have hHeld := hNew
                  have HS := Lib.hid hNew
                  clear hNew
                  try simp only [Act.put, List.setIfInBounds_toArray, List.set_cons_zero, List.set_cons_succ, List.getElem_toArray, List.getElem_cons_zero, List.getElem_cons_succ]
                  refine wpAnyH_ready (rs := [11]) (by kernel_rfl) (by simp) (AllReadyH.cons rfl (fun K hK => ?_) (AllReadyH.nil))
                  · -- [2, 4, 6, 9, 10] then 11
                    clear hHeld
                    have HB11 := Lib.hid (HB10.out.trans (HS.out.2.2.1.out.mono HB10.out.size))
                    have K4 := KS2.out x60 HB11.out _ 4 A60 c60 _ (node_in HM.out (carry HS.out.2.2.1.out HC.out.1) (carry HS.out.2.2.1.out HC.out.2) (NodesIn.below HB11.out f HN.out)) HR.out F1.out F2.out (by simp; omega) (fun a ha => by
                      rcases List.mem_append.1 ha with h | h
                      · exact HZ.out a h
                      · obtain rfl := List.mem_singleton.1 h
                        exact ⟨zz_sz, Nat.zero_le _⟩)
                    rw [HE4.out, List.length_append] at K4
                    go_simp
                    go_at_call 16
                    refine K4.mono ?_
                    rintro e x61 ⟨rfl, hst⟩
                    have hNew := S9.step HS.out hst HS.out.2.2.1.out.size
                    try dsimp only
                    refine hK.out _ _ hNew (fun _ => ?_)
                    have HB12 := Lib.hid (HB10.out.trans (hNew.2.2.1.out.mono HB10.out.size))
                    have hNew2 := hNew
                    clear hK K hNew hst K4
                    try simp only [Act.put, List.setIfInBounds_toArray, List.set_cons_zero, List.set_cons_succ, List.getElem_toArray, List.getElem_cons_zero, List.getElem_cons_succ]
                    have hHeld := hNew2
                    refine wpAnyH_take (i := 12) (v := ?v62) rfl (by kernel_rfl) (by kernel_rfl) (by kernel_rfl) (fun _ _ _ h => h) (Or.inl ⟨rfl, ?hy62⟩) hHeld ?rest62
                    case hy62 => (intro w hSw; clear hSw; go_simp; try with_reducible rfl)
                    try simp only [Act.put, List.setIfInBounds_toArray, List.set_cons_zero, List.set_cons_succ, List.getElem_toArray, List.getElem_cons_zero, List.getElem_cons_succ]
                    refine wpAnyH_take (i := 13) (v := ?v63) rfl (by kernel_rfl) (by kernel_rfl) (by kernel_rfl) (fun _ _ _ h => h) (Or.inl ⟨rfl, ?hy63⟩) hHeld ?rest63
                    case hy63 => (intro w hSw; clear hSw; go_simp; try with_reducible rfl)
                    try simp only [Act.put, List.setIfInBounds_toArray, List.set_cons_zero, List.set_cons_succ, List.getElem_toArray, List.getElem_cons_zero, List.getElem_cons_succ]
                    refine wpAnyH_take (i := 14) (v := ?v64) rfl (by kernel_rfl) (by kernel_rfl) (by kernel_rfl) (fun _ _ _ h => h) (Or.inl ⟨rfl, ?hy64⟩) hHeld ?rest64
                    case hy64 => (intro w hSw; clear hSw; go_simp; try with_reducible rfl)
                    try simp only [Act.put, List.setIfInBounds_toArray, List.set_cons_zero, List.set_cons_succ, List.getElem_toArray, List.getElem_cons_zero, List.getElem_cons_succ]
                    refine wpAnyH_take (i := 15) (v := ?v65) rfl (by kernel_rfl) (by kernel_rfl) (by kernel_rfl) (fun _ _ _ h => h) (Or.inl ⟨rfl, ?hy65⟩) hHeld ?rest65
                    case hy65 => (intro w hSw; clear hSw; go_simp; try with_reducible rfl)
                    try simp only [Act.put, List.setIfInBounds_toArray, List.set_cons_zero, List.set_cons_succ, List.getElem_toArray, List.getElem_cons_zero, List.getElem_cons_succ]
                    refine wpAnyH_take (i := 16) (v := ?v66) rfl (by kernel_rfl) (by kernel_rfl) (by kernel_rfl) (fun _ _ _ h => h) (Or.inl ⟨rfl, ?hy66⟩) hHeld ?rest66
                    case hy66 => (intro w hSw; clear hSw; go_simp; try with_reducible rfl)
                    try simp only [Act.put, List.setIfInBounds_toArray, List.set_cons_zero, List.set_cons_succ, List.getElem_toArray, List.getElem_cons_zero, List.getElem_cons_succ]
                    refine wpAnyH_done (by kernel_rfl) ?_ _
                    try dsimp only
                    rcases HK.out with rfl | ⟨rfl, rfl⟩
                    · go_wp2_with fail
                      refine (same_err 4 4 x61 (HT.out.below HB12.out)).mono ?_
                      rintro e w13 ⟨rfl, hb13⟩
                      have HB13 := Lib.hid (HB12.out.trans (hb13.mono HB12.out.size))
                      clear hb13
                      go_wp2_with fail
                      refine (told_same 4 4 w13 (HT.out.below HB13.out)).mono ?_
                      rintro e w14 ⟨rfl, hb14⟩
                      have HB14 := Lib.hid (HB13.out.trans (hb14.mono HB13.out.size))
                      clear hb14
                      go_wp2_with fail
                      go_ret
                      exact ⟨rfl, HB14.out⟩
                    · rw [show errOf 0 = Value.nilIface from rfl]
                      go_wp2_with fail
                      refine (same_err 0 4 x61 (HT.out.below HB12.out)).mono ?_
                      rintro e w13 ⟨rfl, hb13⟩
                      have HB13 := Lib.hid (HB12.out.trans (hb13.mono HB12.out.size))
                      clear hb13
                      go_wp2_with fail
                      refine (told_same 0 0 w13 (HT.out.below HB13.out)).mono ?_
                      rintro e w14 ⟨rfl, hb14⟩
                      have HB14 := Lib.hid (HB13.out.trans (hb14.mono HB13.out.size))
                      clear hb14
                      go_wp2_with fail
                      go_ret
                      exact ⟨rfl, HB14.out⟩
            · -- [4, 6] then 9
              clear hHeld
              obtain ⟨g67, hg67⟩ : ∃ g, g = x57.heap.size := ⟨_, rfl⟩
              obtain ⟨x67, hx67⟩ : ∃ W1, W1 = x57.alloc (.cells #[.string ⟨#[122, 122, 95, 122, 122, 95, 122, 122]⟩, .bool true, .int .i64 dc, .int .i64 ds, .string ⟨#[]⟩] 53) := ⟨_, rfl⟩
              have hst : Below x57.heap.size x57 x67 := by rw [hx67]; exact bell _ _
              replace HV := Lib.hid (HV.out.below hst)
              have HG : Hid (ArgBlk x67 g67 ⟨zzS, true, dc, ds, ⟨#[]⟩⟩) := Lib.hid (by rw [hx67, hg67]; exact ArgBlk.new x57 ⟨zzS, true, dc, ds, ⟨#[]⟩⟩)
              have hNew := S9.step HS.out hst HS.out.2.2.1.out.size
              go_simp
              rw [← hx67, ← hg67]
              refine hK.out _ _ hNew (fun _ => ?_)
              clear hx67 hst hg67
              clear hK K
              have hHeld := hNew
              have HS := Lib.hid hNew
              clear hNew
              try simp only [Act.put, List.setIfInBounds_toArray, List.set_cons_zero, List.set_cons_succ, List.getElem_toArray, List.getElem_cons_zero, List.getElem_cons_succ]
              refine wpAnyH_ready (rs := [2, 10]) (by kernel_rfl) (by simp) (AllReadyH.cons rfl (fun K hK => ?_) (AllReadyH.cons rfl (fun K hK => ?_) (AllReadyH.nil)))
              · -- [4, 6, 9] then 2
                clear hHeld
                obtain ⟨g68, hg68⟩ : ∃ g, g = x67.heap.size := ⟨_, rfl⟩
                obtain ⟨x68, hx68⟩ : ∃ W1, W1 = x67.alloc (.cells #[.int .i64 4, .string ⟨#[122, 122, 95, 122, 122, 95, 122, 122]⟩, .int .i64 0, .slice (some ⟨w4.heap.size, 0, none⟩) 1 1] 30) := ⟨_, rfl⟩
                have hst : Below x67.heap.size x67 x68 := by rw [hx68]; exact bell _ _
                replace HG := Lib.hid (HG.out.below hst)
                replace HV := Lib.hid (HV.out.below hst)
                have HM : Hid (NodeBlk x68 g68 4 w4.heap.size) := Lib.hid (by rw [hx68, hg68]; exact NodeBlk.new x67 4 w4.heap.size)
                have hNew := S9.step HS.out hst HS.out.2.2.1.out.size
                go_simp
                rw [← hx68, ← hg68]
                refine hK.out _ _ hNew (fun _ => ?_)
                clear hx68 hst hg68
                clear hK K
                have hHeld := hNew
                have HS := Lib.hid hNew
                clear hNew
                try simp only [Act.put, List.setIfInBounds_toArray, List.set_cons_zero, List.set_cons_succ, List.getElem_toArray, List.getElem_cons_zero, List.getElem_cons_succ]
                refine wpAnyH_ready (rs := [10]) (by kernel_rfl) (by simp) (AllReadyH.cons rfl (fun K hK => ?_) (AllReadyH.nil))
                · -- [2, 4, 6, 9] then 10
                  clear hHeld
                  apply step_append_gB (k := kArg) (base := g37) (s := .tmp 83) (x := .tmp 86) (t := ⟨zzS, true, dc, ds, ⟨#[]⟩⟩) (hown := HV.out.2) (hc := HG.out.2) (hb := HV.out.1) (hn := L2.out) (hn2 := L3.out)
                  any_goals rfl
                  intro v' x69 ho hoff hfr
                  have hst := HV.out.2.grown hoff HV.out.1
                  have hNew := S9.step HS.out hst HE.out
                  replace HM := Lib.hid (HM.out.off hoff (HM.out.1.not HV.out.2 (by decide)))
                  obtain ⟨A69, c69, rfl, f1, f2, f3, hin⟩ := args_of ho
                  have HR : Hid (ArgsIn x69 A69 (ags ++ [⟨zzS, true, dc, ds, ⟨#[]⟩⟩])) := Lib.hid hin
                  have F1 := Lib.hid f1
                  have F2 := Lib.hid f2
                  refine hK.out _ _ hNew (fun _ => ?_)
                  clear ho hoff hst hfr HV HG hin f1 f2 f3
                  clear hK K
                  have hHeld := hNew
                  have HS := Lib.hid hNew
                  clear hNew
                  try simp only [Act.put, List.setIfInBounds_toArray, List.set_cons_zero, List.set_cons_succ, List.getElem_toArray, List.getElem_cons_zero, List.getElem_cons_succ]
                  refine wpAnyH_ready (rs := [11]) (by kernel_rfl) (by simp) (AllReadyH.cons rfl (fun K hK => ?_) (AllReadyH.nil))
                  · -- [2, 4, 6, 9, 10] then 11
                    clear hHeld
                    have HB11 := Lib.hid (HB10.out.trans (HS.out.2.2.1.out.mono HB10.out.size))
                    have K4 := KS2.out x69 HB11.out _ 4 A69 c69 _ (node_in HM.out (carry HS.out.2.2.1.out HC.out.1) (carry HS.out.2.2.1.out HC.out.2) (NodesIn.below HB11.out f HN.out)) HR.out F1.out F2.out (by simp; omega) (fun a ha => by
                      rcases List.mem_append.1 ha with h | h
                      · exact HZ.out a h
                      · obtain rfl := List.mem_singleton.1 h
                        exact ⟨zz_sz, Nat.zero_le _⟩)
                    rw [HE4.out, List.length_append] at K4
                    go_simp
                    go_at_call 16
                    refine K4.mono ?_
                    rintro e x70 ⟨rfl, hst⟩
                    have hNew := S9.step HS.out hst HS.out.2.2.1.out.size
                    try dsimp only
                    refine hK.out _ _ hNew (fun _ => ?_)
                    have HB12 := Lib.hid (HB10.out.trans (hNew.2.2.1.out.mono HB10.out.size))
                    have hNew2 := hNew
                    clear hK K hNew hst K4
                    try simp only [Act.put, List.setIfInBounds_toArray, List.set_cons_zero, List.set_cons_succ, List.getElem_toArray, List.getElem_cons_zero, List.getElem_cons_succ]
                    have hHeld := hNew2
                    refine wpAnyH_take (i := 12) (v := ?v71) rfl (by kernel_rfl) (by kernel_rfl) (by kernel_rfl) (fun _ _ _ h => h) (Or.inl ⟨rfl, ?hy71⟩) hHeld ?rest71
                    case hy71 => (intro w hSw; clear hSw; go_simp; try with_reducible rfl)
                    try simp only [Act.put, List.setIfInBounds_toArray, List.set_cons_zero, List.set_cons_succ, List.getElem_toArray, List.getElem_cons_zero, List.getElem_cons_succ]
                    refine wpAnyH_take (i := 13) (v := ?v72) rfl (by kernel_rfl) (by kernel_rfl) (by kernel_rfl) (fun _ _ _ h => h) (Or.inl ⟨rfl, ?hy72⟩) hHeld ?rest72
                    case hy72 => (intro w hSw; clear hSw; go_simp; try with_reducible rfl)
                    try simp only [Act.put, List.setIfInBounds_toArray, List.set_cons_zero, List.set_cons_succ, List.getElem_toArray, List.getElem_cons_zero, List.getElem_cons_succ]
                    refine wpAnyH_take (i := 14) (v := ?v73) rfl (by kernel_rfl) (by kernel_rfl) (by kernel_rfl) (fun _ _ _ h => h) (Or.inl ⟨rfl, ?hy73⟩) hHeld ?rest73
                    case hy73 => (intro w hSw; clear hSw; go_simp; try with_reducible rfl)
                    try simp only [Act.put, List.setIfInBounds_toArray, List.set_cons_zero, List.set_cons_succ, List.getElem_toArray, List.getElem_cons_zero, List.getElem_cons_succ]
                    refine wpAnyH_take (i := 15) (v := ?v74) rfl (by kernel_rfl) (by kernel_rfl) (by kernel_rfl) (fun _ _ _ h => h) (Or.inl ⟨rfl, ?hy74⟩) hHeld ?rest74
                    case hy74 => (intro w hSw; clear hSw; go_simp; try with_reducible rfl)
                    try simp only [Act.put, List.setIfInBounds_toArray, List.set_cons_zero, List.set_cons_succ, List.getElem_toArray, List.getElem_cons_zero, List.getElem_cons_succ]
                    refine wpAnyH_take (i := 16) (v := ?v75) rfl (by kernel_rfl) (by kernel_rfl) (by kernel_rfl) (fun _ _ _ h => h) (Or.inl ⟨rfl, ?hy75⟩) hHeld ?rest75
                    case hy75 => (intro w hSw; clear hSw; go_simp; try with_reducible rfl)
                    try simp only [Act.put, List.setIfInBounds_toArray, List.set_cons_zero, List.set_cons_succ, List.getElem_toArray, List.getElem_cons_zero, List.getElem_cons_succ]
                    refine wpAnyH_done (by kernel_rfl) ?_ _
                    try dsimp only
                    rcases HK.out with rfl | ⟨rfl, rfl⟩
                    · go_wp2_with fail
                      refine (same_err 4 4 x70 (HT.out.below HB12.out)).mono ?_
                      rintro e w13 ⟨rfl, hb13⟩
                      have HB13 := Lib.hid (HB12.out.trans (hb13.mono HB12.out.size))
                      clear hb13
                      go_wp2_with fail
                      refine (told_same 4 4 w13 (HT.out.below HB13.out)).mono ?_
                      rintro e w14 ⟨rfl, hb14⟩
                      have HB14 := Lib.hid (HB13.out.trans (hb14.mono HB13.out.size))
                      clear hb14
                      go_wp2_with fail
                      go_ret
                      exact ⟨rfl, HB14.out⟩
                    · rw [show errOf 0 = Value.nilIface from rfl]
                      go_wp2_with fail
                      refine (same_err 0 4 x70 (HT.out.below HB12.out)).mono ?_
                      rintro e w13 ⟨rfl, hb13⟩
                      have HB13 := Lib.hid (HB12.out.trans (hb13.mono HB12.out.size))
                      clear hb13
                      go_wp2_with fail
                      refine (told_same 0 0 w13 (HT.out.below HB13.out)).mono ?_
                      rintro e w14 ⟨rfl, hb14⟩
                      have HB14 := Lib.hid (HB13.out.trans (hb14.mono HB13.out.size))
                      clear hb14
                      go_wp2_with fail
                      go_ret
                      exact ⟨rfl, HB14.out⟩
              · -- [4, 6, 9] then 10
                clear hHeld
                apply step_append_gB (k := kArg) (base := g37) (s := .tmp 83) (x := .tmp 86) (t := ⟨zzS, true, dc, ds, ⟨#[]⟩⟩) (hown := HV.out.2) (hc := HG.out.2) (hb := HV.out.1) (hn := L2.out) (hn2 := L3.out)
                any_goals rfl
                intro v' x76 ho hoff hfr
                have hst := HV.out.2.grown hoff HV.out.1
                have hNew := S9.step HS.out hst HE.out
                obtain ⟨A76, c76, rfl, f1, f2, f3, hin⟩ := args_of ho
                have HR : Hid (ArgsIn x76 A76 (ags ++ [⟨zzS, true, dc, ds, ⟨#[]⟩⟩])) := Lib.hid hin
                have F1 := Lib.hid f1
                have F2 := Lib.hid f2
                refine hK.out _ _ hNew (fun _ => ?_)
                clear ho hoff hst hfr HV HG hin f1 f2 f3
                clear hK K
                have hHeld := hNew
                have HS := Lib.hid hNew
                clear hNew
                try simp only [Act.put, List.setIfInBounds_toArray, List.set_cons_zero, List.set_cons_succ, List.getElem_toArray, List.getElem_cons_zero, List.getElem_cons_succ]
                refine wpAnyH_ready (rs := [2]) (by kernel_rfl) (by simp) (AllReadyH.cons rfl (fun K hK => ?_) (AllReadyH.nil))
                · -- [4, 6, 9, 10] then 2
                  clear hHeld
                  obtain ⟨g77, hg77⟩ : ∃ g, g = x76.heap.size := ⟨_, rfl⟩
                  obtain ⟨x77, hx77⟩ : ∃ W1, W1 = x76.alloc (.cells #[.int .i64 4, .string ⟨#[122, 122, 95, 122, 122, 95, 122, 122]⟩, .int .i64 0, .slice (some ⟨w4.heap.size, 0, none⟩) 1 1] 30) := ⟨_, rfl⟩
                  have hst : Below x76.heap.size x76 x77 := by rw [hx77]; exact bell _ _
                  replace HR := Lib.hid (HR.out.below hst)
                  have HM : Hid (NodeBlk x77 g77 4 w4.heap.size) := Lib.hid (by rw [hx77, hg77]; exact NodeBlk.new x76 4 w4.heap.size)
                  have hNew := S9.step HS.out hst HS.out.2.2.1.out.size
                  go_simp
                  rw [← hx77, ← hg77]
                  refine hK.out _ _ hNew (fun _ => ?_)
                  clear hx77 hst hg77
                  clear hK K
                  have hHeld := hNew
                  have HS := Lib.hid hNew
                  clear hNew
                  try simp only [Act.put, List.setIfInBounds_toArray, List.set_cons_zero, List.set_cons_succ, List.getElem_toArray, List.getElem_cons_zero, List.getElem_cons_succ]
                  refine wpAnyH_ready (rs := [11]) (by kernel_rfl) (by simp) (AllReadyH.cons rfl (fun K hK => ?_) (AllReadyH.nil))
                  · -- [2, 4, 6, 9, 10] then 11
                    clear hHeld
                    have HB11 := Lib.hid (HB10.out.trans (HS.out.2.2.1.out.mono HB10.out.size))
                    have K4 := KS2.out x77 HB11.out _ 4 A76 c76 _ (node_in HM.out (carry HS.out.2.2.1.out HC.out.1) (carry HS.out.2.2.1.out HC.out.2) (NodesIn.below HB11.out f HN.out)) HR.out F1.out F2.out (by simp; omega) (fun a ha => by
                      rcases List.mem_append.1 ha with h | h
                      · exact HZ.out a h
                      · obtain rfl := List.mem_singleton.1 h
                        exact ⟨zz_sz, Nat.zero_le _⟩)
                    rw [HE4.out, List.length_append] at K4
                    go_simp
                    go_at_call 16
                    refine K4.mono ?_
                    rintro e x78 ⟨rfl, hst⟩
                    have hNew := S9.step HS.out hst HS.out.2.2.1.out.size
                    try dsimp only
                    refine hK.out _ _ hNew (fun _ => ?_)
                    have HB12 := Lib.hid (HB10.out.trans (hNew.2.2.1.out.mono HB10.out.size))
                    have hNew2 := hNew
                    clear hK K hNew hst K4
                    try simp only [Act.put, List.setIfInBounds_toArray, List.set_cons_zero, List.set_cons_succ, List.getElem_toArray, List.getElem_cons_zero, List.getElem_cons_succ]
                    have hHeld := hNew2
                    refine wpAnyH_take (i := 12) (v := ?v79) rfl (by kernel_rfl) (by kernel_rfl) (by kernel_rfl) (fun _ _ _ h => h) (Or.inl ⟨rfl, ?hy79⟩) hHeld ?rest79
                    case hy79 => (intro w hSw; clear hSw; go_simp; try with_reducible rfl)
                    try simp only [Act.put, List.setIfInBounds_toArray, List.set_cons_zero, List.set_cons_succ, List.getElem_toArray, List.getElem_cons_zero, List.getElem_cons_succ]
                    refine wpAnyH_take (i := 13) (v := ?v80) rfl (by kernel_rfl) (by kernel_rfl) (by kernel_rfl) (fun _ _ _ h => h) (Or.inl ⟨rfl, ?hy80⟩) hHeld ?rest80
                    case hy80 => (intro w hSw; clear hSw; go_simp; try with_reducible rfl)
                    try simp only [Act.put, List.setIfInBounds_toArray, List.set_cons_zero, List.set_cons_succ, List.getElem_toArray, List.getElem_cons_zero, List.getElem_cons_succ]
                    refine wpAnyH_take (i := 14) (v := ?v81) rfl (by kernel_rfl) (by kernel_rfl) (by kernel_rfl) (fun _ _ _ h => h) (Or.inl ⟨rfl, ?hy81⟩) hHeld ?rest81
                    case hy81 => (intro w hSw; clear hSw; go_simp; try with_reducible rfl)
                    try simp only [Act.put, List.setIfInBounds_toArray, List.set_cons_zero, List.set_cons_succ, List.getElem_toArray, List.getElem_cons_zero, List.getElem_cons_succ]
                    refine wpAnyH_take (i := 15) (v := ?v82) rfl (by kernel_rfl) (by kernel_rfl) (by kernel_rfl) (fun _ _ _ h => h) (Or.inl ⟨rfl, ?hy82⟩) hHeld ?rest82
                    case hy82 => (intro w hSw; clear hSw; go_simp; try with_reducible rfl)
                    try simp only [Act.put, List.setIfInBounds_toArray, List.set_cons_zero, List.set_cons_succ, List.getElem_toArray, List.getElem_cons_zero, List.getElem_cons_succ]
                    refine wpAnyH_take (i := 16) (v := ?v83) rfl (by kernel_rfl) (by kernel_rfl) (by kernel_rfl) (fun _ _ _ h => h) (Or.inl ⟨rfl, ?hy83⟩) hHeld ?rest83
                    case hy83 => (intro w hSw; clear hSw; go_simp; try with_reducible rfl)
                    try simp only [Act.put, List.setIfInBounds_toArray, List.set_cons_zero, List.set_cons_succ, List.getElem_toArray, List.getElem_cons_zero, List.getElem_cons_succ]
                    refine wpAnyH_done (by kernel_rfl) ?_ _
                    try dsimp only
                    rcases HK.out with rfl | ⟨rfl, rfl⟩
                    · go_wp2_with fail
                      refine (same_err 4 4 x78 (HT.out.below HB12.out)).mono ?_
                      rintro e w13 ⟨rfl, hb13⟩
                      have HB13 := Lib.hid (HB12.out.trans (hb13.mono HB12.out.size))
                      clear hb13
                      go_wp2_with fail
                      refine (told_same 4 4 w13 (HT.out.below HB13.out)).mono ?_
                      rintro e w14 ⟨rfl, hb14⟩
                      have HB14 := Lib.hid (HB13.out.trans (hb14.mono HB13.out.size))
                      clear hb14
                      go_wp2_with fail
                      go_ret
                      exact ⟨rfl, HB14.out⟩
                    · rw [show errOf 0 = Value.nilIface from rfl]
                      go_wp2_with fail
                      refine (same_err 0 4 x78 (HT.out.below HB12.out)).mono ?_
                      rintro e w13 ⟨rfl, hb13⟩
                      have HB13 := Lib.hid (HB12.out.trans (hb13.mono HB12.out.size))
                      clear hb13
                      go_wp2_with fail
                      refine (told_same 0 0 w13 (HT.out.below HB13.out)).mono ?_
                      rintro e w14 ⟨rfl, hb14⟩
                      have HB14 := Lib.hid (HB13.out.trans (hb14.mono HB13.out.size))
                      clear hb14
                      go_wp2_with fail
                      go_ret
                      exact ⟨rfl, HB14.out⟩
          · -- [4] then 9
            clear hHeld
            obtain ⟨g84, hg84⟩ : ∃ g, g = x37.heap.size := ⟨_, rfl⟩
            have HNE : Hid (g84 ≠ g37) := Lib.hid (by rw [hg84]; exact Nat.ne_of_gt HL.out.1)
            obtain ⟨x84, hx84⟩ : ∃ W1, W1 = x37.alloc (.cells #[.string ⟨#[122, 122, 95, 122, 122, 95, 122, 122]⟩, .bool true, .int .i64 dc, .int .i64 ds, .string ⟨#[]⟩] 53) := ⟨_, rfl⟩
            have hst : Below x37.heap.size x37 x84 := by rw [hx84]; exact bell _ _
            replace HL := Lib.hid (HL.out.below hst)
            have HG : Hid (ArgBlk x84 g84 ⟨zzS, true, dc, ds, ⟨#[]⟩⟩) := Lib.hid (by rw [hx84, hg84]; exact ArgBlk.new x37 ⟨zzS, true, dc, ds, ⟨#[]⟩⟩)
            have hNew := S9.step HS.out hst HS.out.2.2.1.out.size
            go_simp
            rw [← hx84, ← hg84]
            refine hK.out _ _ hNew (fun _ => ?_)
            clear hx84 hst hg84
            clear hK K
            have hHeld := hNew
            have HS := Lib.hid hNew
            clear hNew
            try simp only [Act.put, List.setIfInBounds_toArray, List.set_cons_zero, List.set_cons_succ, List.getElem_toArray, List.getElem_cons_zero, List.getElem_cons_succ]
            refine wpAnyH_ready (rs := [2, 6]) (by kernel_rfl) (by simp) (AllReadyH.cons rfl (fun K hK => ?_) (AllReadyH.cons rfl (fun K hK => ?_) (AllReadyH.nil)))
            · -- [4, 9] then 2
              clear hHeld
              obtain ⟨g85, hg85⟩ : ∃ g, g = x84.heap.size := ⟨_, rfl⟩
              obtain ⟨x85, hx85⟩ : ∃ W1, W1 = x84.alloc (.cells #[.int .i64 4, .string ⟨#[122, 122, 95, 122, 122, 95, 122, 122]⟩, .int .i64 0, .slice (some ⟨w4.heap.size, 0, none⟩) 1 1] 30) := ⟨_, rfl⟩
              have hst : Below x84.heap.size x84 x85 := by rw [hx85]; exact bell _ _
              replace HL := Lib.hid (HL.out.below hst)
              replace HG := Lib.hid (HG.out.below hst)
              have HM : Hid (NodeBlk x85 g85 4 w4.heap.size) := Lib.hid (by rw [hx85, hg85]; exact NodeBlk.new x84 4 w4.heap.size)
              have hNew := S9.step HS.out hst HS.out.2.2.1.out.size
              go_simp
              rw [← hx85, ← hg85]
              refine hK.out _ _ hNew (fun _ => ?_)
              clear hx85 hst hg85
              clear hK K
              have hHeld := hNew
              have HS := Lib.hid hNew
              clear hNew
              try simp only [Act.put, List.setIfInBounds_toArray, List.set_cons_zero, List.set_cons_succ, List.getElem_toArray, List.getElem_cons_zero, List.getElem_cons_succ]
              refine wpAnyH_ready (rs := [6]) (by kernel_rfl) (by simp) (AllReadyH.cons rfl (fun K hK => ?_) (AllReadyH.nil))
              · -- [2, 4, 9] then 6
                clear hHeld
                apply step_append_manyG (k := kArg) (base := g37) (s := .tmp 81) (x := .tmp 82) (ys := ags) (hown := HL.out.2) (hy := (HA.out.below (HB10.out.trans (HS.out.2.2.1.out.mono HB10.out.size))).lies) (hA := HA0.out) (hb := Nat.le_of_lt HL.out.1) (hn := L1.out) (hn2 := L4.out)
                any_goals rfl
                intro v' x86 ho hoff
                rw [List.nil_append] at ho
                have hst := HL.out.2.grown hoff (Nat.le_of_lt HL.out.1)
                have hNew := S9.step HS.out hst HE.out
                replace HM := Lib.hid (HM.out.off hoff (HM.out.1.not HL.out.2 (by decide)))
                replace HG := Lib.hid (HG.out.off hoff (by simpa [Value.ownBlock] using HNE.out))
                have HV : Hid (RowAt x86 g37 v' ags) := Lib.hid ⟨Nat.le_trans (Nat.le_of_lt HL.out.1) hst.size, ho⟩
                clear HNE
                obtain ⟨A86, c86, rfl, _⟩ := ho.form
                refine hK.out _ _ hNew (fun _ => ?_)
                clear ho hoff hst HL
                clear hK K
                have hHeld := hNew
                have HS := Lib.hid hNew
                clear hNew
                try simp only [Act.put, List.setIfInBounds_toArray, List.set_cons_zero, List.set_cons_succ, List.getElem_toArray, List.getElem_cons_zero, List.getElem_cons_succ]
                refine wpAnyH_ready (rs := [10]) (by kernel_rfl) (by simp) (AllReadyH.cons rfl (fun K hK => ?_) (AllReadyH.nil))
                · -- [2, 4, 6, 9] then 10
                  clear hHeld
                  apply step_append_gB (k := kArg) (base := g37) (s := .tmp 83) (x := .tmp 86) (t := ⟨zzS, true, dc, ds, ⟨#[]⟩⟩) (hown := HV.out.2) (hc := HG.out.2) (hb := HV.out.1) (hn := L2.out) (hn2 := L3.out)
                  any_goals rfl
                  intro v' x87 ho hoff hfr
                  have hst := HV.out.2.grown hoff HV.out.1
                  have hNew := S9.step HS.out hst HE.out
                  replace HM := Lib.hid (HM.out.off hoff (HM.out.1.not HV.out.2 (by decide)))
                  obtain ⟨A87, c87, rfl, f1, f2, f3, hin⟩ := args_of ho
                  have HR : Hid (ArgsIn x87 A87 (ags ++ [⟨zzS, true, dc, ds, ⟨#[]⟩⟩])) := Lib.hid hin
                  have F1 := Lib.hid f1
                  have F2 := Lib.hid f2
                  refine hK.out _ _ hNew (fun _ => ?_)
                  clear ho hoff hst hfr HV HG hin f1 f2 f3
                  clear hK K
                  have hHeld := hNew
                  have HS := Lib.hid hNew
                  clear hNew
                  try simp only [Act.put, List.setIfInBounds_toArray, List.set_cons_zero, List.set_cons_succ, List.getElem_toArray, List.getElem_cons_zero, List.getElem_cons_succ]
                  refine wpAnyH_ready (rs := [11]) (by kernel_rfl) (by simp) (AllReadyH.cons rfl (fun K hK => ?_) (AllReadyH.nil))
                  · -- [2, 4, 6, 9, 10] then 11
                    clear hHeld
                    have HB11 := Lib.hid (HB10.out.trans (HS.out.2.2.1.out.mono HB10.out.size))
                    have K4 := KS2.out x87 HB11.out _ 4 A87 c87 _ (node_in HM.out (carry HS.out.2.2.1.out HC.out.1) (carry HS.out.2.2.1.out HC.out.2) (NodesIn.below HB11.out f HN.out)) HR.out F1.out F2.out (by simp; omega) (fun a ha => by
                      rcases List.mem_append.1 ha with h | h
                      · exact HZ.out a h
                      · obtain rfl := List.mem_singleton.1 h
                        exact ⟨zz_sz, Nat.zero_le _⟩)
                    rw [HE4.out, List.length_append] at K4
                    go_simp
                    go_at_call 16
                    refine K4.mono ?_
                    rintro e x88 ⟨rfl, hst⟩
                    have hNew := S9.step HS.out hst HS.out.2.2.1.out.size
                    try dsimp only
                    refine hK.out _ _ hNew (fun _ => ?_)
                    have HB12 := Lib.hid (HB10.out.trans (hNew.2.2.1.out.mono HB10.out.size))
                    have hNew2 := hNew
                    clear hK K hNew hst K4
                    try simp only [Act.put, List.setIfInBounds_toArray, List.set_cons_zero, List.set_cons_succ, List.getElem_toArray, List.getElem_cons_zero, List.getElem_cons_succ]
                    have hHeld := hNew2
                    refine wpAnyH_take (i := 12) (v := ?v89) rfl (by kernel_rfl) (by kernel_rfl) (by kernel_rfl) (fun _ _ _ h => h) (Or.inl ⟨rfl, ?hy89⟩) hHeld ?rest89
                    case hy89 => (intro w hSw; clear hSw; go_simp; try with_reducible rfl)
                    try simp only [Act.put, List.setIfInBounds_toArray, List.set_cons_zero, List.set_cons_succ, List.getElem_toArray, List.getElem_cons_zero, List.getElem_cons_succ]
                    refine wpAnyH_take (i := 13) (v := ?v90) rfl (by kernel_rfl) (by kernel_rfl) (by kernel_rfl) (fun _ _ _ h => h) (Or.inl ⟨rfl, ?hy90⟩) hHeld ?rest90
                    case hy90 => (intro w hSw; clear hSw; go_simp; try with_reducible rfl)
                    try simp only [Act.put, List.setIfInBounds_toArray, List.set_cons_zero, List.set_cons_succ, List.getElem_toArray, List.getElem_cons_zero, List.getElem_cons_succ]
                    refine wpAnyH_take (i := 14) (v := ?v91) rfl (by kernel_rfl) (by kernel_rfl) (by kernel_rfl) (fun _ _ _ h => h) (Or.inl ⟨rfl, ?hy91⟩) hHeld ?rest91
                    case hy91 => (intro w hSw; clear hSw; go_simp; try with_reducible rfl)
                    try simp only [Act.put, List.setIfInBounds_toArray, List.set_cons_zero, List.set_cons_succ, List.getElem_toArray, List.getElem_cons_zero, List.getElem_cons_succ]
                    refine wpAnyH_take (i := 15) (v := ?v92) rfl (by kernel_rfl) (by kernel_rfl) (by kernel_rfl) (fun _ _ _ h => h) (Or.inl ⟨rfl, ?hy92⟩) hHeld ?rest92
                    case hy92 => (intro w hSw; clear hSw; go_simp; try with_reducible rfl)
                    try simp only [Act.put, List.setIfInBounds_toArray, List.set_cons_zero, List.set_cons_succ, List.getElem_toArray, List.getElem_cons_zero, List.getElem_cons_succ]
                    refine wpAnyH_take (i := 16) (v := ?v93) rfl (by kernel_rfl) (by kernel_rfl) (by kernel_rfl) (fun _ _ _ h => h) (Or.inl ⟨rfl, ?hy93⟩) hHeld ?rest93
                    case hy93 => (intro w hSw; clear hSw; go_simp; try with_reducible rfl)
                    try simp only [Act.put, List.setIfInBounds_toArray, List.set_cons_zero, List.set_cons_succ, List.getElem_toArray, List.getElem_cons_zero, List.getElem_cons_succ]
                    refine wpAnyH_done (by kernel_rfl) ?_ _
                    try dsimp only
                    rcases HK.out with rfl | ⟨rfl, rfl⟩
                    · go_wp2_with fail
                      refine (same_err 4 4 x88 (HT.out.below HB12.out)).mono ?_
                      rintro e w13 ⟨rfl, hb13⟩
                      have HB13 := Lib.hid (HB12.out.trans (hb13.mono HB12.out.size))
                      clear hb13
                      go_wp2_with fail
                      refine (told_same 4 4 w13 (HT.out.below HB13.out)).mono ?_
                      rintro e w14 ⟨rfl, hb14⟩
                      have HB14 := Lib.hid (HB13.out.trans (hb14.mono HB13.out.size))
                      clear hb14
                      go_wp2_with fail
                      go_ret
                      exact ⟨rfl, HB14.out⟩
                    · rw [show errOf 0 = Value.nilIface from rfl]
                      go_wp2_with fail
                      refine (same_err 0 4 x88 (HT.out.below HB12.out)).mono ?_
                      rintro e w13 ⟨rfl, hb13⟩
                      have HB13 := Lib.hid (HB12.out.trans (hb13.mono HB12.out.size))
                      clear hb13
                      go_wp2_with fail
                      refine (told_same 0 0 w13 (HT.out.below HB13.out)).mono ?_
                      rintro e w14 ⟨rfl, hb14⟩
                      have HB14 := Lib.hid (HB13.out.trans (hb14.mono HB13.out.size))
                      clear hb14
                      go_wp2_with fail
                      go_ret
                      exact ⟨rfl, HB14.out⟩
            · -- [4, 9] then 6
              clear hHeld
              apply step_append_manyG (k := kArg) (base := g37) (s := .tmp 81) (x := .tmp 82) (ys := ags) (hown := HL.out.2) (hy := (HA.out.below (HB10.out.trans (HS.out.2.2.1.out.mono HB10.out.size))).lies) (hA := HA0.out) (hb := Nat.le_of_lt HL.out.1) (hn := L1.out) (hn2 := L4.out)
              any_goals rfl
              intro v' x94 ho hoff
              rw [List.nil_append] at ho
              have hst := HL.out.2.grown hoff (Nat.le_of_lt HL.out.1)
              have hNew := S9.step HS.out hst HE.out
              replace HG := Lib.hid (HG.out.off hoff (by simpa [Value.ownBlock] using HNE.out))
              have HV : Hid (RowAt x94 g37 v' ags) := Lib.hid ⟨Nat.le_trans (Nat.le_of_lt HL.out.1) hst.size, ho⟩
              clear HNE
              obtain ⟨A94, c94, rfl, _⟩ := ho.form
              refine hK.out _ _ hNew (fun _ => ?_)
              clear ho hoff hst HL
              clear hK K
              have hHeld := hNew
              have HS := Lib.hid hNew
              clear hNew
              try simp only [Act.put, List.setIfInBounds_toArray, List.set_cons_zero, List.set_cons_succ, List.getElem_toArray, List.getElem_cons_zero, List.getElem_cons_succ]
              refine wpAnyH_ready (rs := [2, 10]) (by kernel_rfl) (by simp) (AllReadyH.cons rfl (fun K hK => ?_) (AllReadyH.cons rfl (fun K hK => ?_) (AllReadyH.nil)))
              · -- [4, 6, 9] then 2
                clear hHeld
                obtain ⟨g95, hg95⟩ : ∃ g, g = x94.heap.size := ⟨_, rfl⟩
                obtain ⟨x95, hx95⟩ : ∃ W1, W1 = x94.alloc (.cells #[.int .i64 4, .string ⟨#[122, 122, 95, 122, 122, 95, 122, 122]⟩, .int .i64 0, .slice (some ⟨w4.heap.size, 0, none⟩) 1 1] 30) := ⟨_, rfl⟩
                have hst : Below x94.heap.size x94 x95 := by rw [hx95]; exact bell _ _
                replace HG := Lib.hid (HG.out.below hst)
                replace HV := Lib.hid (HV.out.below hst)
                have HM : Hid (NodeBlk x95 g95 4 w4.heap.size) := Lib.hid (by rw [hx95, hg95]; exact NodeBlk.new x94 4 w4.heap.size)
                have hNew := S9.step HS.out hst HS.out.2.2.1.out.size
                go_simp
                rw [← hx95, ← hg95]
                refine hK.out _ _ hNew (fun _ => ?_)
                clear hx95 hst hg95
                clear hK K
                have hHeld := hNew
                have HS := Lib.hid hNew
                clear hNew
                try simp only [Act.put, List.setIfInBounds_toArray, List.set_cons_zero, List.set_cons_succ, List.getElem_toArray, List.getElem_cons_zero, List.getElem_cons_succ]
                refine wpAnyH_ready (rs := [10]) (by kernel_rfl) (by simp) (AllReadyH.cons rfl (fun K hK => ?_) (AllReadyH.nil))
                · -- [2, 4, 6, 9] then 10
                  clear hHeld
                  apply step_append_gB (k := kArg) (base := g37) (s := .tmp 83) (x := .tmp 86) (t := ⟨zzS, true, dc, ds, ⟨#[]⟩⟩) (hown := HV.out.2) (hc := HG.out.2) (hb := HV.out.1) (hn := L2.out) (hn2 := L3.out)
                  any_goals rfl
                  intro v' x96 ho hoff hfr
                  have hst := HV.out.2.grown hoff HV.out.1
                  have hNew := S9.step HS.out hst HE.out
                  replace HM := Lib.hid (HM.out.off hoff (HM.out.1.not HV.out.2 (by decide)))
                  obtain ⟨A96, c96, rfl, f1, f2, f3, hin⟩ := args_of ho
                  have HR : Hid (ArgsIn x96 A96 (ags ++ [⟨zzS, true, dc, ds, ⟨#[]⟩⟩])) := Lib.hid hin
                  have F1 := Lib.hid f1
                  have F2 := Lib.hid f2
                  refine hK.out _ _ hNew (fun _ => ?_)
                  clear ho hoff hst hfr HV HG hin f1 f2 f3
                  clear hK K
                  have hHeld := hNew
                  have HS := Lib.hid hNew
                  clear hNew
                  try simp only [Act.put, List.setIfInBounds_toArray, List.set_cons_zero, List.set_cons_succ, List.getElem_toArray, List.getElem_cons_zero, List.getElem_cons_succ]
                  refine wpAnyH_ready (rs := [11]) (by kernel_rfl) (by simp) (AllReadyH.cons rfl (fun K hK => ?_) (AllReadyH.nil))
                  · -- [2, 4, 6, 9, 10] then 11
                    clear hHeld
                    have HB11 := Lib.hid (HB10.out.trans (HS.out.2.2.1.out.mono HB10.out.size))
                    have K4 := KS2.out x96 HB11.out _ 4 A96 c96 _ (node_in HM.out (carry HS.out.2.2.1.out HC.out.1) (carry HS.out.2.2.1.out HC.out.2) (NodesIn.below HB11.out f HN.out)) HR.out F1.out F2.out (by simp; omega) (fun a ha => by
                      rcases List.mem_append.1 ha with h | h
                      · exact HZ.out a h
                      · obtain rfl := List.mem_singleton.1 h
                        exact ⟨zz_sz, Nat.zero_le _⟩)
                    rw [HE4.out, List.length_append] at K4
                    go_simp
                    go_at_call 16
                    refine K4.mono ?_
                    rintro e x97 ⟨rfl, hst⟩
                    have hNew := S9.step HS.out hst HS.out.2.2.1.out.size
                    try dsimp only
                    refine hK.out _ _ hNew (fun _ => ?_)
                    have HB12 := Lib.hid (HB10.out.trans (hNew.2.2.1.out.mono HB10.out.size))
                    have hNew2 := hNew
                    clear hK K hNew hst K4
                    try simp only [Act.put, List.setIfInBounds_toArray, List.set_cons_zero, List.set_cons_succ, List.getElem_toArray, List.getElem_cons_zero, List.getElem_cons_succ]
                    have hHeld := hNew2
                    refine wpAnyH_take (i := 12) (v := ?v98) rfl (by kernel_rfl) (by kernel_rfl) (by kernel_rfl) (fun _ _ _ h => h) (Or.inl ⟨rfl, ?hy98⟩) hHeld ?rest98
                    case hy98 => (intro w hSw; clear hSw; go_simp; try with_reducible rfl)
                    try simp only [Act.put, List.setIfInBounds_toArray, List.set_cons_zero, List.set_cons_succ, List.getElem_toArray, List.getElem_cons_zero, List.getElem_cons_succ]
                    refine wpAnyH_take (i := 13) (v := ?v99) rfl (by kernel_rfl) (by kernel_rfl) (by kernel_rfl) (fun _ _ _ h => h) (Or.inl ⟨rfl, ?hy99⟩) hHeld ?rest99
                    case hy99 => (intro w hSw; clear hSw; go_simp; try with_reducible rfl)
                    try simp only [Act.put, List.setIfInBounds_toArray, List.set_cons_zero, List.set_cons_succ, List.getElem_toArray, List.getElem_cons_zero, List.getElem_cons_succ]
                    refine wpAnyH_take (i := 14) (v := ?v100) rfl (by kernel_rfl) (by kernel_rfl) (by kernel_rfl) (fun _ _ _ h => h) (Or.inl ⟨rfl, ?hy100⟩) hHeld ?rest100
                    case hy100 => (intro w hSw; clear hSw; go_simp; try with_reducible rfl)
                    try simp only [Act.put, List.setIfInBounds_toArray, List.set_cons_zero, List.set_cons_succ, List.getElem_toArray, List.getElem_cons_zero, List.getElem_cons_succ]
                    refine wpAnyH_take (i := 15) (v := ?v101) rfl (by kernel_rfl) (by kernel_rfl) (by kernel_rfl) (fun _ _ _ h => h) (Or.inl ⟨rfl, ?hy101⟩) hHeld ?rest101
                    case hy101 => (intro w hSw; clear hSw; go_simp; try with_reducible rfl)
                    try simp only [Act.put, List.setIfInBounds_toArray, List.set_cons_zero, List.set_cons_succ, List.getElem_toArray, List.getElem_cons_zero, List.getElem_cons_succ]
                    refine wpAnyH_take (i := 16) (v := ?v102) rfl (by kernel_rfl) (by kernel_rfl) (by kernel_rfl) (fun _ _ _ h => h) (Or.inl ⟨rfl, ?hy102⟩) hHeld ?rest102
                    case hy102 => (intro w hSw; clear hSw; go_simp; try with_reducible rfl)
                    try simp only [Act.put, List.setIfInBounds_toArray, List.set_cons_zero, List.set_cons_succ, List.getElem_toArray, List.getElem_cons_zero, List.getElem_cons_succ]
                    refine wpAnyH_done (by kernel_rfl) ?_ _
                    try dsimp only
                    rcases HK.out with rfl | ⟨rfl, rfl⟩
                    · go_wp2_with fail
                      refine (same_err 4 4 x97 (HT.out.below HB12.out)).mono ?_
                      rintro e w13 ⟨rfl, hb13⟩
                      have HB13 := Lib.hid (HB12.out.trans (hb13.mono HB12.out.size))
                      clear hb13
                      go_wp2_with fail
                      refine (told_same 4 4 w13 (HT.out.below HB13.out)).mono ?_
                      rintro e w14 ⟨rfl, hb14⟩
                      have HB14 := Lib.hid (HB13.out.trans (hb14.mono HB13.out.size))
                      clear hb14
                      go_wp2_with fail
                      go_ret
                      exact ⟨rfl, HB14.out⟩
                    · rw [show errOf 0 = Value.nilIface from rfl]
                      go_wp2_with fail
                      refine (same_err 0 4 x97 (HT.out.below HB12.out)).mono ?_
                      rintro e w13 ⟨rfl, hb13⟩
                      have HB13 := Lib.hid (HB12.out.trans (hb13.mono HB12.out.size))
                      clear hb13
                      go_wp2_with fail
                      refine (told_same 0 0 w13 (HT.out.below HB13.out)).mono ?_
                      rintro e w14 ⟨rfl, hb14⟩
                      have HB14 := Lib.hid (HB13.out.trans (hb14.mono HB13.out.size))
                      clear hb14
                      go_wp2_with fail
                      go_ret
                      exact ⟨rfl, HB14.out⟩
              · -- [4, 6, 9] then 10
                clear hHeld
                apply step_append_gB (k := kArg) (base := g37) (s := .tmp 83) (x := .tmp 86) (t := ⟨zzS, true, dc, ds, ⟨#[]⟩⟩) (hown := HV.out.2) (hc := HG.out.2) (hb := HV.out.1) (hn := L2.out) (hn2 := L3.out)
                any_goals rfl
                intro v' x103 ho hoff hfr
                have hst := HV.out.2.grown hoff HV.out.1
                have hNew := S9.step HS.out hst HE.out
                obtain ⟨A103, c103, rfl, f1, f2, f3, hin⟩ := args_of ho
                have HR : Hid (ArgsIn x103 A103 (ags ++ [⟨zzS, true, dc, ds, ⟨#[]⟩⟩])) := Lib.hid hin
                have F1 := Lib.hid f1
                have F2 := Lib.hid f2
                refine hK.out _ _ hNew (fun _ => ?_)
                clear ho hoff hst hfr HV HG hin f1 f2 f3
                clear hK K
                have hHeld := hNew
                have HS := Lib.hid hNew
                clear hNew
                try simp only [Act.put, List.setIfInBounds_toArray, List.set_cons_zero, List.set_cons_succ, List.getElem_toArray, List.getElem_cons_zero, List.getElem_cons_succ]
                refine wpAnyH_ready (rs := [2]) (by kernel_rfl) (by simp) (AllReadyH.cons rfl (fun K hK => ?_) (AllReadyH.nil))
                · -- [4, 6, 9, 10] then 2
                  clear hHeld
                  obtain ⟨g104, hg104⟩ : ∃ g, g = x103.heap.size := ⟨_, rfl⟩
                  obtain ⟨x104, hx104⟩ : ∃ W1, W1 = x103.alloc (.cells #[.int .i64 4, .string ⟨#[122, 122, 95, 122, 122, 95, 122, 122]⟩, .int .i64 0, .slice (some ⟨w4.heap.size, 0, none⟩) 1 1] 30) := ⟨_, rfl⟩
                  have hst : Below x103.heap.size x103 x104 := by rw [hx104]; exact bell _ _
                  replace HR := Lib.hid (HR.out.below hst)
                  have HM : Hid (NodeBlk x104 g104 4 w4.heap.size) := Lib.hid (by rw [hx104, hg104]; exact NodeBlk.new x103 4 w4.heap.size)
                  have hNew := S9.step HS.out hst HS.out.2.2.1.out.size
                  go_simp
                  rw [← hx104, ← hg104]
                  refine hK.out _ _ hNew (fun _ => ?_)
                  clear hx104 hst hg104
                  clear hK K
                  have hHeld := hNew
                  have HS := Lib.hid hNew
                  clear hNew
                  try simp only [Act.put, List.setIfInBounds_toArray, List.set_cons_zero, List.set_cons_succ, List.getElem_toArray, List.getElem_cons_zero, List.getElem_cons_succ]
                  refine wpAnyH_ready (rs := [11]) (by kernel_rfl) (by simp) (AllReadyH.cons rfl (fun K hK => ?_) (AllReadyH.nil))
                  · -- [2, 4, 6, 9, 10] then 11
                    clear hHeld
                    have HB11 := Lib.hid (HB10.out.trans (HS.out.2.2.1.out.mono HB10.out.size))
                    have K4 := KS2.out x104 HB11.out _ 4 A103 c103 _ (node_in HM.out (carry HS.out.2.2.1.out HC.out.1) (carry HS.out.2.2.1.out HC.out.2) (NodesIn.below HB11.out f HN.out)) HR.out F1.out F2.out (by simp; omega) (fun a ha => by
                      rcases List.mem_append.1 ha with h | h
                      · exact HZ.out a h
                      · obtain rfl := List.mem_singleton.1 h
                        exact ⟨zz_sz, Nat.zero_le _⟩)
                    rw [HE4.out, List.length_append] at K4
                    go_simp
                    go_at_call 16
                    refine K4.mono ?_
                    rintro e x105 ⟨rfl, hst⟩
                    have hNew := S9.step HS.out hst HS.out.2.2.1.out.size
                    try dsimp only
                    refine hK.out _ _ hNew (fun _ => ?_)
                    have HB12 := Lib.hid (HB10.out.trans (hNew.2.2.1.out.mono HB10.out.size))
                    have hNew2 := hNew
                    clear hK K hNew hst K4
                    try simp only [Act.put, List.setIfInBounds_toArray, List.set_cons_zero, List.set_cons_succ, List.getElem_toArray, List.getElem_cons_zero, List.getElem_cons_succ]
                    have hHeld := hNew2
                    refine wpAnyH_take (i := 12) (v := ?v106) rfl (by kernel_rfl) (by kernel_rfl) (by kernel_rfl) (fun _ _ _ h => h) (Or.inl ⟨rfl, ?hy106⟩) hHeld ?rest106
                    case hy106 => (intro w hSw; clear hSw; go_simp; try with_reducible rfl)
                    try simp only [Act.put, List.setIfInBounds_toArray, List.set_cons_zero, List.set_cons_succ, List.getElem_toArray, List.getElem_cons_zero, List.getElem_cons_succ]
                    refine wpAnyH_take (i := 13) (v := ?v107) rfl (by kernel_rfl) (by kernel_rfl) (by kernel_rfl) (fun _ _ _ h => h) (Or.inl ⟨rfl, ?hy107⟩) hHeld ?rest107
                    case hy107 => (intro w hSw; clear hSw; go_simp; try with_reducible rfl)
                    try simp only [Act.put, List.setIfInBounds_toArray, List.set_cons_zero, List.set_cons_succ, List.getElem_toArray, List.getElem_cons_zero, List.getElem_cons_succ]
                    refine wpAnyH_take (i := 14) (v := ?v108) rfl (by kernel_rfl) (by kernel_rfl) (by kernel_rfl) (fun _ _ _ h => h) (Or.inl ⟨rfl, ?hy108⟩) hHeld ?rest108
                    case hy108 => (intro w hSw; clear hSw; go_simp; try with_reducible rfl)
                    try simp only [Act.put, List.setIfInBounds_toArray, List.set_cons_zero, List.set_cons_succ, List.getElem_toArray, List.getElem_cons_zero, List.getElem_cons_succ]
                    refine wpAnyH_take (i := 15) (v := ?v109) rfl (by kernel_rfl) (by kernel_rfl) (by kernel_rfl) (fun _ _ _ h => h) (Or.inl ⟨rfl, ?hy109⟩) hHeld ?rest109
                    case hy109 => (intro w hSw; clear hSw; go_simp; try with_reducible rfl)
                    try simp only [Act.put, List.setIfInBounds_toArray, List.set_cons_zero, List.set_cons_succ, List.getElem_toArray, List.getElem_cons_zero, List.getElem_cons_succ]
                    refine wpAnyH_take (i := 16) (v := ?v110) rfl (by kernel_rfl) (by kernel_rfl) (by kernel_rfl) (fun _ _ _ h => h) (Or.inl ⟨rfl, ?hy110⟩) hHeld ?rest110
                    case hy110 => (intro w hSw; clear hSw; go_simp; try with_reducible rfl)
                    try simp only [Act.put, List.setIfInBounds_toArray, List.set_cons_zero, List.set_cons_succ, List.getElem_toArray, List.getElem_cons_zero, List.getElem_cons_succ]
                    refine wpAnyH_done (by kernel_rfl) ?_ _
                    try dsimp only
                    rcases HK.out with rfl | ⟨rfl, rfl⟩
                    · go_wp2_with fail
                      refine (same_err 4 4 x105 (HT.out.below HB12.out)).mono ?_
                      rintro e w13 ⟨rfl, hb13⟩
                      have HB13 := Lib.hid (HB12.out.trans (hb13.mono HB12.out.size))
                      clear hb13
                      go_wp2_with fail
                      refine (told_same 4 4 w13 (HT.out.below HB13.out)).mono ?_
                      rintro e w14 ⟨rfl, hb14⟩
                      have HB14 := Lib.hid (HB13.out.trans (hb14.mono HB13.out.size))
                      clear hb14
                      go_wp2_with fail
                      go_ret
                      exact ⟨rfl, HB14.out⟩
                    · rw [show errOf 0 = Value.nilIface from rfl]
                      go_wp2_with fail
                      refine (same_err 0 4 x105 (HT.out.below HB12.out)).mono ?_
                      rintro e w13 ⟨rfl, hb13⟩
                      have HB13 := Lib.hid (HB12.out.trans (hb13.mono HB12.out.size))
                      clear hb13
                      go_wp2_with fail
                      refine (told_same 0 0 w13 (HT.out.below HB13.out)).mono ?_
                      rintro e w14 ⟨rfl, hb14⟩
                      have HB14 := Lib.hid (HB13.out.trans (hb14.mono HB13.out.size))
                      clear hb14
                      go_wp2_with fail
                      go_ret
                      exact ⟨rfl, HB14.out⟩
        · -- [] then 9
          clear hHeld
          obtain ⟨g111, hg111⟩ : ∃ g, g = x0.heap.size := ⟨_, rfl⟩
          obtain ⟨x111, hx111⟩ : ∃ W1, W1 = x0.alloc (.cells #[.string ⟨#[122, 122, 95, 122, 122, 95, 122, 122]⟩, .bool true, .int .i64 dc, .int .i64 ds, .string ⟨#[]⟩] 53) := ⟨_, rfl⟩
          have hst : Below x0.heap.size x0 x111 := by rw [hx111]; exact bell _ _
          have HG : Hid (ArgBlk x111 g111 ⟨zzS, true, dc, ds, ⟨#[]⟩⟩) := Lib.hid (by rw [hx111, hg111]; exact ArgBlk.new x0 ⟨zzS, true, dc, ds, ⟨#[]⟩⟩)
          have hNew := S9.step HS.out hst HS.out.2.2.1.out.size
          go_simp
          rw [← hx111, ← hg111]
          refine hK.out _ _ hNew (fun _ => ?_)
          clear hx111 hst hg111
          clear hK K
          have hHeld := hNew
          have HS := Lib.hid hNew
          clear hNew
          try simp only [Act.put, List.setIfInBounds_toArray, List.set_cons_zero, List.set_cons_succ, List.getElem_toArray, List.getElem_cons_zero, List.getElem_cons_succ]
          refine wpAnyH_ready (rs := [2, 4]) (by kernel_rfl) (by simp) (AllReadyH.cons rfl (fun K hK => ?_) (AllReadyH.cons rfl (fun K hK => ?_) (AllReadyH.nil)))
          · -- [9] then 2
            clear hHeld
            obtain ⟨g112, hg112⟩ : ∃ g, g = x111.heap.size := ⟨_, rfl⟩
            obtain ⟨x112, hx112⟩ : ∃ W1, W1 = x111.alloc (.cells #[.int .i64 4, .string ⟨#[122, 122, 95, 122, 122, 95, 122, 122]⟩, .int .i64 0, .slice (some ⟨w4.heap.size, 0, none⟩) 1 1] 30) := ⟨_, rfl⟩
            have hst : Below x111.heap.size x111 x112 := by rw [hx112]; exact bell _ _
            replace HG := Lib.hid (HG.out.below hst)
            have HM : Hid (NodeBlk x112 g112 4 w4.heap.size) := Lib.hid (by rw [hx112, hg112]; exact NodeBlk.new x111 4 w4.heap.size)
            have hNew := S9.step HS.out hst HS.out.2.2.1.out.size
            go_simp
            rw [← hx112, ← hg112]
            refine hK.out _ _ hNew (fun _ => ?_)
            clear hx112 hst hg112
            clear hK K
            have hHeld := hNew
            have HS := Lib.hid hNew
            clear hNew
            try simp only [Act.put, List.setIfInBounds_toArray, List.set_cons_zero, List.set_cons_succ, List.getElem_toArray, List.getElem_cons_zero, List.getElem_cons_succ]
            refine wpAnyH_ready (rs := [4]) (by kernel_rfl) (by simp) (AllReadyH.cons rfl (fun K hK => ?_) (AllReadyH.nil))
            · -- [2, 9] then 4
              clear hHeld
              obtain ⟨g113, hg113⟩ : ∃ g, g = x112.heap.size := ⟨_, rfl⟩
              have HNE : Hid (g111 ≠ g113) := Lib.hid (by rw [hg113]; exact Nat.ne_of_lt HG.out.1)
              have HE : Hid (w10.heap.size ≤ g113) := Lib.hid (by rw [hg113]; exact HS.out.2.2.1.out.size)
              obtain ⟨x113, hx113⟩ : ∃ W1, W1 = x112.alloc (.cells #[] 53) := ⟨_, rfl⟩
              have hst : Below x112.heap.size x112 x113 := by rw [hx113]; exact bell _ _
              replace HM := Lib.hid (HM.out.below hst)
              replace HG := Lib.hid (HG.out.below hst)
              have HL : Hid (LitAt x113 g113) := Lib.hid (by rw [hx113, hg113]; exact LitAt.new x112)
              have hNew := S9.step HS.out hst HS.out.2.2.1.out.size
              go_simp
              rw [← hx113, ← hg113]
              refine hK.out _ _ hNew (fun _ => ?_)
              clear hx113 hst hg113
              clear hK K
              have hHeld := hNew
              have HS := Lib.hid hNew
              clear hNew
              try simp only [Act.put, List.setIfInBounds_toArray, List.set_cons_zero, List.set_cons_succ, List.getElem_toArray, List.getElem_cons_zero, List.getElem_cons_succ]
              refine wpAnyH_ready (rs := [6]) (by kernel_rfl) (by simp) (AllReadyH.cons rfl (fun K hK => ?_) (AllReadyH.nil))
              · -- [2, 4, 9] then 6
                clear hHeld
                apply step_append_manyG (k := kArg) (base := g113) (s := .tmp 81) (x := .tmp 82) (ys := ags) (hown := HL.out.2) (hy := (HA.out.below (HB10.out.trans (HS.out.2.2.1.out.mono HB10.out.size))).lies) (hA := HA0.out) (hb := Nat.le_of_lt HL.out.1) (hn := L1.out) (hn2 := L4.out)
                any_goals rfl
                intro v' x114 ho hoff
                rw [List.nil_append] at ho
                have hst := HL.out.2.grown hoff (Nat.le_of_lt HL.out.1)
                have hNew := S9.step HS.out hst HE.out
                replace HM := Lib.hid (HM.out.off hoff (HM.out.1.not HL.out.2 (by decide)))
                replace HG := Lib.hid (HG.out.off hoff (by simpa [Value.ownBlock] using HNE.out))
                have HV : Hid (RowAt x114 g113 v' ags) := Lib.hid ⟨Nat.le_trans (Nat.le_of_lt HL.out.1) hst.size, ho⟩
                clear HNE
                obtain ⟨A114, c114, rfl, _⟩ := ho.form
                refine hK.out _ _ hNew (fun _ => ?_)
                clear ho hoff hst HL
                clear hK K
                have hHeld := hNew
                have HS := Lib.hid hNew
                clear hNew
                try simp only [Act.put, List.setIfInBounds_toArray, List.set_cons_zero, List.set_cons_succ, List.getElem_toArray, List.getElem_cons_zero, List.getElem_cons_succ]
                refine wpAnyH_ready (rs := [10]) (by kernel_rfl) (by simp) (AllReadyH.cons rfl (fun K hK => ?_) (AllReadyH.nil))
                · -- [2, 4, 6, 9] then 10
                  clear hHeld
                  apply step_append_gB (k := kArg) (base := g113) (s := .tmp 83) (x := .tmp 86) (t := ⟨zzS, true, dc, ds, ⟨#[]⟩⟩) (hown := HV.out.2) (hc := HG.out.2) (hb := HV.out.1) (hn := L2.out) (hn2 := L3.out)
                  any_goals rfl
                  intro v' x115 ho hoff hfr
                  have hst := HV.out.2.grown hoff HV.out.1
                  have hNew := S9.step HS.out hst HE.out
                  replace HM := Lib.hid (HM.out.off hoff (HM.out.1.not HV.out.2 (by decide)))
                  obtain ⟨A115, c115, rfl, f1, f2, f3, hin⟩ := args_of ho
                  have HR : Hid (ArgsIn x115 A115 (ags ++ [⟨zzS, true, dc, ds, ⟨#[]⟩⟩])) := Lib.hid hin
                  have F1 := Lib.hid f1
                  have F2 := Lib.hid f2
                  refine hK.out _ _ hNew (fun _ => ?_)
                  clear ho hoff hst hfr HV HG hin f1 f2 f3
                  clear hK K
                  have hHeld := hNew
                  have HS := Lib.hid hNew
                  clear hNew
                  try simp only [Act.put, List.setIfInBounds_toArray, List.set_cons_zero, List.set_cons_succ, List.getElem_toArray, List.getElem_cons_zero, List.getElem_cons_succ]
                  refine wpAnyH_ready (rs := [11]) (by kernel_rfl) (by simp) (AllReadyH.cons rfl (fun K hK => ?_) (AllReadyH.nil))
                  · -- [2, 4, 6, 9, 10] then 11
                    clear hHeld
                    have HB11 := Lib.hid (HB10.out.trans (HS.out.2.2.1.out.mono HB10.out.size))
                    have K4 := KS2.out x115 HB11.out _ 4 A115 c115 _ (node_in HM.out (carry HS.out.2.2.1.out HC.out.1) (carry HS.out.2.2.1.out HC.out.2) (NodesIn.below HB11.out f HN.out)) HR.out F1.out F2.out (by simp; omega) (fun a ha => by
                      rcases List.mem_append.1 ha with h | h
                      · exact HZ.out a h
                      · obtain rfl := List.mem_singleton.1 h
                        exact ⟨zz_sz, Nat.zero_le _⟩)
                    rw [HE4.out, List.length_append] at K4
                    go_simp
                    go_at_call 16
                    refine K4.mono ?_
                    rintro e x116 ⟨rfl, hst⟩
                    have hNew := S9.step HS.out hst HS.out.2.2.1.out.size
                    try dsimp only
                    refine hK.out _ _ hNew (fun _ => ?_)
                    have HB12 := Lib.hid (HB10.out.trans (hNew.2.2.1.out.mono HB10.out.size))
                    have hNew2 := hNew
                    clear hK K hNew hst K4
                    try simp only [Act.put, List.setIfInBounds_toArray, List.set_cons_zero, List.set_cons_succ, List.getElem_toArray, List.getElem_cons_zero, List.getElem_cons_succ]
                    have hHeld := hNew2
                    refine wpAnyH_take (i := 12) (v := ?v117) rfl (by kernel_rfl) (by kernel_rfl) (by kernel_rfl) (fun _ _ _ h => h) (Or.inl ⟨rfl, ?hy117⟩) hHeld ?rest117
                    case hy117 => (intro w hSw; clear hSw; go_simp; try with_reducible rfl)
                    try simp only [Act.put, List.setIfInBounds_toArray, List.set_cons_zero, List.set_cons_succ, List.getElem_toArray, List.getElem_cons_zero, List.getElem_cons_succ]
                    refine wpAnyH_take (i := 13) (v := ?v118) rfl (by kernel_rfl) (by kernel_rfl) (by kernel_rfl) (fun _ _ _ h => h) (Or.inl ⟨rfl, ?hy118⟩) hHeld ?rest118
                    case hy118 => (intro w hSw; clear hSw; go_simp; try with_reducible rfl)
                    try simp only [Act.put, List.setIfInBounds_toArray, List.set_cons_zero, List.set_cons_succ, List.getElem_toArray, List.getElem_cons_zero, List.getElem_cons_succ]
                    refine wpAnyH_take (i := 14) (v := ?v119) rfl (by kernel_rfl) (by kernel_rfl) (by kernel_rfl) (fun _ _ _ h => h) (Or.inl ⟨rfl, ?hy119⟩) hHeld ?rest119
                    case hy119 => (intro w hSw; clear hSw; go_simp; try with_reducible rfl)
                    try simp only [Act.put, List.setIfInBounds_toArray, List.set_cons_zero, List.set_cons_succ, List.getElem_toArray, List.getElem_cons_zero, List.getElem_cons_succ]
                    refine wpAnyH_take (i := 15) (v := ?v120) rfl (by kernel_rfl) (by kernel_rfl) (by kernel_rfl) (fun _ _ _ h => h) (Or.inl ⟨rfl, ?hy120⟩) hHeld ?rest120
                    case hy120 => (intro w hSw; clear hSw; go_simp; try with_reducible rfl)
                    try simp only [Act.put, List.setIfInBounds_toArray, List.set_cons_zero, List.set_cons_succ, List.getElem_toArray, List.getElem_cons_zero, List.getElem_cons_succ]
                    refine wpAnyH_take (i := 16) (v := ?v121) rfl (by kernel_rfl) (by kernel_rfl) (by kernel_rfl) (fun _ _ _ h => h) (Or.inl ⟨rfl, ?hy121⟩) hHeld ?rest121
                    case hy121 => (intro w hSw; clear hSw; go_simp; try with_reducible rfl)
                    try simp only [Act.put, List.setIfInBounds_toArray, List.set_cons_zero, List.set_cons_succ, List.getElem_toArray, List.getElem_cons_zero, List.getElem_cons_succ]
                    refine wpAnyH_done (by kernel_rfl) ?_ _
                    try dsimp only
                    rcases HK.out with rfl | ⟨rfl, rfl⟩
                    · go_wp2_with fail
                      refine (same_err 4 4 x116 (HT.out.below HB12.out)).mono ?_
                      rintro e w13 ⟨rfl, hb13⟩
                      have HB13 := Lib.hid (HB12.out.trans (hb13.mono HB12.out.size))
                      clear hb13
                      go_wp2_with fail
                      refine (told_same 4 4 w13 (HT.out.below HB13.out)).mono ?_
                      rintro e w14 ⟨rfl, hb14⟩
                      have HB14 := Lib.hid (HB13.out.trans (hb14.mono HB13.out.size))
                      clear hb14
                      go_wp2_with fail
                      go_ret
                      exact ⟨rfl, HB14.out⟩
                    · rw [show errOf 0 = Value.nilIface from rfl]
                      go_wp2_with fail
                      refine (same_err 0 4 x116 (HT.out.below HB12.out)).mono ?_
                      rintro e w13 ⟨rfl, hb13⟩
                      have HB13 := Lib.hid (HB12.out.trans (hb13.mono HB12.out.size))
                      clear hb13
                      go_wp2_with fail
                      refine (told_same 0 0 w13 (HT.out.below HB13.out)).mono ?_
                      rintro e w14 ⟨rfl, hb14⟩
                      have HB14 := Lib.hid (HB13.out.trans (hb14.mono HB13.out.size))
                      clear hb14
                      go_wp2_with fail
                      go_ret
                      exact ⟨rfl, HB14.out⟩
          · -- [9] then 4
            clear hHeld
            obtain ⟨g122, hg122⟩ : ∃ g, g = x111.heap.size := ⟨_, rfl⟩
            have HNE : Hid (g111 ≠ g122) := Lib.hid (by rw [hg122]; exact Nat.ne_of_lt HG.out.1)
            have HE : Hid (w10.heap.size ≤ g122) := Lib.hid (by rw [hg122]; exact HS.out.2.2.1.out.size)
            obtain ⟨x122, hx122⟩ : ∃ W1, W1 = x111.alloc (.cells #[] 53) := ⟨_, rfl⟩
            have hst : Below x111.heap.size x111 x122 := by rw [hx122]; exact bell _ _
            replace HG := Lib.hid (HG.out.below hst)
            have HL : Hid (LitAt x122 g122) := Lib.hid (by rw [hx122, hg122]; exact LitAt.new x111)
            have hNew := S9.step HS.out hst HS.out.2.2.1.out.size
            go_simp
            rw [← hx122, ← hg122]
            refine hK.out _ _ hNew (fun _ => ?_)
            clear hx122 hst hg122
            clear hK K
            have hHeld := hNew
            have HS := Lib.hid hNew
            clear hNew
            try simp only [Act.put, List.setIfInBounds_toArray, List.set_cons_zero, List.set_cons_succ, List.getElem_toArray, List.getElem_cons_zero, List.getElem_cons_succ]
            refine wpAnyH_ready (rs := [2, 6]) (by kernel_rfl) (by simp) (AllReadyH.cons rfl (fun K hK => ?_) (AllReadyH.cons rfl (fun K hK => ?_) (AllReadyH.nil)))
            · -- [4, 9] then 2
              clear hHeld
              obtain ⟨g123, hg123⟩ : ∃ g, g = x122.heap.size := ⟨_, rfl⟩
              obtain ⟨x123, hx123⟩ : ∃ W1, W1 = x122.alloc (.cells #[.int .i64 4, .string ⟨#[122, 122, 95, 122, 122, 95, 122, 122]⟩, .int .i64 0, .slice (some ⟨w4.heap.size, 0, none⟩) 1 1] 30) := ⟨_, rfl⟩
              have hst : Below x122.heap.size x122 x123 := by rw [hx123]; exact bell _ _
              replace HL := Lib.hid (HL.out.below hst)
              replace HG := Lib.hid (HG.out.below hst)
              have HM : Hid (NodeBlk x123 g123 4 w4.heap.size) := Lib.hid (by rw [hx123, hg123]; exact NodeBlk.new x122 4 w4.heap.size)
              have hNew := S9.step HS.out hst HS.out.2.2.1.out.size
              go_simp
              rw [← hx123, ← hg123]
              refine hK.out _ _ hNew (fun _ => ?_)
              clear hx123 hst hg123
              clear hK K
              have hHeld := hNew
              have HS := Lib.hid hNew
              clear hNew
              try simp only [Act.put, List.setIfInBounds_toArray, List.set_cons_zero, List.set_cons_succ, List.getElem_toArray, List.getElem_cons_zero, List.getElem_cons_succ]
              refine wpAnyH_ready (rs := [6]) (by kernel_rfl) (by simp) (AllReadyH.cons rfl (fun K hK => ?_) (AllReadyH.nil))
              · -- [2, 4, 9] then 6
                clear hHeld
                apply step_append_manyG (k := kArg) (base := g122) (s := .tmp 81) (x := .tmp 82) (ys := ags) (hown := HL.out.2) (hy := (HA.out.below (HB10.out.trans (HS.out.2.2.1.out.mono HB10.out.size))).lies) (hA := HA0.out) (hb := Nat.le_of_lt HL.out.1) (hn := L1.out) (hn2 := L4.out)
                any_goals rfl
                intro v' x124 ho hoff
                rw [List.nil_append] at ho
                have hst := HL.out.2.grown hoff (Nat.le_of_lt HL.out.1)
                have hNew := S9.step HS.out hst HE.out
                replace HM := Lib.hid (HM.out.off hoff (HM.out.1.not HL.out.2 (by decide)))
                replace HG := Lib.hid (HG.out.off hoff (by simpa [Value.ownBlock] using HNE.out))
                have HV : Hid (RowAt x124 g122 v' ags) := Lib.hid ⟨Nat.le_trans (Nat.le_of_lt HL.out.1) hst.size, ho⟩
                clear HNE
                obtain ⟨A124, c124, rfl, _⟩ := ho.form
                refine hK.out _ _ hNew (fun _ => ?_)
                clear ho hoff hst HL
                clear hK K
                have hHeld := hNew
                have HS := Lib.hid hNew
                clear hNew
                try simp only [Act.put, List.setIfInBounds_toArray, List.set_cons_zero, List.set_cons_succ, List.getElem_toArray, List.getElem_cons_zero, List.getElem_cons_succ]
                refine wpAnyH_ready (rs := [10]) (by kernel_rfl) (by simp) (AllReadyH.cons rfl (fun K hK => ?_) (AllReadyH.nil))
                · -- [2, 4, 6, 9] then 10
                  clear hHeld
                  apply step_append_gB (k := kArg) (base := g122) (s := .tmp 83) (x := .tmp 86) (t := ⟨zzS, true, dc, ds, ⟨#[]⟩⟩) (hown := HV.out.2) (hc := HG.out.2) (hb := HV.out.1) (hn := L2.out) (hn2 := L3.out)
                  any_goals rfl
                  intro v' x125 ho hoff hfr
                  have hst := HV.out.2.grown hoff HV.out.1
                  have hNew := S9.step HS.out hst HE.out
                  replace HM := Lib.hid (HM.out.off hoff (HM.out.1.not HV.out.2 (by decide)))
                  obtain ⟨A125, c125, rfl, f1, f2, f3, hin⟩ := args_of ho
                  have HR : Hid (ArgsIn x125 A125 (ags ++ [⟨zzS, true, dc, ds, ⟨#[]⟩⟩])) := Lib.hid hin
                  have F1 := Lib.hid f1
                  have F2 := Lib.hid f2
                  refine hK.out _ _ hNew (fun _ => ?_)
                  clear ho hoff hst hfr HV HG hin f1 f2 f3
                  clear hK K
                  have hHeld := hNew
                  have HS := Lib.hid hNew
                  clear hNew
                  try simp only [Act.put, List.setIfInBounds_toArray, List.set_cons_zero, List.set_cons_succ, List.getElem_toArray, List.getElem_cons_zero, List.getElem_cons_succ]
                  refine wpAnyH_ready (rs := [11]) (by kernel_rfl) (by simp) (AllReadyH.cons rfl (fun K hK => ?_) (AllReadyH.nil))
                  · -- [2, 4, 6, 9, 10] then 11
                    clear hHeld
                    have HB11 := Lib.hid (HB10.out.trans (HS.out.2.2.1.out.mono HB10.out.size))
                    have K4 := KS2.out x125 HB11.out _ 4 A125 c125 _ (node_in HM.out (carry HS.out.2.2.1.out HC.out.1) (carry HS.out.2.2.1.out HC.out.2) (NodesIn.below HB11.out f HN.out)) HR.out F1.out F2.out (by simp; omega) (fun a ha => by
                      rcases List.mem_append.1 ha with h | h
                      · exact HZ.out a h
                      · obtain rfl := List.mem_singleton.1 h
                        exact ⟨zz_sz, Nat.zero_le _⟩)
                    rw [HE4.out, List.length_append] at K4
                    go_simp
                    go_at_call 16
                    refine K4.mono ?_
                    rintro e x126 ⟨rfl, hst⟩
                    have hNew := S9.step HS.out hst HS.out.2.2.1.out.size
                    try dsimp only
                    refine hK.out _ _ hNew (fun _ => ?_)
                    have HB12 := Lib.hid (HB10.out.trans (hNew.2.2.1.out.mono HB10.out.size))
                    have hNew2 := hNew
                    clear hK K hNew hst K4
                    try simp only [Act.put, List.setIfInBounds_toArray, List.set_cons_zero, List.set_cons_succ, List.getElem_toArray, List.getElem_cons_zero, List.getElem_cons_succ]
                    have hHeld := hNew2
                    refine wpAnyH_take (i := 12) (v := ?v127) rfl (by kernel_rfl) (by kernel_rfl) (by kernel_rfl) (fun _ _ _ h => h) (Or.inl ⟨rfl, ?hy127⟩) hHeld ?rest127
                    case hy127 => (intro w hSw; clear hSw; go_simp; try with_reducible rfl)
                    try simp only [Act.put, List.setIfInBounds_toArray, List.set_cons_zero, List.set_cons_succ, List.getElem_toArray, List.getElem_cons_zero, List.getElem_cons_succ]
                    refine wpAnyH_take (i := 13) (v := ?v128) rfl (by kernel_rfl) (by kernel_rfl) (by kernel_rfl) (fun _ _ _ h => h) (Or.inl ⟨rfl, ?hy128⟩) hHeld ?rest128
                    case hy128 => (intro w hSw; clear hSw; go_simp; try with_reducible rfl)
                    try simp only [Act.put, List.setIfInBounds_toArray, List.set_cons_zero, List.set_cons_succ, List.getElem_toArray, List.getElem_cons_zero, List.getElem_cons_succ]
                    refine wpAnyH_take (i := 14) (v := ?v129) rfl (by kernel_rfl) (by kernel_rfl) (by kernel_rfl) (fun _ _ _ h => h) (Or.inl ⟨rfl, ?hy129⟩) hHeld ?rest129
                    case hy129 => (intro w hSw; clear hSw; go_simp; try with_reducible rfl)
                    try simp only [Act.put, List.setIfInBounds_toArray, List.set_cons_zero, List.set_cons_succ, List.getElem_toArray, List.getElem_cons_zero, List.getElem_cons_succ]
                    refine wpAnyH_take (i := 15) (v := ?v130) rfl (by kernel_rfl) (by kernel_rfl) (by kernel_rfl) (fun _ _ _ h => h) (Or.inl ⟨rfl, ?hy130⟩) hHeld ?rest130
                    case hy130 => (intro w hSw; clear hSw; go_simp; try with_reducible rfl)
                    try simp only [Act.put, List.setIfInBounds_toArray, List.set_cons_zero, List.set_cons_succ, List.getElem_toArray, List.getElem_cons_zero, List.getElem_cons_succ]
                    refine wpAnyH_take (i := 16) (v := ?v131) rfl (by kernel_rfl) (by kernel_rfl) (by kernel_rfl) (fun _ _ _ h => h) (Or.inl ⟨rfl, ?hy131⟩) hHeld ?rest131
                    case hy131 => (intro w hSw; clear hSw; go_simp; try with_reducible rfl)
                    try simp only [Act.put, List.setIfInBounds_toArray, List.set_cons_zero, List.set_cons_succ, List.getElem_toArray, List.getElem_cons_zero, List.getElem_cons_succ]
                    refine wpAnyH_done (by kernel_rfl) ?_ _
                    try dsimp only
                    rcases HK.out with rfl | ⟨rfl, rfl⟩
                    · go_wp2_with fail
                      refine (same_err 4 4 x126 (HT.out.below HB12.out)).mono ?_
                      rintro e w13 ⟨rfl, hb13⟩
                      have HB13 := Lib.hid (HB12.out.trans (hb13.mono HB12.out.size))
                      clear hb13
                      go_wp2_with fail
                      refine (told_same 4 4 w13 (HT.out.below HB13.out)).mono ?_
                      rintro e w14 ⟨rfl, hb14⟩
                      have HB14 := Lib.hid (HB13.out.trans (hb14.mono HB13.out.size))
                      clear hb14
                      go_wp2_with fail
                      go_ret
                      exact ⟨rfl, HB14.out⟩
                    · rw [show errOf 0 = Value.nilIface from rfl]
                      go_wp2_with fail
                      refine (same_err 0 4 x126 (HT.out.below HB12.out)).mono ?_
                      rintro e w13 ⟨rfl, hb13⟩
                      have HB13 := Lib.hid (HB12.out.trans (hb13.mono HB12.out.size))
                      clear hb13
                      go_wp2_with fail
                      refine (told_same 0 0 w13 (HT.out.below HB13.out)).mono ?_
                      rintro e w14 ⟨rfl, hb14⟩
                      have HB14 := Lib.hid (HB13.out.trans (hb14.mono HB13.out.size))
                      clear hb14
                      go_wp2_with fail
                      go_ret
                      exact ⟨rfl, HB14.out⟩
            · -- [4, 9] then 6
              clear hHeld
              apply step_append_manyG (k := kArg) (base := g122) (s := .tmp 81) (x := .tmp 82) (ys := ags) (hown := HL.out.2) (hy := (HA.out.below (HB10.out.trans (HS.out.2.2.1.out.mono HB10.out.size))).lies) (hA := HA0.out) (hb := Nat.le_of_lt HL.out.1) (hn := L1.out) (hn2 := L4.out)
              any_goals rfl
              intro v' x132 ho hoff
              rw [List.nil_append] at ho
              have hst := HL.out.2.grown hoff (Nat.le_of_lt HL.out.1)
              have hNew := S9.step HS.out hst HE.out
              replace HG := Lib.hid (HG.out.off hoff (by simpa [Value.ownBlock] using HNE.out))
              have HV : Hid (RowAt x132 g122 v' ags) := Lib.hid ⟨Nat.le_trans (Nat.le_of_lt HL.out.1) hst.size, ho⟩
              clear HNE
              obtain ⟨A132, c132, rfl, _⟩ := ho.form
              refine hK.out _ _ hNew (fun _ => ?_)
              clear ho hoff hst HL
              clear hK K
              have hHeld := hNew
              have HS := Lib.hid hNew
              clear hNew
              try simp only [Act.put, List.setIfInBounds_toArray, List.set_cons_zero, List.set_cons_succ, List.getElem_toArray, List.getElem_cons_zero, List.getElem_cons_succ]
              refine wpAnyH_ready (rs := [2, 10]) (by kernel_rfl) (by simp) (AllReadyH.cons rfl (fun K hK => ?_) (AllReadyH.cons rfl (fun K hK => ?_) (AllReadyH.nil)))
              · -- [4, 6, 9] then 2
                clear hHeld
                obtain ⟨g133, hg133⟩ : ∃ g, g = x132.heap.size := ⟨_, rfl⟩
                obtain ⟨x133, hx133⟩ : ∃ W1, W1 = x132.alloc (.cells #[.int .i64 4, .string ⟨#[122, 122, 95, 122, 122, 95, 122, 122]⟩, .int .i64 0, .slice (some ⟨w4.heap.size, 0, none⟩) 1 1] 30) := ⟨_, rfl⟩
                have hst : Below x132.heap.size x132 x133 := by rw [hx133]; exact bell _ _
                replace HG := Lib.hid (HG.out.below hst)
                replace HV := Lib.hid (HV.out.below hst)
                have HM : Hid (NodeBlk x133 g133 4 w4.heap.size) := Lib.hid (by rw [hx133, hg133]; exact NodeBlk.new x132 4 w4.heap.size)
                have hNew := S9.step HS.out hst HS.out.2.2.1.out.size
                go_simp
                rw [← hx133, ← hg133]
                refine hK.out _ _ hNew (fun _ => ?_)
                clear hx133 hst hg133
                clear hK K
                have hHeld := hNew
                have HS := Lib.hid hNew
                clear hNew
                try simp only [Act.put, List.setIfInBounds_toArray, List.set_cons_zero, List.set_cons_succ, List.getElem_toArray, List.getElem_cons_zero, List.getElem_cons_succ]
                refine wpAnyH_ready (rs := [10]) (by kernel_rfl) (by simp) (AllReadyH.cons rfl (fun K hK => ?_) (AllReadyH.nil))
                · -- [2, 4, 6, 9] then 10
                  clear hHeld
                  apply step_append_gB (k := kArg) (base := g122) (s := .tmp 83) (x := .tmp 86) (t := ⟨zzS, true, dc, ds, ⟨#[]⟩⟩) (hown := HV.out.2) (hc := HG.out.2) (hb := HV.out.1) (hn := L2.out) (hn2 := L3.out)
                  any_goals rfl
                  intro v' x134 ho hoff hfr
                  have hst := HV.out.2.grown hoff HV.out.1
                  have hNew := S9.step HS.out hst HE.out
                  replace HM := Lib.hid (HM.out.off hoff (HM.out.1.not HV.out.2 (by decide)))
                  obtain ⟨A134, c134, rfl, f1, f2, f3, hin⟩ := args_of ho
                  have HR : Hid (ArgsIn x134 A134 (ags ++ [⟨zzS, true, dc, ds, ⟨#[]⟩⟩])) := Lib.hid hin
                  have F1 := Lib.hid f1
                  have F2 := Lib.hid f2
                  refine hK.out _ _ hNew (fun _ => ?_)
                  clear ho hoff hst hfr HV HG hin f1 f2 f3
                  clear hK K
                  have hHeld := hNew
                  have HS := Lib.hid hNew
                  clear hNew
                  try simp only [Act.put, List.setIfInBounds_toArray, List.set_cons_zero, List.set_cons_succ, List.getElem_toArray, List.getElem_cons_zero, List.getElem_cons_succ]
                  refine wpAnyH_ready (rs := [11]) (by kernel_rfl) (by simp) (AllReadyH.cons rfl (fun K hK => ?_) (AllReadyH.nil))
                  · -- [2, 4, 6, 9, 10] then 11
                    clear hHeld
                    have HB11 := Lib.hid (HB10.out.trans (HS.out.2.2.1.out.mono HB10.out.size))
                    have K4 := KS2.out x134 HB11.out _ 4 A134 c134 _ (node_in HM.out (carry HS.out.2.2.1.out HC.out.1) (carry HS.out.2.2.1.out HC.out.2) (NodesIn.below HB11.out f HN.out)) HR.out F1.out F2.out (by simp; omega) (fun a ha => by
                      rcases List.mem_append.1 ha with h | h
                      · exact HZ.out a h
                      · obtain rfl := List.mem_singleton.1 h
                        exact ⟨zz_sz, Nat.zero_le _⟩)
                    rw [HE4.out, List.length_append] at K4
                    go_simp
                    go_at_call 16
                    refine K4.mono ?_
                    rintro e x135 ⟨rfl, hst⟩
                    have hNew := S9.step HS.out hst HS.out.2.2.1.out.size
                    try dsimp only
                    refine hK.out _ _ hNew (fun _ => ?_)
                    have HB12 := Lib.hid (HB10.out.trans (hNew.2.2.1.out.mono HB10.out.size))
                    have hNew2 := hNew
                    clear hK K hNew hst K4
                    try simp only [Act.put, List.setIfInBounds_toArray, List.set_cons_zero, List.set_cons_succ, List.getElem_toArray, List.getElem_cons_zero, List.getElem_cons_succ]
                    have hHeld := hNew2
                    refine wpAnyH_take (i := 12) (v := ?v136) rfl (by kernel_rfl) (by kernel_rfl) (by kernel_rfl) (fun _ _ _ h => h) (Or.inl ⟨rfl, ?hy136⟩) hHeld ?rest136
                    case hy136 => (intro w hSw; clear hSw; go_simp; try with_reducible rfl)
                    try simp only [Act.put, List.setIfInBounds_toArray, List.set_cons_zero, List.set_cons_succ, List.getElem_toArray, List.getElem_cons_zero, List.getElem_cons_succ]
                    refine wpAnyH_take (i := 13) (v := ?v137) rfl (by kernel_rfl) (by kernel_rfl) (by kernel_rfl) (fun _ _ _ h => h) (Or.inl ⟨rfl, ?hy137⟩) hHeld ?rest137
                    case hy137 => (intro w hSw; clear hSw; go_simp; try with_reducible rfl)
                    try simp only [Act.put, List.setIfInBounds_toArray, List.set_cons_zero, List.set_cons_succ, List.getElem_toArray, List.getElem_cons_zero, List.getElem_cons_succ]
                    refine wpAnyH_take (i := 14) (v := ?v138) rfl (by kernel_rfl) (by kernel_rfl) (by kernel_rfl) (fun _ _ _ h => h) (Or.inl ⟨rfl, ?hy138⟩) hHeld ?rest138
                    case hy138 => (intro w hSw; clear hSw; go_simp; try with_reducible rfl)
                    try simp only [Act.put, List.setIfInBounds_toArray, List.set_cons_zero, List.set_cons_succ, List.getElem_toArray, List.getElem_cons_zero, List.getElem_cons_succ]
                    refine wpAnyH_take (i := 15) (v := ?v139) rfl (by kernel_rfl) (by kernel_rfl) (by kernel_rfl) (fun _ _ _ h => h) (Or.inl ⟨rfl, ?hy139⟩) hHeld ?rest139
                    case hy139 => (intro w hSw; clear hSw; go_simp; try with_reducible rfl)
                    try simp only [Act.put, List.setIfInBounds_toArray, List.set_cons_zero, List.set_cons_succ, List.getElem_toArray, List.getElem_cons_zero, List.getElem_cons_succ]
                    refine wpAnyH_take (i := 16) (v := ?v140) rfl (by kernel_rfl) (by kernel_rfl) (by kernel_rfl) (fun _ _ _ h => h) (Or.inl ⟨rfl, ?hy140⟩) hHeld ?rest140
                    case hy140 => (intro w hSw; clear hSw; go_simp; try with_reducible rfl)
                    try simp only [Act.put, List.setIfInBounds_toArray, List.set_cons_zero, List.set_cons_succ, List.getElem_toArray, List.getElem_cons_zero, List.getElem_cons_succ]
                    refine wpAnyH_done (by kernel_rfl) ?_ _
                    try dsimp only
                    rcases HK.out with rfl | ⟨rfl, rfl⟩
                    · go_wp2_with fail
                      refine (same_err 4 4 x135 (HT.out.below HB12.out)).mono ?_
                      rintro e w13 ⟨rfl, hb13⟩
                      have HB13 := Lib.hid (HB12.out.trans (hb13.mono HB12.out.size))
                      clear hb13
                      go_wp2_with fail
                      refine (told_same 4 4 w13 (HT.out.below HB13.out)).mono ?_
                      rintro e w14 ⟨rfl, hb14⟩
                      have HB14 := Lib.hid (HB13.out.trans (hb14.mono HB13.out.size))
                      clear hb14
                      go_wp2_with fail
                      go_ret
                      exact ⟨rfl, HB14.out⟩
                    · rw [show errOf 0 = Value.nilIface from rfl]
                      go_wp2_with fail
                      refine (same_err 0 4 x135 (HT.out.below HB12.out)).mono ?_
                      rintro e w13 ⟨rfl, hb13⟩
                      have HB13 := Lib.hid (HB12.out.trans (hb13.mono HB12.out.size))
                      clear hb13
                      go_wp2_with fail
                      refine (told_same 0 0 w13 (HT.out.below HB13.out)).mono ?_
                      rintro e w14 ⟨rfl, hb14⟩
                      have HB14 := Lib.hid (HB13.out.trans (hb14.mono HB13.out.size))
                      clear hb14
                      go_wp2_with fail
                      go_ret
                      exact ⟨rfl, HB14.out⟩
              · -- [4, 6, 9] then 10
                clear hHeld
                apply step_append_gB (k := kArg) (base := g122) (s := .tmp 83) (x := .tmp 86) (t := ⟨zzS, true, dc, ds, ⟨#[]⟩⟩) (hown := HV.out.2) (hc := HG.out.2) (hb := HV.out.1) (hn := L2.out) (hn2 := L3.out)
                any_goals rfl
                intro v' x141 ho hoff hfr
                have hst := HV.out.2.grown hoff HV.out.1
                have hNew := S9.step HS.out hst HE.out
                obtain ⟨A141, c141, rfl, f1, f2, f3, hin⟩ := args_of ho
                have HR : Hid (ArgsIn x141 A141 (ags ++ [⟨zzS, true, dc, ds, ⟨#[]⟩⟩])) := Lib.hid hin
                have F1 := Lib.hid f1
                have F2 := Lib.hid f2
                refine hK.out _ _ hNew (fun _ => ?_)
                clear ho hoff hst hfr HV HG hin f1 f2 f3
                clear hK K
                have hHeld := hNew
                have HS := Lib.hid hNew
                clear hNew
                try simp only [Act.put, List.setIfInBounds_toArray, List.set_cons_zero, List.set_cons_succ, List.getElem_toArray, List.getElem_cons_zero, List.getElem_cons_succ]
                refine wpAnyH_ready (rs := [2]) (by kernel_rfl) (by simp) (AllReadyH.cons rfl (fun K hK => ?_) (AllReadyH.nil))
                · -- [4, 6, 9, 10] then 2
                  clear hHeld
                  obtain ⟨g142, hg142⟩ : ∃ g, g = x141.heap.size := ⟨_, rfl⟩
                  obtain ⟨x142, hx142⟩ : ∃ W1, W1 = x141.alloc (.cells #[.int .i64 4, .string ⟨#[122, 122, 95, 122, 122, 95, 122, 122]⟩, .int .i64 0, .slice (some ⟨w4.heap.size, 0, none⟩) 1 1] 30) := ⟨_, rfl⟩
                  have hst : Below x141.heap.size x141 x142 := by rw [hx142]; exact bell _ _
                  replace HR := Lib.hid (HR.out.below hst)
                  have HM : Hid (NodeBlk x142 g142 4 w4.heap.size) := Lib.hid (by rw [hx142, hg142]; exact NodeBlk.new x141 4 w4.heap.size)
                  have hNew := S9.step HS.out hst HS.out.2.2.1.out.size
                  go_simp
                  rw [← hx142, ← hg142]
                  refine hK.out _ _ hNew (fun _ => ?_)
                  clear hx142 hst hg142
                  clear hK K
                  have hHeld := hNew
                  have HS := Lib.hid hNew
                  clear hNew
                  try simp only [Act.put, List.setIfInBounds_toArray, List.set_cons_zero, List.set_cons_succ, List.getElem_toArray, List.getElem_cons_zero, List.getElem_cons_succ]
                  refine wpAnyH_ready (rs := [11]) (by kernel_rfl) (by simp) (AllReadyH.cons rfl (fun K hK => ?_) (AllReadyH.nil))
                  · -- [2, 4, 6, 9, 10] then 11
                    clear hHeld
                    have HB11 := Lib.hid (HB10.out.trans (HS.out.2.2.1.out.mono HB10.out.size))
                    have K4 := KS2.out x142 HB11.out _ 4 A141 c141 _ (node_in HM.out (carry HS.out.2.2.1.out HC.out.1) (carry HS.out.2.2.1.out HC.out.2) (NodesIn.below HB11.out f HN.out)) HR.out F1.out F2.out (by simp; omega) (fun a ha => by
                      rcases List.mem_append.1 ha with h | h
                      · exact HZ.out a h
                      · obtain rfl := List.mem_singleton.1 h
                        exact ⟨zz_sz, Nat.zero_le _⟩)
                    rw [HE4.out, List.length_append] at K4
                    go_simp
                    go_at_call 16
                    refine K4.mono ?_
                    rintro e x143 ⟨rfl, hst⟩
                    have hNew := S9.step HS.out hst HS.out.2.2.1.out.size
                    try dsimp only
                    refine hK.out _ _ hNew (fun _ => ?_)
                    have HB12 := Lib.hid (HB10.out.trans (hNew.2.2.1.out.mono HB10.out.size))
                    have hNew2 := hNew
                    clear hK K hNew hst K4
                    try simp only [Act.put, List.setIfInBounds_toArray, List.set_cons_zero, List.set_cons_succ, List.getElem_toArray, List.getElem_cons_zero, List.getElem_cons_succ]
                    have hHeld := hNew2
                    refine wpAnyH_take (i := 12) (v := ?v144) rfl (by kernel_rfl) (by kernel_rfl) (by kernel_rfl) (fun _ _ _ h => h) (Or.inl ⟨rfl, ?hy144⟩) hHeld ?rest144
                    case hy144 => (intro w hSw; clear hSw; go_simp; try with_reducible rfl)
                    try simp only [Act.put, List.setIfInBounds_toArray, List.set_cons_zero, List.set_cons_succ, List.getElem_toArray, List.getElem_cons_zero, List.getElem_cons_succ]
                    refine wpAnyH_take (i := 13) (v := ?v145) rfl (by kernel_rfl) (by kernel_rfl) (by kernel_rfl) (fun _ _ _ h => h) (Or.inl ⟨rfl, ?hy145⟩) hHeld ?rest145
                    case hy145 => (intro w hSw; clear hSw; go_simp; try with_reducible rfl)
                    try simp only [Act.put, List.setIfInBounds_toArray, List.set_cons_zero, List.set_cons_succ, List.getElem_toArray, List.getElem_cons_zero, List.getElem_cons_succ]
                    refine wpAnyH_take (i := 14) (v := ?v146) rfl (by kernel_rfl) (by kernel_rfl) (by kernel_rfl) (fun _ _ _ h => h) (Or.inl ⟨rfl, ?hy146⟩) hHeld ?rest146
                    case hy146 => (intro w hSw; clear hSw; go_simp; try with_reducible rfl)
                    try simp only [Act.put, List.setIfInBounds_toArray, List.set_cons_zero, List.set_cons_succ, List.getElem_toArray, List.getElem_cons_zero, List.getElem_cons_succ]
                    refine wpAnyH_take (i := 15) (v := ?v147) rfl (by kernel_rfl) (by kernel_rfl) (by kernel_rfl) (fun _ _ _ h => h) (Or.inl ⟨rfl, ?hy147⟩) hHeld ?rest147
                    case hy147 => (intro w hSw; clear hSw; go_simp; try with_reducible rfl)
                    try simp only [Act.put, List.setIfInBounds_toArray, List.set_cons_zero, List.set_cons_succ, List.getElem_toArray, List.getElem_cons_zero, List.getElem_cons_succ]
                    refine wpAnyH_take (i := 16) (v := ?v148) rfl (by kernel_rfl) (by kernel_rfl) (by kernel_rfl) (fun _ _ _ h => h) (Or.inl ⟨rfl, ?hy148⟩) hHeld ?rest148
                    case hy148 => (intro w hSw; clear hSw; go_simp; try with_reducible rfl)
                    try simp only [Act.put, List.setIfInBounds_toArray, List.set_cons_zero, List.set_cons_succ, List.getElem_toArray, List.getElem_cons_zero, List.getElem_cons_succ]
                    refine wpAnyH_done (by kernel_rfl) ?_ _
                    try dsimp only
                    rcases HK.out with rfl | ⟨rfl, rfl⟩
                    · go_wp2_with fail
                      refine (same_err 4 4 x143 (HT.out.below HB12.out)).mono ?_
                      rintro e w13 ⟨rfl, hb13⟩
                      have HB13 := Lib.hid (HB12.out.trans (hb13.mono HB12.out.size))
                      clear hb13
                      go_wp2_with fail
                      refine (told_same 4 4 w13 (HT.out.below HB13.out)).mono ?_
                      rintro e w14 ⟨rfl, hb14⟩
                      have HB14 := Lib.hid (HB13.out.trans (hb14.mono HB13.out.size))
                      clear hb14
                      go_wp2_with fail
                      go_ret
                      exact ⟨rfl, HB14.out⟩
                    · rw [show errOf 0 = Value.nilIface from rfl]
                      go_wp2_with fail
                      refine (same_err 0 4 x143 (HT.out.below HB12.out)).mono ?_
                      rintro e w13 ⟨rfl, hb13⟩
                      have HB13 := Lib.hid (HB12.out.trans (hb13.mono HB12.out.size))
                      clear hb13
                      go_wp2_with fail
                      refine (told_same 0 0 w13 (HT.out.below HB13.out)).mono ?_
                      rintro e w14 ⟨rfl, hb14⟩
                      have HB14 := Lib.hid (HB13.out.trans (hb14.mono HB13.out.size))
                      clear hb14
                      go_wp2_with fail
                      go_ret
                      exact ⟨rfl, HB14.out⟩
      · have hdd : decide (¬ decOk dc ds) = true := decide_eq_true hd
        rw [hdd] at KD
        clear hd hdd
        go_wp2_with fail
        refine KD.out.mono ?_
        rintro e w4 ⟨rfl, hb4⟩
        go_wp2_with fail
        go_ret
        exact ⟨rfl, HB3.out.trans (hb4.mono HB3.out.size)⟩
  · have hno := topT_no hr
    have E0 : errOf (topT S f ms ags).1 = errT (topT S f ms ags).1 := if_neg hr
    rw [E0, hno]
    clear hr hno E0
    generalize (topT S f ms ags).1 = E at *
    go_wp2_with fail
    go_ret
    exact ⟨rfl, HB2.out⟩
end Go.Proofs.YthlcjlmaaaappaaGreatDoor
