/- FindInOne: texts put together. -/
import Derived.Test.YtplaohmdllindaaGreatDoorQn46
import Derived.Test.YtplaohmdllindaaGreatDoorQn51
import Derived.Test.YtplaohmdllindaaGreatDoorQn49
import Derived.Test.YtplaohmdllindaaGreatDoorQn47
import Derived.Deep.RegionHeld3
import Derived.Deep.QuietTactic
import Derived.BigQuiet
import Derived.Test.YtplaohmdllindaaGreatDoorQn1
set_option linter.unusedVariables false
set_option linter.unusedSimpArgs false
/- find.In, where names have one part. -/
namespace Go.Proofs.YtplaohmdllindaaGreatDoor
open Go.RowKit

theorem tagC_eq {s l sc rg : ByteArray} {vs : List ByteArray} (h : madeT s.data.toList = ⟨l.data.toList, sc.data.toList, rg.data.toList, listsOf vs⟩) : tagC s = ⟨l, sc, rg, vs⟩ := by
  unfold tagC
  rw [h]
  have e : (listsOf vs).map (fun x => (⟨x.toArray⟩ : ByteArray)) = vs := by
    unfold listsOf
    rw [List.map_map]
    exact List.map_id' _
  simp only [e]
theorem en_right : enC.err = 0 := by decide +kernel
theorem findC_step (l : List BunC) (key : ByteArray) (cs : List TagC) (j : Nat) (t : TagC) (h : cs[j]? = some t) : findC l key (cs.drop j) = match bunAt t.text key 0 l with
    | some x => some x
    | none => findC l key (cs.drop (j + 1)) := by
  obtain ⟨hk, rfl⟩ := List.getElem?_eq_some_iff.1 h
  rw [List.drop_eq_getElem_cons hk, findC]
  rfl
/-- a chain's tags, and English, are right -/
theorem cs_right {C : TagC} (h : C.err = 0) : ∀ u ∈ chainC C ++ [enC], u.err = 0 := fun u hu => by
  rcases List.mem_append.1 hu with hu | hu
  · exact chainC_err _ C rfl h u hu
  · rw [List.mem_singleton.1 hu]; exact en_right
theorem text_tag (t : TagD) (w : World) (ht : t.ok w) (he : t.c.err = 0) :
    Calls Tryz.prog 108 #[tagV t.c.l t.c.s t.c.r t.A t.c.vs.length t.n] w fun e w' => e = .returned (.string ⟨t.c.text.toArray⟩) ∧ Below w.heap.size w w' :=
  tag_text t.c.l t.c.s t.c.r t.A t.n t.c.vs w ht.1.strs ht.2.1 he
theorem ent_first {es : List EntC} {key : ByteArray} {m : Nat} {e : EntC} (h : es[m]? = some e) (hk : (e.key.toList == key.toList) = true) (hf : ∀ y ∈ es.take m, (y.key.toList == key.toList) = false) : entText es key = some e.text := by
  rw [entText_at, entAt_some h hk hf]
  show (es[m]?).map (·.text) = _
  rw [h]
  rfl
theorem ent_miss {es : List EntC} {key : ByteArray} (hf : ∀ y ∈ es, (y.key.toList == key.toList) = false) : entText es key = none := entText_none (entAt_none hf)

set_option maxHeartbeats 16000000 in
set_option maxRecDepth 100000 in
theorem find_in1 (A : Option Addr) (c : Nat) (l : List BunC) (name key : ByteArray) (w : World) (hM : MaxL w) (hL : BunsIn w A l) (hc : l.length ≤ c) (hc2 : c ≤ 9223372036854775807) (hs : ∀ b ∈ l, b.small) (hn : name.size ≤ 1000000000) (hone : One name) (hbo : ∀ b ∈ l, One b.tag) :
    Calls Tryz.prog 54 #[.slice A l.length c, .string name, .string key] w fun e w' => e = .returned (.tuple #[.int .i64 ((findP l name key).2.1 : Int), .string (findP l name key).2.2, errOf (findP l name key).1]) ∧ Below w.heap.size w w' := by
  obtain ⟨R, hR⟩ : ∃ R, R = findP l name key := ⟨_, rfl⟩
  rw [← hR]
  unfold findP at hR
  have HR := Lib.hid hR
  have HL := Lib.hid hL
  have HM := Lib.hid hM
  have HS := Lib.hid hs
  have HON := Lib.hid hone
  have HBO := Lib.hid hbo
  have E0 : Hid (errOf 0 = .nilIface) := Lib.hid rfl
  clear hR hL hM hs hone hbo
  go_enter Tryz.func54, Tryz.ntmps54
  go_wp2_with fail
  go_loopw [23] (fun i wr => ∃ k : Nat, k ≤ l.length ∧ i = .int .i64 k ∧ Hid (loadErr [] l = loadErr ((l.take k).map (·.tag)) (l.drop k)) ∧ Hid (Below w.heap.size w wr)) (fun i _ => l.length - (intOf i).toNat)
  case atStart => exact ⟨0, Nat.zero_le _, rfl, Lib.hid rfl, Lib.hid (Below.refl _ _)⟩
  case round =>
    obtain ⟨k, hk, rfl, HX, HB⟩ := hrel
    have sk := HB.out.size
    by_cases hlt : k < l.length
    · have HLr := Lib.hid (HL.out.below HB.out)
      obtain ⟨g, o, rfl, hat⟩ := HLr.out.at (by omega)
      obtain ⟨x, hx⟩ : ∃ x, l[k]? = some x := ⟨l[k], List.getElem?_eq_getElem hlt⟩
      obtain ⟨B, d, n0, n1, hF⟩ := hat k x hx
      have hxs := HS.out x (List.mem_of_getElem? hx)
      have hbA : Below wr.heap.size wr (wr.alloc (.cells #[.string x.tag, .slice B x.es.length d] 64)) := belx
      have KB := Lib.hid (prop_check1 x B d _ (HM.out.below (HB.out.trans (hbA.mono sk))) (hF.below hbA) hxs (HBO.out x (List.mem_of_getElem? hx)))
      have HX2 := Lib.hid (HX.out.trans (loadErr_step l k x hx))
      have HBA := Lib.hid (HB.out.trans (hbA.mono sk))
      have i0 : (0 : Int) ≤ (k : Int) := by omega
      have i1 : (k : Int) < (l.length : Int) := by omega
      have i2 : (k : Int) ≤ (c : Int) := by omega
      have e1 : IntKind.i64.wrap ((k : Int) + 1) = (k : Int) + 1 := IntWalk.i64_in _ (by omega)
      clear hat hx hF hxs HX hbA
      by_cases he : x.err = 0
      · have HX3 : Hid (loadErr [] l = if memB ((l.take k).map (·.tag)) x.tag = true then 5 else loadErr ((l.take (k + 1)).map (·.tag)) (l.drop (k + 1))) := Lib.hid (by rw [HX2.out, if_pos he])
        rw [he, E0.out] at KB
        clear he HX2
        go_wp2_with fail
        refine KB.out.mono ?_
        rintro e w2 ⟨rfl, hb2⟩
        have HB2 := Lib.hid (HBA.out.trans (hb2.mono HBA.out.size))
        have hbx : w2.cell? ⟨wr.heap.size, 0, none⟩ = some (.string x.tag) := carry hb2 (by go_simp)
        have KH := Lib.hid (has_tag (some ⟨g, o, none⟩) k c wr.heap.size l x.tag w2 (HL.out.below HB2.out) (by omega) (by omega) hc2 hbx)
        clear hb2 hbx KB
        cases hm : memB ((l.take k).map (·.tag)) x.tag
        · have HX4 : Hid (loadErr [] l = loadErr ((l.take (k + 1)).map (·.tag)) (l.drop (k + 1))) := Lib.hid (by rw [HX3.out, hm]; simp)
          rw [hm] at KH
          clear hm HX3
          go_wp2_with fail
          refine KH.out.mono ?_
          rintro e w3 ⟨rfl, hb3⟩
          have HB3 := Lib.hid (HB2.out.trans (hb3.mono HB2.out.size))
          clear hb3
          go_wp2_with fail
          go_roundw
          case rel => exact ⟨k + 1, by omega, by go_num, HX4, HB3⟩
          case measure => simp [intOf]; omega
        · have HD : Hid (R = (5, 0, ⟨#[]⟩)) := Lib.hid (by
            have h5 : loadErr [] l = 5 := by rw [HX3.out, if_pos hm]
            rw [HR.out, h5]
            rfl)
          rw [hm] at KH
          clear hm HX3
          go_wp2_with fail
          refine KH.out.mono ?_
          rintro e w3 ⟨rfl, hb3⟩
          go_wp2_with fail
          go_ret3
          rw [HD.out]
          exact ⟨rfl, HB2.out.trans (hb3.mono HB2.out.size)⟩
      · have HD : Hid (R = (x.err, 0, ⟨#[]⟩)) := Lib.hid (by
          have h5 : loadErr [] l = x.err := by rw [HX2.out, if_neg he]
          rw [HR.out, h5, if_neg he])
        have ET : Hid (errOf x.err = errT x.err) := Lib.hid (if_neg he)
        rw [ET.out] at KB
        clear he HX2
        generalize x.err = E at *
        go_wp2_with fail
        refine KB.out.mono ?_
        rintro e w2 ⟨rfl, hb2⟩
        go_wp2_with fail
        go_ret3
        rw [HD.out, ET.out]
        exact ⟨rfl, HBA.out.trans (hb2.mono HBA.out.size)⟩
    · obtain rfl : k = l.length := by omega
      have HX0 : Hid (loadErr [] l = 0) := Lib.hid (by rw [HX.out, List.drop_length]; rfl)
      have KT := Lib.hid (prop_tag1 name wr (HM.out.below HB.out) hn HON.out)
      clear HX
      cases hT : ownTag name.data.toList
      · have HD : Hid (R = (3, 0, ⟨#[]⟩)) := Lib.hid (by rw [HR.out, HX0.out, hT]; rfl)
        rw [hT] at KT
        clear hT
        go_wp2_with fail
        refine KT.out.mono ?_
        rintro e w2 ⟨rfl, hb2⟩
        go_wp2_with fail
        go_ret3
        rw [HD.out]
        exact ⟨rfl, HB.out.trans (hb2.mono sk)⟩
      · rw [hT] at KT
        have hi : isTag name.data.toList = true := by unfold ownTag at hT; rw [Bool.and_eq_true] at hT; exact hT.1
        have HR2 : Hid (R = match findC l key (chainC (tagC name) ++ [enC]) with
          | some x => (0, x)
          | none => (2, 0, ⟨#[]⟩)) := Lib.hid (by rw [HR.out, if_pos HX0.out, if_pos hT]; rfl)
        have HI := Lib.hid hi
        clear hT hi HR
        go_wp2_with fail
        refine KT.out.mono ?_
        rintro e w2 ⟨rfl, hb2⟩
        have HB2 := Lib.hid (HB.out.trans (hb2.mono sk))
        have KP := Lib.hid (tag_parse1 name w2 (HM.out.below HB2.out) hn HON.out)
        clear hb2 KT
        go_wp2_with fail
        refine KP.out.mono ?_
        rintro e w3 ⟨ho, hb3⟩
        have HB3 := Lib.hid (HB2.out.trans (hb3.mono HB2.out.size))
        rcases ho with ⟨_, tl, sc, rg, A3, c3, vs, rfl, hm, hS, hcv, hA3⟩ | ⟨hno, _⟩
        · have hC := tagC_eq hm
          have he : (TagC.mk tl sc rg vs).err = 0 := by
            have h1 := HI.out
            unfold isTag TagS.err at h1
            rw [hm] at h1
            simp only [Bool.and_eq_true, beq_iff_eq] at h1
            exact h1.1
          rw [hC] at HR2
          have he' : tagErr tl.data.toList sc.data.toList rg.data.toList (listsOf vs) = 0 := he
          have hv3 : vs.length ≤ 3 := by have := (tagErr_ok he').2.2.2.2; simpa using this
          obtain ⟨q1, q2, q3, q4, q5⟩ : tl.size ≤ 1000 ∧ sc.size ≤ 1000 ∧ rg.size ≤ 1000 ∧ (∀ v ∈ vs, v.size ≤ 1000) ∧ True := by
            obtain ⟨k1, k2, k3, k4, _⟩ := tagErr_ok he'
            have m1 := madeB_len k1
            rw [tsize] at m1
            refine ⟨by omega, ?_, ?_, fun v hv => ?_, trivial⟩
            · rcases k2 with h | h
              · rw [← tsize, h]; decide
              · have := scriptB_len h; rw [tsize] at this; omega
            · rcases k3 with h | h
              · rw [← tsize, h]; decide
              · have := regionB_len h; rw [tsize] at this; omega
            · have := madeB_len (varErr_len _ _ k4 v.data.toList (List.mem_map_of_mem hv))
              rw [tsize] at this
              omega
          have hbA : Below w3.heap.size w3 (w3.alloc (.cells #[.string tl, .string sc, .string rg, .slice A3 vs.length c3] 204)) := belx
          have KCh := Lib.hid (chain_ok tl sc rg A3 c3 vs _ (hS.below hbA) hA3 he (fun W hb => by
            refine (tag_check tl sc rg A3 c3 vs W (by omega) (by omega) (by omega) ((hS.below hbA).below hb) (by omega) hcv (fun v hv => by have := q4 v hv; omega)).mono ?_
            rintro e w' ⟨rfl, hb'⟩
            refine ⟨?_, hb'⟩
            rw [he']
            rfl))
          have HBA := Lib.hid (HB3.out.trans (hbA.mono HB3.out.size))
          have HRT := Lib.hid (cs_right he)
          have h5 := sizeC_le he
          have hlenC : (chainC (TagC.mk tl sc rg vs)).length ≤ 1000 := by rw [chainC_len _ _ rfl]; omega
          have HLC := Lib.hid hlenC
          clear hbA hS hm hC he he' hb3 HI KP h5 hlenC q1 q2 q3 q4
          go_wp2_with fail
          refine KCh.out.mono ?_
          rintro e w4 ⟨⟨g4, cp4, ts, rfl, hts, hot, htk⟩, hb4⟩
          have HB4 := Lib.hid (HBA.out.trans (hb4.mono HBA.out.size))
          obtain ⟨cc, hcc⟩ : ∃ cc, cc = chainC (TagC.mk tl sc rg vs) := ⟨_, rfl⟩
          rw [← hcc] at HR2 HRT HLC hts
          obtain ⟨bs, hbs⟩ : ∃ b, b = (w3.alloc (.cells #[.string tl, .string sc, .string rg, .slice A3 vs.length c3] 204)).heap.size := ⟨_, rfl⟩
          rw [← hbs] at hot
          have hb4s : bs ≤ w4.heap.size := by rw [hbs]; exact hb4.size
          have hwb : w.heap.size ≤ bs := by rw [hbs]; exact HBA.out.size
          have hlt4 : ts.length ≤ 1000 := by have := HLC.out; rw [← hts, List.length_map] at this; exact this
          have HOT := Lib.hid (hot.alloc (.cells #[.string ⟨#[101, 110]⟩, .string ⟨#[]⟩, .string ⟨#[]⟩, .slice none 0 0] 204))
          have hb0 : Below w4.heap.size w4 (w4.alloc (.cells #[.string ⟨#[101, 110]⟩, .string ⟨#[]⟩, .string ⟨#[]⟩, .slice none 0 0] 204)) := belx
          have HB0 := Lib.hid hb0
          have HTK := Lib.hid (fun t ht => (htk t ht).below hb0)
          have HTS := Lib.hid hts
          have HEC : Hid (∀ i u, (TagD.mk enC none 0).cells[i]? = some u → (w4.alloc (.cells #[.string ⟨#[101, 110]⟩, .string ⟨#[]⟩, .string ⟨#[]⟩, .slice none 0 0] 204)).cell? ⟨w4.heap.size, i, none⟩ = some u) := Lib.hid (fun i u hu => by
            match i, u, hu with
            | 0, _, hu => injection hu with hu; subst hu; go_simp; rfl
            | 1, _, hu => injection hu with hu; subst hu; go_simp; rfl
            | 2, _, hu => injection hu with hu; subst hu; go_simp; rfl
            | 3, _, hu => injection hu with hu; subst hu; go_simp; rfl)
          clear hot hts htk hb4 hcc hbs hb0 KCh
          go_wp2_with (at_builtin; refine wpList_append_tag rfl _ _ rfl ⟨enC, none, 0⟩ rfl rfl rfl HOT.out HEC.out (by simp; omega) (by omega) ?_; intro v' w5 ho hoff hfr; have HO := Lib.hid ho; have HOF := Lib.hid hoff; obtain ⟨g5, c5, rfl, hcap5, _⟩ := ho.form (by simp); clear ho hoff hfr)
          have hbg := OwnsT.grown HOT.out HOF.out (by simp; omega)
          have HB5 := Lib.hid ((HB4.out.trans (HB0.out.mono HB4.out.size)).trans (hbg.mono hwb))
          obtain ⟨us, hus⟩ : ∃ us : List TagD, us = ts ++ [⟨enC, none, 0⟩] := ⟨_, rfl⟩
          have hul : us.length = ts.length + 1 := by rw [hus]; simp
          have HUK : Hid (∀ t ∈ us, t.ok w5) := Lib.hid (fun t ht => by
            rw [hus] at ht
            rcases List.mem_append.1 ht with ht | ht
            · exact (HTK.out t ht).off HOF.out (OwnsT.other HOT.out)
            · rw [List.mem_singleton.1 ht]
              exact ⟨.inl rfl, fun _ => rfl, Nat.le_refl _⟩)
          have HUC : Hid (us.map (·.c) = cc ++ [enC]) := Lib.hid (by rw [hus, List.map_append, HTS.out]; rfl)
          have ho5 := HO.out
          rw [← hus] at ho5
          have HTI := Lib.hid (OwnsT.tags ho5).2.2
          have hc5 : ts.length + 1 ≤ c5 := by simp at hcap5; omega
          have s5 := HB5.out.size
          clear hbg ho5 hus HO HOF HOT HTK HTS HEC hcap5
          go_loopw [65] (fun i wr => ∃ j : Nat, j ≤ ts.length + 1 ∧ i = .int .i64 j ∧ Hid (findC l key (cc ++ [enC]) = findC l key ((cc ++ [enC]).drop j)) ∧ Hid (Below w5.heap.size w5 wr)) (fun i _ => ts.length + 1 - (intOf i).toNat)
          case atStart => exact ⟨0, Nat.zero_le _, rfl, Lib.hid rfl, Lib.hid (Below.refl _ _)⟩
          case round =>
            obtain ⟨j, hj, rfl, HFj, HBj⟩ := hrel
            have sj := HBj.out.size
            by_cases hjl : j < ts.length + 1
            · obtain ⟨t, ht⟩ : ∃ t, us[j]? = some t := ⟨us[j]'(by omega), List.getElem?_eq_getElem (by omega)⟩
              have m0 := carry HBj.out (HTI.out j t 0 _ ht rfl)
              have m1 := carry HBj.out (HTI.out j t 1 _ ht rfl)
              have m2 := carry HBj.out (HTI.out j t 2 _ ht rfl)
              have m3 := carry HBj.out (HTI.out j t 3 _ ht rfl)
              rw [Nat.zero_add] at m0 m1 m2 m3
              rw [Nat.add_zero] at m0
              have htc : (cc ++ [enC])[j]? = some t.c := by rw [← HUC.out, List.getElem?_map, ht]; rfl
              have hter := HRT.out t.c (List.mem_of_getElem? htc)
              have htk := (HUK.out t (List.mem_of_getElem? ht)).below HBj.out
              have HFS := Lib.hid (HFj.out.trans (findC_step l key _ j t.c htc))
              have i0 : (0 : Int) ≤ (j : Int) := by omega
              have i1 : (j : Int) < (ts.length : Int) + 1 := by omega
              have i2 : (j : Int) ≤ (c5 : Int) := by omega
              have e1 : IntKind.i64.wrap ((j : Int) + 1) = (j : Int) + 1 := IntWalk.i64_in _ (by omega)
              have HTC := Lib.hid hter
              have HTK := Lib.hid htk
              clear ht htc hter htk HFj
              obtain ⟨W0, hW0⟩ : ∃ W0, W0 = wr.alloc (.cells #[.string t.c.l, .string t.c.s, .string t.c.r, .slice t.A t.c.vs.length t.n] 204) := ⟨_, rfl⟩
              obtain ⟨tb, htb⟩ : ∃ tb, tb = wr.heap.size := ⟨_, rfl⟩
              have hst : Below wr.heap.size wr W0 := by rw [hW0]; exact belx
              have t0 : W0.cell? ⟨tb, 0, none⟩ = some (.string t.c.l) := by rw [hW0, htb]; go_simp
              have t1 : W0.cell? ⟨tb, 1, none⟩ = some (.string t.c.s) := by rw [hW0, htb]; go_simp
              have t2 : W0.cell? ⟨tb, 2, none⟩ = some (.string t.c.r) := by rw [hW0, htb]; go_simp
              have t3 : W0.cell? ⟨tb, 3, none⟩ = some (.slice t.A t.c.vs.length t.n) := by rw [hW0, htb]; go_simp
              have HT4 := Lib.hid (⟨t0, t1, t2, t3⟩ : _ ∧ _ ∧ _ ∧ _)
              have HB0 := Lib.hid (HBj.out.trans (hst.mono sj))
              have HBW0 := Lib.hid (HB5.out.trans (HB0.out.mono s5))
              have HTK0 := Lib.hid (HTK.out.below hst)
              clear hst t0 t1 t2 t3 HTK
              obtain ⟨T, hT⟩ : ∃ T : ByteArray, T = ⟨t.c.text.toArray⟩ := ⟨_, rfl⟩
              have HTT : Hid (t.c.text = T.data.toList) := Lib.hid (by rw [hT])
              have KX := Lib.hid (fun W (hb : Below W0.heap.size W0 W) => text_tag t W (HTK0.out.below hb) HTC.out)
              rw [← hT] at KX
              clear hT
              go_wp2_with fail
              rw [← hW0, ← htb]
              clear hW0 htb m0 m1 m2 m3
              go_loopw [71] (fun i wr => ∃ p : Nat, p ≤ l.length ∧ i = .int .i64 p ∧ Hid (bunAt t.c.text key 0 l = bunAt t.c.text key p (l.drop p)) ∧ Hid (Below W0.heap.size W0 wr)) (fun i _ => l.length - (intOf i).toNat)
              case atStart => exact ⟨0, Nat.zero_le _, rfl, Lib.hid rfl, Lib.hid (Below.refl _ _)⟩
              case round =>
                obtain ⟨p, hp, rfl, HFp, HBp⟩ := hrel
                have HBW := Lib.hid (HBW0.out.trans (HBp.out.mono HBW0.out.size))
                by_cases hpl : p < l.length
                · obtain ⟨x, hx⟩ : ∃ x, l[p]? = some x := ⟨l[p]'(by omega), List.getElem?_eq_getElem (by omega)⟩
                  obtain ⟨g, o, rfl, hat⟩ := (HL.out.below HBW.out).at (by omega)
                  obtain ⟨B, d, n0, n1, hF⟩ := hat p x hx
                  have hxs := HS.out x (List.mem_of_getElem? hx)
                  have HBS := Lib.hid (bunAt_step t.c.text key hx)
                  have r0 := carry HBp.out HT4.out.1
                  have r1 := carry HBp.out HT4.out.2.1
                  have r2 := carry HBp.out HT4.out.2.2.1
                  have r3 := carry HBp.out HT4.out.2.2.2
                  have j0 : (0 : Int) ≤ (p : Int) := by omega
                  have j1 : (p : Int) < (l.length : Int) := by omega
                  have f1 : IntKind.i64.wrap ((p : Int) + 1) = (p : Int) + 1 := IntWalk.i64_in _ (by omega)
                  obtain ⟨W1, hW1⟩ : ∃ W1, W1 = wr.alloc (.cells #[.string x.tag, .slice B x.es.length d] 64) := ⟨_, rfl⟩
                  obtain ⟨xb, hxb⟩ : ∃ xb, xb = wr.heap.size := ⟨_, rfl⟩
                  have hst : Below wr.heap.size wr W1 := by rw [hW1]; exact belx
                  have x0 : W1.cell? ⟨xb, 0, none⟩ = some (.string x.tag) := by rw [hW1, hxb]; go_simp
                  have x1 : W1.cell? ⟨xb, 1, none⟩ = some (.slice B x.es.length d) := by rw [hW1, hxb]; go_simp
                  have HB1 := Lib.hid (HBp.out.trans (hst.mono HBp.out.size))
                  have HBW1 := Lib.hid (HBW.out.trans (hst.mono HBW.out.size))
                  have HE1 := Lib.hid (hF.1.below hst)
                  have hd := hF.2.1
                  have hd2 := hF.2.2.1
                  go_wp2_with fail
                  rw [← hW1, ← hxb]
                  replace r0 := carry hst r0
                  replace r1 := carry hst r1
                  replace r2 := carry hst r2
                  replace r3 := carry hst r3
                  clear hW1 hxb hst n0 n1 hat hx hF hxs
                  have X1 := Lib.hid x1
                  cases hq : (x.tag.toList == T.toList)
                  · have HF2 : Hid (bunAt t.c.text key 0 l = bunAt t.c.text key (p + 1) (l.drop (p + 1))) := Lib.hid (by
                      rw [HFp.out, HBS.out, if_neg (by rw [HTT.out]; exact tag_ne hq)])
                    have hq2 : (x.tag.toList != T.toList) = true := by rw [bne, hq]; rfl
                    go_region_held3 (fun w' => w'.cell? ⟨xb, 0, none⟩ = some (.string x.tag) ∧ w'.cell? ⟨tb, 0, none⟩ = some (.string t.c.l) ∧ w'.cell? ⟨tb, 1, none⟩ = some (.string t.c.s) ∧ w'.cell? ⟨tb, 2, none⟩ = some (.string t.c.r) ∧ w'.cell? ⟨tb, 3, none⟩ = some (.slice t.A t.c.vs.length t.n)) (first | go_keep | (go_split_ands; refine ⟨?_, ?_, ?_, ?_, ?_⟩ <;> first | assumption | exact carry (by assumption) (by go_simp) | exact carry (by assumption) (by assumption))) (first | (go_at_call 108; refine (KX.out _ ?_).mono ?_; (exact HB1.out.drew); rintro e w6 ⟨rfl, hb6⟩; have HB6 := Lib.hid hb6))
                    have HB7 := Lib.hid ((HB1.out.drew).trans (HB6.out.mono HB1.out.size))
                    go_wp2_with fail
                    go_roundw
                    case rel => exact ⟨p + 1, by omega, by go_num, HF2, HB7⟩
                    case measure => simp [intOf]; omega
                  · have hq2 : x.tag.toList = T.toList := by simpa using hq
                    have HBE : Hid (bunAt t.c.text key 0 l = match entText x.es key with
                      | some s => some (p, s)
                      | none => bunAt t.c.text key (p + 1) (l.drop (p + 1))) := Lib.hid (by
                      rw [HFp.out, HBS.out, if_pos (by rw [HTT.out]; exact tag_eq hq)]
                      rfl)
                    go_region_held3 (fun w' => w'.cell? ⟨xb, 0, none⟩ = some (.string x.tag) ∧ w'.cell? ⟨tb, 0, none⟩ = some (.string t.c.l) ∧ w'.cell? ⟨tb, 1, none⟩ = some (.string t.c.s) ∧ w'.cell? ⟨tb, 2, none⟩ = some (.string t.c.r) ∧ w'.cell? ⟨tb, 3, none⟩ = some (.slice t.A t.c.vs.length t.n)) (first | go_keep | (go_split_ands; refine ⟨?_, ?_, ?_, ?_, ?_⟩ <;> first | assumption | exact carry (by assumption) (by go_simp) | exact carry (by assumption) (by assumption))) (first | (go_at_call 108; refine (KX.out _ ?_).mono ?_; (exact HB1.out.drew); rintro e w6 ⟨rfl, hb6⟩; have HB6 := Lib.hid hb6))
                    have HB7 := Lib.hid ((HB1.out.drew).trans (HB6.out.mono HB1.out.size))
                    have hb16 : Below W1.heap.size W1 w6 := ((Below.refl _ W1).drew).trans (HB6.out.mono (Nat.le_refl _))
                    have x16 := carry hb16 X1.out
                    have HE6 := Lib.hid (HE1.out.below hb16)
                    have HBW6 := Lib.hid (HBW0.out.trans (HB7.out.mono HBW0.out.size))
                    clear hb16 HB6 r0 r1 r2 r3 x0 x1 HBS HFp
                    go_wp2_with fail
                    clear x16
                    go_loopw [84] (fun i wr => ∃ q : Nat, q ≤ x.es.length ∧ i = .int .i64 q ∧ Hid (∀ y ∈ x.es.take q, (y.key.toList == key.toList) = false) ∧ Hid (Below w6.heap.size w6 wr)) (fun i _ => x.es.length - (intOf i).toNat)
                    case atStart => exact ⟨0, Nat.zero_le _, rfl, Lib.hid (by simp), Lib.hid (Below.refl _ _)⟩
                    case round =>
                      obtain ⟨q, hqq, rfl, HFq, HBq⟩ := hrel
                      by_cases hql : q < x.es.length
                      · obtain ⟨y, hy⟩ : ∃ y, x.es[q]? = some y := ⟨x.es[q]'(by omega), List.getElem?_eq_getElem (by omega)⟩
                        obtain ⟨ge, oe, rfl, hat⟩ := (HE6.out.below HBq.out).at (by omega)
                        obtain ⟨y0, y1⟩ := hat q y hy
                        have k0 : (0 : Int) ≤ (q : Int) := by omega
                        have k1 : (q : Int) < (x.es.length : Int) := by omega
                        have k2 : (q : Int) ≤ (d : Int) := by omega
                        have f2 : IntKind.i64.wrap ((q : Int) + 1) = (q : Int) + 1 := IntWalk.i64_in _ (by omega)
                        have HY := Lib.hid hy
                        clear hat hy
                        cases hk : (y.key.toList == key.toList)
                        · have HF3 : Hid (∀ z ∈ x.es.take (q + 1), (z.key.toList == key.toList) = false) := Lib.hid fun z hz => by
                            rw [List.take_add_one, HY.out, Option.toList_some, List.mem_append, List.mem_singleton] at hz
                            rcases hz with hz | rfl
                            · exact HFq.out z hz
                            · exact hk
                          go_wp2_with fail
                          go_roundw
                          case rel => exact ⟨q + 1, by omega, by go_num, HF3, Lib.hid (HBq.out.alloc HBq.out.size _)⟩
                          case measure => simp [intOf]; omega
                        · have HD : Hid (R = (0, p, y.text)) := Lib.hid (by
                            have h1 := ent_first HY.out hk HFq.out
                            rw [HR2.out, HFS.out, HBE.out, h1])
                          have hk2 : y.key.toList = key.toList := by simpa using hk
                          go_wp2_with fail
                          go_quiet (fail)
                          go_wp2_with fail
                          go_ret3
                          rw [HD.out, E0.out]
                          exact ⟨rfl, HBW6.out.trans ((show Below w6.heap.size w6 _ from by first | exact bel_drewN _ (HBq.out.alloc HBq.out.size _) | exact HBq.out.alloc HBq.out.size _).mono HBW6.out.size)⟩
                      · obtain rfl : q = x.es.length := by omega
                        have HF2 : Hid (bunAt t.c.text key 0 l = bunAt t.c.text key (p + 1) (l.drop (p + 1))) := Lib.hid (by
                          have h1 := HFq.out
                          rw [List.take_length] at h1
                          rw [HBE.out, ent_miss h1])
                        go_wp2_with fail
                        go_roundw
                        case rel => exact ⟨p + 1, by omega, by go_num, HF2, Lib.hid (HB7.out.trans (HBq.out.mono HB7.out.size))⟩
                        case measure => simp [intOf]; omega
                · obtain rfl : p = l.length := by omega
                  have HF2 : Hid (findC l key (cc ++ [enC]) = findC l key ((cc ++ [enC]).drop (j + 1))) := Lib.hid (by
                    rw [HFS.out, HFp.out, List.drop_length]
                    rfl)
                  go_wp2_with fail
                  go_roundw
                  case rel => exact ⟨j + 1, by omega, by go_num, HF2, Lib.hid (HB0.out.trans (HBp.out.mono HB0.out.size))⟩
                  case measure => simp [intOf]; omega
            · obtain rfl : j = ts.length + 1 := by omega
              have HD : Hid (R = (2, 0, ⟨#[]⟩)) := Lib.hid (by
                have hcl : (cc ++ [enC]).length = ts.length + 1 := by rw [← HUC.out, List.length_map, hul]
                rw [HR2.out, HFj.out, ← hcl, List.drop_length]
                rfl)
              go_wp2_with fail
              go_ret3
              rw [HD.out]
              exact ⟨rfl, HB5.out.trans (HBj.out.mono s5)⟩
        · rw [HI.out] at hno
          cases hno
end Go.Proofs.YtplaohmdllindaaGreatDoor
