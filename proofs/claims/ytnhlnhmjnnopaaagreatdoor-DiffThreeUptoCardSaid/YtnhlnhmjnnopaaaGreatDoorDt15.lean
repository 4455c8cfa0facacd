/- DiffApply: texts put together. -/
import Derived.Test.YtnhlnhmjnnopaaaGreatDoorDt14
set_option linter.unusedVariables false
set_option linter.unusedSimpArgs false
/- diff.Apply, where all is right. -/
namespace Go.Proofs.YtnhlnhmjnnopaaaGreatDoor
open Go.RowKit Go.Maps

theorem leftE_nil (x : List EntC) : leftE x [] = x := List.filter_eq_self.2 (fun _ _ => rfl)
theorem contains_not {zs : List ByteArray} {x : ByteArray} (h : x ∉ zs) : Lib.containsS zs x = false := by
  cases hc : Lib.containsS zs x
  · rfl
  · exact absurd ((Lib.containsS_iff zs x).1 hc) h
set_option maxHeartbeats 16000000 in
set_option maxRecDepth 100000 in
theorem diff_apply (x put : BunC) (g : List ByteArray) (A P G : Option Addr) (c p gc : Nat) (w : World) (hM : MaxL w) (hA : BunFine w x A c) (hP : BunFine w put P p) (hG : StrsIn w G g) (hgc : g.length ≤ gc) (hgl : g.length ≤ 100) (hx : x.small) (hp : put.small) (hxe : x.err = 0) (hpe : put.err = 0)
    (hg1 : ∀ k ∈ g, k ∈ x.es.map (·.key)) (hg2 : g.Nodup) (hg3 : ∀ k ∈ g, k ∉ put.es.map (·.key)) (hl : (mergeE (leftE x.es g) put.es).length ≤ 100) :
    Calls Tryz.prog 7 #[bunV x A c, bunV put P p, .slice G g.length gc] w fun e w' => ∃ Q q, e = .returned (.tuple #[bunV ⟨put.tag, appliedE x.es put.es g⟩ Q q, .nilIface]) ∧ BunFine w' ⟨put.tag, appliedE x.es put.es g⟩ Q q ∧ Below w.heap.size w w' := by
  obtain ⟨_, hx100, _, hkx⟩ := bun_ok hxe
  obtain ⟨_, hp100, _, hkp⟩ := bun_ok hpe
  have hR : bothErr x put = 0 := by unfold bothErr; rw [if_pos hxe, hpe]
  have K1 := Lib.hid (fun W (h : Below w.heap.size w W) => diff_both x put A P c p W (hM.below h) (hA.below h) (hP.below h) hx hp)
  rw [hR, show errOf 0 = Value.nilIface from if_pos rfl] at K1
  have KA := Lib.hid (fun W (h : Below w.heap.size w W) => diff_words x A c W (hA.below h) hkx (by have := hx.2.1; omega) (fun e he => (hx.2.2 e he).1))
  have KB := Lib.hid (fun W (h : Below w.heap.size w W) => diff_words put P p W (hP.below h) hkp (by have := hp.2.1; omega) (fun e he => (hp.2.2 e he).1))
  have HGZ : Hid (∀ k ∈ g, k.size ≤ 1048576) := Lib.hid (fun k hk => by
    obtain ⟨e, he, rfl⟩ := List.mem_map.1 (hg1 k hk)
    exact (hx.2.2 e he).1)
  have HZX : Hid (∀ e ∈ x.es, e.key.size ≤ 1048576) := Lib.hid (fun e he => (hx.2.2 e he).1)
  have HZP : Hid (∀ e ∈ put.es, e.key.size ≤ 1048576) := Lib.hid (fun e he => (hp.2.2 e he).1)
  obtain ⟨tx, ex⟩ := x
  obtain ⟨tp, ep⟩ := put
  simp only at hx100 hp100 hkx hkp hg1 hg3 hl
  have HG1 := Lib.hid hg1
  have HG2 := Lib.hid hg2
  have HG3 := Lib.hid hg3
  have HGI := Lib.hid hG
  have HKX := Lib.hid hkx
  have HKP := Lib.hid hkp
  have HL := Lib.hid hl
  clear hA hP hx hp hxe hpe hM hR hg1 hg2 hg3 hG hkx hkp hl
  unfold bunV at K1 KA KB ⊢
  simp only at K1 KA KB ⊢
  have hb0 : Below w.heap.size w (((w.alloc (.cells #[.string tx, .slice A ex.length c] 24)).alloc (.cells #[.string tp, .slice P ep.length p] 24)).alloc (.cells #[.string ⟨#[]⟩, .slice none 0 0] 24)) := (by (repeat (first | with_reducible exact Below.refl _ _ | with_reducible refine bel_set ?_ ?_ | with_reducible refine bel_alloc ?_ ?_ | with_reducible refine Below.drew ?_ | with_reducible refine bel_drewN _ ?_ | with_reducible refine bel_call ?_ (by assumption) ?_)); all_goals (first | (simp; done) | omega | (simp; omega)))
  have hty : BoxAt (((w.alloc (.cells #[.string tx, .slice A ex.length c] 24)).alloc (.cells #[.string tp, .slice P ep.length p] 24)).alloc (.cells #[.string ⟨#[]⟩, .slice none 0 0] 24)) (w.heap.size + 1 + 1) := by
    refine ⟨?_, ⟨.string ⟨#[]⟩, by go_simp⟩, ⟨.slice none 0 0, by go_simp⟩⟩
    have := TyAt.new ((w.alloc (.cells #[.string tx, .slice A ex.length c] 24)).alloc (.cells #[.string tp, .slice P ep.length p] 24)) #[.string ⟨#[]⟩, .slice none 0 0] 24
    simpa using this
  have HB0 := Lib.hid hb0
  have HTY := Lib.hid hty
  clear hb0 hty
  go_enter Tryz.func7, Tryz.ntmps7
  go_wp2_with fail
  refine (K1.out _ HB0.out).mono ?_
  rintro e w1 ⟨rfl, hb1⟩
  have a0 : w1.cell? ⟨w.heap.size, 0, none⟩ = some (.string tx) := carry hb1 (by go_simp)
  have a1 : w1.cell? ⟨w.heap.size, 1, none⟩ = some (.slice A ex.length c) := carry hb1 (by go_simp)
  have b0 : w1.cell? ⟨w.heap.size + 1, 0, none⟩ = some (.string tp) := carry hb1 (by go_simp)
  have b1 : w1.cell? ⟨w.heap.size + 1, 1, none⟩ = some (.slice P ep.length p) := carry hb1 (by go_simp)
  have HT1 := Lib.hid (HTY.out.below hb1)
  have HB1 := Lib.hid (HB0.out.trans (hb1.mono HB0.out.size))
  have l1 : w.heap.size + 1 + 1 < w1.heap.size := by have := HT1.out.1.lt; exact this
  clear hb1 HB0 HTY K1
  go_upto_region 4 with fail
  refine wp_region_held_drew (S := SB w1) (by kernel_rfl) ?_ (fun hHeld => ?_)
  · exact Lib.hid (Below.refl _ _).drew
  refine wpAnyH_take (i := 0) (v := ?v1) rfl (by kernel_rfl) (by kernel_rfl) (by kernel_rfl) (fun _ _ _ h => h) (Or.inl ⟨rfl, ?hy1⟩) hHeld ?rest1
  case hy1 => (intro w hSw; have p0 := carry hSw.out a0; have p1 := carry hSw.out a1; clear hSw; go_simp; try with_reducible rfl)
  try simp only [Act.put, List.setIfInBounds_toArray, List.set_cons_zero, List.set_cons_succ, List.getElem_toArray, List.getElem_cons_zero, List.getElem_cons_succ]
  refine wpAnyH_take (i := 2) (v := ?v2) rfl (by kernel_rfl) (by kernel_rfl) (by kernel_rfl) (fun _ _ _ h => h) (Or.inl ⟨rfl, ?hy2⟩) hHeld ?rest2
  case hy2 => (intro w hSw; have p0 := carry hSw.out b0; have p1 := carry hSw.out b1; clear hSw; go_simp; try with_reducible rfl)
  try simp only [Act.put, List.setIfInBounds_toArray, List.set_cons_zero, List.set_cons_succ, List.getElem_toArray, List.getElem_cons_zero, List.getElem_cons_succ]
  have HS := Lib.hid hHeld
  generalize w1.drew = x0 at *
  refine wpAnyH_ready (rs := [1]) (by kernel_rfl) (by simp) (AllReadyH.cons rfl (fun K hK => ?_) (AllReadyH.nil))
  clear hHeld
  go_simp
  go_at_call 21
  refine (KA.out x0 (HB1.out.trans (HS.out.out.mono HB1.out.size))).mono ?_
  rintro e x1 ⟨ma, hge, rfl, hem, hst⟩
  have HEA := Lib.hid hem
  have HGA : Hid (w1.heap.size ≤ ma) := Lib.hid (Nat.le_trans HS.out.out.size hge)
  have hNew : SB w1 x1 := Lib.hid (HS.out.out.trans (hst.mono HS.out.out.size))
  try dsimp only
  refine hK.out _ _ hNew (fun _ => ?_)
  clear hge hem hst
  clear hK K
  have hHeld := hNew
  replace HS := Lib.hid hNew
  clear hNew
  try simp only [Act.put, List.setIfInBounds_toArray, List.set_cons_zero, List.set_cons_succ, List.getElem_toArray, List.getElem_cons_zero, List.getElem_cons_succ]
  refine wpAnyH_ready (rs := [3]) (by kernel_rfl) (by simp) (AllReadyH.cons rfl (fun K hK => ?_) (AllReadyH.nil))
  clear hHeld
  go_simp
  go_at_call 21
  refine (KB.out x1 (HB1.out.trans (HS.out.out.mono HB1.out.size))).mono ?_
  rintro e w2 ⟨mb, hge, rfl, hem, hst⟩
  have HEB := Lib.hid hem
  have HGB : Hid (w1.heap.size ≤ mb) := Lib.hid (Nat.le_trans HS.out.out.size hge)
  have HNE : Hid (ma ≠ mb) := Lib.hid (fun e => by have := HEA.out.lt; omega)
  replace HEA := Lib.hid (HEA.out.below hst)
  have hNew : SB w1 w2 := Lib.hid (HS.out.out.trans (hst.mono HS.out.out.size))
  try dsimp only
  refine hK.out _ _ hNew (fun _ => ?_)
  clear hge hem hst
  clear hK K
  have hHeld := hNew
  replace HS := Lib.hid hNew
  clear hNew
  try simp only [Act.put, List.setIfInBounds_toArray, List.set_cons_zero, List.set_cons_succ, List.getElem_toArray, List.getElem_cons_zero, List.getElem_cons_succ]
  refine wpAnyH_take (i := 4) (v := ?v3) rfl (by kernel_rfl) (by kernel_rfl) (by kernel_rfl) (fun _ _ _ h => h) (Or.inl ⟨rfl, ?hy3⟩) hHeld ?rest3
  case hy3 => (intro w hSw; clear hSw; go_simp; try with_reducible rfl)
  try simp only [Act.put, List.setIfInBounds_toArray, List.set_cons_zero, List.set_cons_succ, List.getElem_toArray, List.getElem_cons_zero, List.getElem_cons_succ]
  refine wpAnyH_take (i := 5) (v := ?v4) rfl (by kernel_rfl) (by kernel_rfl) (by kernel_rfl) (fun _ _ _ h => h) (Or.inl ⟨rfl, ?hy4⟩) hHeld ?rest4
  case hy4 => (intro w hSw; clear hSw; go_simp; try with_reducible rfl)
  try simp only [Act.put, List.setIfInBounds_toArray, List.set_cons_zero, List.set_cons_succ, List.getElem_toArray, List.getElem_cons_zero, List.getElem_cons_succ]
  refine wpAnyH_done (by kernel_rfl) ?_ _
  try dsimp only
  have hb2 := HS.out.out
  have c0 := carry hb2 a0
  have c1 := carry hb2 a1
  have d0 := carry hb2 b0
  have HT2 := Lib.hid (HT1.out.below hb2)
  have HB2 := Lib.hid (HB1.out.trans (hb2.mono HB1.out.size))
  have HS1 := Lib.hid hb2.size
  have hma := HEA.out.lt
  have hmb := HEB.out.lt
  have hga := HGA.out
  have hgb := HGB.out
  have l2 := lt_of_cell c0
  have hM0 : EMap w2 ma ex.length (leftE ex (g.take 0)) := by rw [List.take_zero, leftE_nil]; exact HEA.out
  have HM0 := Lib.hid hM0
  clear hb2 HS hHeld a0 a1 b0 b1 HT1 HB1 HEA HGA HGB hM0
  go_wp2_with fail
  go_loopw [33] (fun i wr => ∃ j : Nat, j ≤ g.length ∧ i = .int .i64 j ∧ Hid (EMap wr ma ex.length (leftE ex (g.take j)) ∧ Off [ma] w2 wr)) (fun i _ => g.length - (intOf i).toNat)
  case atStart => exact ⟨0, Nat.zero_le _, rfl, Lib.hid ⟨HM0.out, Off.refl _ _⟩⟩
  case round =>
    obtain ⟨j, hj, rfl, HX⟩ := hrel
    have hmaw : w.heap.size ≤ ma := by omega
    have HBr := Lib.hid (HB2.out.trans (HX.out.2.toBelow (fun k hk => by simp only [List.mem_singleton] at hk; omega) HB2.out.size))
    have c0r := HX.out.2.cell c0 (by simp; omega)
    have c1r := HX.out.2.cell c1 (by simp; omega)
    have d0r := HX.out.2.cell d0 (by simp; omega)
    have lr := lt_of_cell c0r
    have hmr := HX.out.1.lt
    have HEBr := Lib.hid (HEB.out.off HX.out.2 (by simp; exact fun e => HNE.out e.symm))
    by_cases hlt : j < g.length
    · obtain ⟨s, hs⟩ : ∃ s, g[j]? = some s := ⟨_, List.getElem?_eq_getElem hlt⟩
      obtain ⟨bG, oG, rfl, hat⟩ : ∃ b o, G = some ⟨b, o, none⟩ ∧ ∀ (j : Nat) x, g[j]? = some x → w.cell? ⟨b, o + j, none⟩ = some (.string x) := by
        rcases HGI.out with h | h
        · rw [h] at hs; cases hs
        · exact h
      have y0 := carry HBr.out (hat j s hs)
      have hsm := List.mem_of_getElem? hs
      have hsz := HGZ.out s hsm
      have i8 : (j : Int) < (g.length : Int) := by omega
      have i7 : (0 : Int) ≤ (j : Int) := by omega
      have i6 : (j : Int) ≤ (gc : Int) := by omega
      have i5 : (j : Int) ≤ (g.length : Int) := by omega
      have i9 : IntKind.i64.wrap ((j : Int) + 1) = ((j + 1 : Nat) : Int) := by rw [IntWalk.i64_in _ (by omega)]; omega
      have hks : memB (ex.map (·.key)) s = true := memB_iff.2 (HG1.out s hsm)
      have hps : memB (ep.map (·.key)) s = false := memB_not (HG3.out s hsm)
      have htake : s ∉ g.take j := by
        obtain ⟨hj2, hx⟩ := List.getElem?_eq_some_iff.1 hs
        have h1 : g = g.take j ++ g.drop j := (List.take_append_drop j g).symm
        have h0 := HG2.out
        rw [h1] at h0
        have h2 := (List.nodup_append.1 h0).2.2
        intro hm
        refine h2 _ hm _ ?_ rfl
        rw [List.drop_eq_getElem_cons hj2, hx]
        exact List.mem_cons_self
      have KC := Lib.hid (fun W (h : Below w.heap.size w W) => Tryz.slices_Contains_string bG oG j gc g s W (by omega) (by omega) (fun q hq => by
        have := carry h (hat q g[q] (List.getElem?_eq_getElem hq))
        rw [this, List.getD_eq_getElem?_getD, List.getElem?_eq_getElem hq]
        rfl))
      rw [contains_not htake] at KC
      have hnext : g.take (j + 1) = g.take j ++ [s] := by rw [List.take_add_one, hs]; rfl
      have HNX := Lib.hid hnext
      clear hat hs hsm htake hnext
      go_wp2_with fail
      refine (KA.out wr HBr.out).mono ?_
      rintro e wA ⟨mc, hmc, rfl, hEC, hbA⟩
      have HMA := Lib.hid (HX.out.1.below hbA)
      have hEBA := HEBr.out.below hbA
      have hlk1 := em_ok hEC Tryz.underlying57 (zero_str wA) (s := s) (by unfold maxLen; omega)
      have hlk2 := em_ok hEBA Tryz.underlying57 (zero_str wA) (s := s) (by unfold maxLen; omega)
      rw [hks] at hlk1
      rw [hps] at hlk2
      obtain ⟨w5, hdel, hE5, ho5⟩ := em_drop HMA.out Tryz.underlying57 (s := s) (by unfold maxLen; omega) 0
      have HBA := Lib.hid (HBr.out.trans (hbA.mono HBr.out.size))
      have HFIN : Hid (EMap w5 ma ex.length (leftE ex (g.take (j + 1))) ∧ Off [ma] w2 w5) := Lib.hid ⟨by rw [HNX.out]; exact hE5, (HX.out.2.below hbA HX.out.2.size).trans ho5⟩
      clear hbA hEC hEBA hmc hE5 ho5 HX HEBr hks hps HNX c0r c1r d0r
      go_wp2_with fail
      refine (KC.out wA HBA.out).mono ?_
      rintro e wC ⟨rfl, rfl⟩
      go_wp2_with fail
      exact ⟨⟨j + 1, hlt, by congr 1, HFIN⟩, by simp only [intOf]; omega⟩
    · obtain rfl : j = g.length := by omega
      have i8 : ¬ ((g.length : Int) < (g.length : Int)) := by omega
      have hEr : EMap wr ma ex.length (leftE ex g) := by have h := HX.out.1; rw [List.take_length] at h; exact h
      have KY := Lib.hid (copy_calls hEr HEBr.out HNE.out (by omega))
      have HTr := Lib.hid (HT2.out.off HX.out.2 (by simp; omega))
      have HXO := Lib.hid HX.out.2
      clear hEr HX HM0 c1r
      go_wp2_with fail
      refine KY.out.mono ?_
      rintro e w3 ⟨rfl, hE3, ho3⟩
      have HE3 := Lib.hid hE3
      have HB3 := Lib.hid (HBr.out.trans (ho3.toBelow (fun k hk => by simp only [List.mem_singleton] at hk; omega) HBr.out.size))
      have d03 := ho3.cell d0r (by simp; omega)
      have HT3 := Lib.hid (HTr.out.off ho3 (by simp; omega))
      have hlen := fun ty => hE3.len Tryz.underlying57 ty
      have hl100 := HL.out
      obtain ⟨n3, hn3⟩ : ∃ n, n = (mergeE (leftE ex g) ep).length := ⟨_, rfl⟩
      rw [← hn3] at hlen hl100
      have HN3 := Lib.hid hn3
      have i3 : ¬ ((100 : Int) < (n3 : Int)) := by omega
      have ld := lt_of_cell d03
      have lm3 := hE3.lt
      clear hE3 ho3 KY HTr HBr c0r d0r hn3
      obtain ⟨ms, hms⟩ : ∃ m, m = mergeE (leftE ex g) ep := ⟨_, rfl⟩
      have HMS := Lib.hid hms
      rw [← hms] at HE3 HN3
      clear hms
      have hn100 : ms.length ≤ 100 := by rw [← HN3.out]; exact hl100
      have hbk : Below w3.heap.size w3 ((w3.alloc (.cells #[.string tp, .slice none 0 0] 24)).alloc (.cells #[.map (some ma)] 57)) := (by (repeat (first | with_reducible exact Below.refl _ _ | with_reducible refine bel_set ?_ ?_ | with_reducible refine bel_alloc ?_ ?_ | with_reducible refine Below.drew ?_ | with_reducible refine bel_drewN _ ?_ | with_reducible refine bel_call ?_ (by assumption) ?_)); all_goals (first | (simp; done) | omega | (simp; omega)))
      have HE4 := Lib.hid (HE3.out.below hbk)
      have HK3 := Lib.hid hbk
      have hTP : TyAt ((w3.alloc (.cells #[.string tp, .slice none 0 0] 24)).alloc (.cells #[.map (some ma)] 57)) w3.heap.size 24 := (TyAt.new w3 _ _).below (by (repeat (first | with_reducible exact Below.refl _ _ | with_reducible refine bel_set ?_ ?_ | with_reducible refine bel_alloc ?_ ?_ | with_reducible refine Below.drew ?_ | with_reducible refine bel_drewN _ ?_ | with_reducible refine bel_call ?_ (by assumption) ?_)); all_goals (first | (simp; done) | omega | (simp; omega)))
      have HTP := Lib.hid hTP
      clear hbk hTP HE3
      go_wp2_with fail
      refine (keys_calls _ _).mono ?_
      rintro e wk ⟨rfl, rfl⟩
      go_wp2_with fail
      refine (sorted_calls HE4.out (by omega) _ (by go_simp)).mono ?_
      rintro e w4 ⟨v4, rfl, hrow, hb4⟩
      obtain ⟨A4, c4, rfl, hA4, hs4, ho4⟩ := hrow.form
      have p0 : w4.cell? ⟨w3.heap.size, 0, none⟩ = some (.string tp) := carry hb4 (by go_simp)
      have p1 : w4.cell? ⟨w3.heap.size, 1, none⟩ = some (.slice none 0 0) := carry hb4 (by go_simp)
      have HEB4 := Lib.hid (HE4.out.below hb4)
      have HT4 := Lib.hid ((HT3.out.below HK3.out).below hb4)
      have HP0 := Lib.hid (PutAt.start p0 p1 (HTP.out.below hb4))
      have HB4 := Lib.hid ((HB3.out.trans (HK3.out.mono HB3.out.size)).trans (hb4.mono (Nat.le_trans HB3.out.size HK3.out.size)))
      have HS4 := Lib.hid hs4
      have HO4 : Hid (∀ g o, A4 = some ⟨g, o, none⟩ → g ≠ w3.heap.size) := Lib.hid (fun g o e => by
        subst e
        have := (ho4 g rfl).1
        simp at this
        omega)
      have hlK : (sortK ms).length = ms.length := sortK_len ms
      have hwl := lt_of_cell p0
      have HLW : Hid (w3.heap.size < w4.heap.size) := Lib.hid hwl
      have hma3 : ma ≠ w3.heap.size := by omega
      have hr3 : w.heap.size + 1 + 1 < w3.heap.size := by have := HT3.out.1.lt; exact this
      clear hrow hb4 hs4 ho4 hA4 HE4 HK3 HTP HB3 HT3 p0 p1 d03 hlen
      go_wp2_with fail
      go_loopw [83] (fun i wr => ∃ j : Nat, j ≤ ms.length ∧ i = .int .i64 j ∧ Hid (PutAt w4 wr w3.heap.size tp ((sortE ms).take j))) (fun i _ => ms.length - (intOf i).toNat)
      case atStart => exact ⟨0, Nat.zero_le _, rfl, Lib.hid (by rw [List.take_zero]; exact HP0.out)⟩
      case round =>
        obtain ⟨j, hj, rfl, HP⟩ := hrel
        obtain ⟨acc, hacc⟩ : ∃ acc, acc = (sortE ms).take j := ⟨_, rfl⟩
        rw [← hacc] at HP
        have HAC := Lib.hid hacc
        have HAL : Hid (acc.length ≤ 100) := Lib.hid (by rw [hacc, List.length_take]; omega)
        clear hacc
        have p0r := HP.out.c0
        have hpr := lt_of_cell p0r
        obtain ⟨v8, c80, hO8⟩ := HP.out.box
        by_cases hlt : j < ms.length
        · obtain ⟨s, hs⟩ : ∃ s, (sortK ms)[j]? = some s := ⟨_, List.getElem?_eq_getElem (by rw [hlK]; exact hlt)⟩
          have hX := sortE_at hs
          have hsm : s ∈ ms.map (·.key) := sortK_mem.1 (List.mem_of_getElem? hs)
          have hsz : s.size ≤ 1048576 := by
            obtain ⟨y, hy, rfl⟩ := List.mem_map.1 hsm
            rw [HMS.out] at hy
            unfold mergeE leftE at hy
            rcases List.mem_append.1 hy with hy | hy
            · exact HZX.out y (List.mem_filter.1 (List.mem_filter.1 hy).1).1
            · exact HZP.out y hy
          obtain ⟨bS, oS, rfl, hat⟩ : ∃ b o, A4 = some ⟨b, o, none⟩ ∧ ∀ (j : Nat) x, (sortK ms)[j]? = some x → w4.cell? ⟨b, o + j, none⟩ = some (.string x) := by
            rcases HS4.out with h | h
            · rw [h] at hs; cases hs
            · exact h
          have y0 := HP.out.off.cell (hat j s hs) (by simp [HO4.out _ _ rfl])
          have yl := lt_of_cell y0
          have i8 : (j : Int) < (ms.length : Int) := by omega
          have i9 : IntKind.i64.wrap ((j : Int) + 1) = ((j + 1 : Nat) : Int) := by rw [IntWalk.i64_in _ (by omega)]; omega
          have hEBr := HEB4.out.off HP.out.off (by simp [hma3])
          have hlk2 := em_at hEBr Tryz.underlying57 (zero_str wr) (s := s) (by unfold maxLen; omega)
          obtain ⟨xE, hxE⟩ : ∃ x, x = atE ms s := ⟨_, rfl⟩
          have hx2 : xE = ⟨s, (lookE ms s).getD ⟨#[]⟩⟩ := hxE
          rw [← hxE] at hX
          obtain ⟨T, hT⟩ : ∃ T, T = (lookE ms s).getD ⟨#[]⟩ := ⟨_, rfl⟩
          rw [← hT] at hlk2 hx2
          have HXE := Lib.hid hx2
          have HX := Lib.hid hX
          clear hT hX hsm hat hs hEBr hx2 hxE
          obtain ⟨A8, c8, rfl, _⟩ := hO8.form
          have hBa : Below wr.heap.size wr (wr.alloc (.cells #[.string s, .string T] 50)) := (by (repeat (first | with_reducible exact Below.refl _ _ | with_reducible refine bel_set ?_ ?_ | with_reducible refine bel_alloc ?_ ?_ | with_reducible refine Below.drew ?_ | with_reducible refine bel_drewN _ ?_ | with_reducible refine bel_call ?_ (by assumption) ?_)); all_goals (first | (simp; done) | omega | (simp; omega)))
          have HOA := Lib.hid (hO8.below hBa)
          have X0 : Hid (∀ i u, (kEnt.cells xE)[i]? = some u → (wr.alloc (.cells #[.string s, .string T] 50)).cell? ⟨wr.heap.size, i, none⟩ = some u) := Lib.hid (fun i u hu => by
            rw [HXE.out] at hu
            match i, u, hu with
            | 0, _, hu => injection hu with hu; subst hu; go_simp
            | 1, _, hu => injection hu with hu; subst hu; go_simp)
          have HSZ : Hid (w4.heap.size ≤ (wr.alloc (.cells #[.string s, .string T] 50)).heap.size) := Lib.hid (Nat.le_trans HP.out.off.size hBa.size)
          have HN8 : Hid ((acc.length + 1) * kEnt.bytes ≤ 140737488355328) := Lib.hid (by show (acc.length + 1) * 32 ≤ _; have := HAL.out; omega)
          have HN9 : Hid (acc.length + 1 ≤ 9223372036854775807) := Lib.hid (by have := HAL.out; omega)
          have HEND := Lib.hid (fun (v' : Value) (w8 : World) (h8 : OwnsG kEnt w8 w4.heap.size v' (acc ++ [xE])) (hF : Off (Value.slice A8 acc.length c8).ownBlock.toList (wr.alloc (.cells #[.string s, .string T] 50)) w8) => HP.out.more c80 hO8 hBa h8 hF)
          have HTK : Hid ((sortE ms).take (j + 1) = acc ++ [xE]) := Lib.hid (by rw [List.take_add_one, HX.out, ← HAC.out]; rfl)
          have s80 := lt_of_cell c80
          clear hO8 hBa HP
          go_wp2_with (at_builtin; refine wpList_append_gB (k := kEnt) rfl _ _ rfl (base := w4.heap.size) (v := .slice A8 acc.length c8) (ts := acc) xE rfl rfl HOA.out X0.out HSZ.out HN8.out HN9.out ?_; intro v' w8 ho hoff hfr; have hend := HEND.out v' w8 ho hoff; obtain ⟨A9, c9, rfl, _⟩ := ho.form; have d4 := hend.1; have f4 := hend.2.1; have HE8 := Lib.hid hend.2.2; clear ho hoff hfr hend)
          have h9 := HE8.out
          rw [List.length_append, List.length_singleton] at h9
          exact ⟨⟨j + 1, hlt, by congr 1, Lib.hid (by rw [HTK.out]; exact h9)⟩, by simp only [intOf]; omega⟩
        · obtain rfl : j = ms.length := by omega
          have HTK : Hid (acc = sortE ms) := Lib.hid (by rw [HAC.out, List.take_of_length_le (by rw [sortE_len]; exact Nat.le_refl _)])
          rw [HTK.out] at hO8
          obtain ⟨Q, q, rfl, k1, k2, k3, k4⟩ := ents_of hO8
          have HQR : Hid (∀ g o, Q = some ⟨g, o, none⟩ → g ∉ [w.heap.size + 1 + 1]) := Lib.hid (fun g o e => by
            subst e
            have h9 := (hO8.block g (by simp [Value.ownBlock])).1
            have := HLW.out
            simp
            omega)
          have hTr := HT4.out.off HP.out.off (by simp; omega)
          obtain ⟨hX1, ⟨z0, hz0⟩, ⟨z1, hz1⟩⟩ := hTr
          have f0 := hX1.frozen 0
          have f1 := hX1.frozen 1
          have zl := lt_of_cell hz0
          have hof2 : Off [w.heap.size + 1 + 1] wr ((wr.setCell ⟨w.heap.size + 1 + 1, 0, none⟩ (.string tp)).setCell ⟨w.heap.size + 1 + 1, 1, none⟩ (.slice Q (sortE ms).length q)) := ((Off.refl _ _).setCell _ _ (by simp)).setCell _ _ (by simp)
          have u1 := cell_same (v := .slice Q (sortE ms).length q) (cell_other (v := .string tp) (a := ⟨w.heap.size + 1 + 1, 0, none⟩) hz1 (by simp))
          have u0 := cell_other (v := .slice Q (sortE ms).length q) (a := ⟨w.heap.size + 1 + 1, 1, none⟩) (cell_same (v := .string tp) hz0) (by simp)
          have HO2 := Lib.hid hof2
          have HU := Lib.hid (And.intro u0 u1)
          have HBr := Lib.hid (HB4.out.trans (HP.out.off.toBelow (fun k hk => by simp only [List.mem_singleton] at hk; omega) HB4.out.size))
          have HK4 := Lib.hid k4
          clear hof2 u0 u1 hX1 hO8 HP HAC k4
          go_wp2_with fail
          obtain ⟨u0, u1⟩ := HU.out
          generalize ((wr.setCell ⟨w.heap.size + 1 + 1, 0, none⟩ (.string tp)).setCell ⟨w.heap.size + 1 + 1, 1, none⟩ (.slice Q (sortE ms).length q)) = x3 at *
          have hap : appliedE ex ep g = sortE ms := by unfold appliedE; rw [HMS.out]
          rw [hap]
          refine bodyPost_ret (by simp [results, Tryz.results7, go_sem, u0, u1]; try rfl) rfl ?_
          exact ⟨Q, q, rfl, ⟨HK4.out.off HO2.out (fun g o e => HQR.out g o e), k1, k2, k3⟩, HBr.out.trans (HO2.out.toBelow (fun k hk => by simp only [List.mem_singleton] at hk; omega) HBr.out.size)⟩
end Go.Proofs.YtnhlnhmjnnopaaaGreatDoor
