/- ChainEnds: the law's walk. -/
import Derived.Test.YtdpdnanjanceeaaDoorSameTags
import Derived.Test.YtdpdnanjanceeaaDoorTagParse
namespace Go.Proofs.YtdpdnanjanceeaaDoor
open Go.RowKit

theorem err_sizes {C : TagC} (he : C.err = 0) : C.l.size ≤ 8 ∧ C.s.size ≤ 8 ∧ C.r.size ≤ 8 ∧ (∀ z ∈ C.vs, z.size ≤ 8) ∧ C.vs.length ≤ 3 := by
  obtain ⟨h1, h2, h3, h4, h5⟩ := tagErr_ok he
  have sz : ∀ b : ByteArray, b.size = b.data.toList.length := fun b => by simp
  refine ⟨?_, ?_, ?_, fun z hz => ?_, by simpa using h5⟩
  · have := madeB_len h1; rw [sz]; omega
  · rw [sz]
    rcases h2 with h2 | h2
    · rw [h2]; simp
    · have := scriptB_len h2; omega
  · rw [sz]
    rcases h3 with h3 | h3
    · rw [h3]; simp
    · have := regionB_len h3; omega
  · have := madeB_len (varErr_len _ [] h4 z.data.toList (List.mem_map_of_mem hz))
    rw [sz]; omega
theorem check_right (C : TagC) (A : Option Addr) (n : Nat) (W : World) (he : C.err = 0) (hX : StrsIn W A C.vs) (hn : C.vs.length ≤ n) :
    Calls Tryd.prog 10 #[tagV C.l C.s C.r A C.vs.length n] W fun e w' => e = .returned .nilIface ∧ Below W.heap.size W w' := by
  obtain ⟨h1, h2, h3, h4, h5⟩ := err_sizes he
  have := tag_check C.l C.s C.r A n C.vs W (by omega) (by omega) (by omega) hX (by omega) hn (fun z hz => by have := h4 z hz; omega)
  have e : tagErr C.l.data.toList C.s.data.toList C.r.data.toList (listsOf C.vs) = 0 := he
  rw [e] at this
  exact this
/-- Chain of a right tag that lies in memory. -/
theorem chain_right (C : TagC) (A : Option Addr) (n : Nat) (w : World) (he : C.err = 0) (hX : StrsIn w A C.vs) (hA : A = none → n = 0) (hn : C.vs.length ≤ n) :
    Calls Tryd.prog 14 #[tagV C.l C.s C.r A C.vs.length n] w fun e w' => ChainRes C w e w' ∧ Below w.heap.size w w' :=
  chain_ok C.l C.s C.r A n C.vs w hX hA he (fun W hb => check_right C A n W he (hX.below hb) hn)

set_option maxHeartbeats 1000000 in
theorem ends_bad (C : TagC) (A : Option Addr) (n : Nat) (w : World) (hM : MaxL w) (hX : StrsIn w A C.vs) (hA : A = none → n = 0) (hn : C.vs.length ≤ n) (i : Int) (k : Int) (hk : k ≠ 0) (KC : ∀ W, Below w.heap.size w W → Calls Tryd.prog 10 #[tagV C.l C.s C.r A C.vs.length n] W fun e w' => e = .returned (errOf k) ∧ Below W.heap.size W w') :
    Calls Tryd.prog 4 #[tagV C.l C.s C.r A C.vs.length n, .int .i64 i] w fun e w' => e = .returned (.bool true) ∧ Below w.heap.size w w' := by
  have KN := Lib.hid (fun W (h : Below w.heap.size w W) => chain_no C.l C.s C.r A n C.vs W k hk (fun W' h' => KC W' (h.trans (h'.mono h.size))))
  have HM := Lib.hid hM
  clear KC hM hX hA hk
  go_enter Tryd.func4, Tryd.ntmps4
  go_wp2_with fail
  refine (KN.out _ ((Below.refl _ _).alloc (Nat.le_refl _) _)).mono ?_
  rintro e w1 ⟨rfl, hb1⟩
  have hbw : Below w.heap.size w w1 := (by (repeat (first | with_reducible exact Below.refl _ _ | with_reducible refine bel_set ?_ ?_ | with_reducible refine bel_alloc ?_ ?_ | with_reducible refine Below.drew ?_ | with_reducible refine bel_drewN _ ?_ | with_reducible refine bel_call ?_ (by assumption) ?_)); all_goals (first | (simp; done) | omega | (simp; omega)))
  have s1 := hbw.size
  go_wp2_with fail
  refine (parse_enus _ (HM.out.below hbw)).mono ?_
  rintro e w2 ⟨rfl, hb2⟩
  have s2 := hb2.size
  go_wp2_with fail
  go_ret
  exact ⟨rfl, (by (repeat (first | with_reducible exact Below.refl _ _ | with_reducible refine bel_set ?_ ?_ | with_reducible refine bel_alloc ?_ ?_ | with_reducible refine Below.drew ?_ | with_reducible refine bel_drewN _ ?_ | with_reducible refine bel_call ?_ (by assumption) ?_)); all_goals (first | (simp; done) | omega | (simp; omega)))⟩

set_option maxHeartbeats 1000000 in
theorem ends_out (C : TagC) (A : Option Addr) (n : Nat) (w : World) (hM : MaxL w) (hX : StrsIn w A C.vs) (hA : A = none → n = 0) (hn : C.vs.length ≤ n) (i : Int) (he : C.err = 0) (hi : i < 0 ∨ ((chainC C).length : Int) ≤ i) :
    Calls Tryd.prog 4 #[tagV C.l C.s C.r A C.vs.length n, .int .i64 i] w fun e w' => e = .returned (.bool true) ∧ Below w.heap.size w w' := by
  have KN := Lib.hid (fun W (h : Below w.heap.size w W) => chain_right C A n W he (hX.below h) hA hn)
  have HM := Lib.hid hM
  have HI := Lib.hid hi
  clear hM hX hA he hi
  go_enter Tryd.func4, Tryd.ntmps4
  go_wp2_with fail
  refine (KN.out _ ((Below.refl _ _).alloc (Nat.le_refl _) _)).mono ?_
  rintro e w1 ⟨⟨g, cp, ts, rfl, hcs, hot, htk⟩, hb1⟩
  have hbw : Below w.heap.size w w1 := (by (repeat (first | with_reducible exact Below.refl _ _ | with_reducible refine bel_set ?_ ?_ | with_reducible refine bel_alloc ?_ ?_ | with_reducible refine Below.drew ?_ | with_reducible refine bel_drewN _ ?_ | with_reducible refine bel_call ?_ (by assumption) ?_)); all_goals (first | (simp; done) | omega | (simp; omega)))
  have s1 := hbw.size
  have hl : (chainC C).length = ts.length := by rw [← hcs, List.length_map]
  have HI2 : Hid (i < 0 ∨ (ts.length : Int) ≤ i) := Lib.hid (by rw [← hl]; exact HI.out)
  clear hcs hot htk hl HI
  go_wp2_with fail
  refine (parse_enus _ (HM.out.below hbw)).mono ?_
  rintro e w2 ⟨rfl, hb2⟩
  have s2 := hb2.size
  by_cases h0 : i < 0
  · clear HI2
    go_wp2_with fail
    go_ret
    exact ⟨rfl, (by (repeat (first | with_reducible exact Below.refl _ _ | with_reducible refine bel_set ?_ ?_ | with_reducible refine bel_alloc ?_ ?_ | with_reducible refine Below.drew ?_ | with_reducible refine bel_drewN _ ?_ | with_reducible refine bel_call ?_ (by assumption) ?_)); all_goals (first | (simp; done) | omega | (simp; omega)))⟩
  · have h1 : (ts.length : Int) ≤ i := HI2.out.resolve_left h0
    clear HI2
    go_wp2_with fail
    go_ret
    exact ⟨rfl, (by (repeat (first | with_reducible exact Below.refl _ _ | with_reducible refine bel_set ?_ ?_ | with_reducible refine bel_alloc ?_ ?_ | with_reducible refine Below.drew ?_ | with_reducible refine bel_drewN _ ?_ | with_reducible refine bel_call ?_ (by assumption) ?_)); all_goals (first | (simp; done) | omega | (simp; omega)))⟩

set_option maxHeartbeats 4000000 in
theorem ends_in (C : TagC) (A : Option Addr) (n : Nat) (w : World) (hM : MaxL w) (hX : StrsIn w A C.vs) (hA : A = none → n = 0) (hn : C.vs.length ≤ n) (j : Nat) (he : C.err = 0) (hj : j < (chainC C).length) :
    Calls Tryd.prog 4 #[tagV C.l C.s C.r A C.vs.length n, .int .i64 j] w fun e w' => e = .returned (.bool true) ∧ Below w.heap.size w w' := by
  have h5 := sizeC_le he
  have hcl := chainC_len _ C rfl
  have KN := Lib.hid (fun W (h : Below w.heap.size w W) => chain_right C A n W he (hX.below h) hA hn)
  have HM := Lib.hid hM
  have HE := Lib.hid he
  have HJ := Lib.hid hj
  clear hM hX hA he hj
  go_enter Tryd.func4, Tryd.ntmps4
  go_wp2_with fail
  refine (KN.out _ ((Below.refl _ _).alloc (Nat.le_refl _) _)).mono ?_
  rintro e w1 ⟨⟨g, cp, ts, rfl, hcs, hot, htk⟩, hb1⟩
  have hbw : Below w.heap.size w w1 := (by (repeat (first | with_reducible exact Below.refl _ _ | with_reducible refine bel_set ?_ ?_ | with_reducible refine bel_alloc ?_ ?_ | with_reducible refine Below.drew ?_ | with_reducible refine bel_drewN _ ?_ | with_reducible refine bel_call ?_ (by assumption) ?_)); all_goals (first | (simp; done) | omega | (simp; omega)))
  have s1 := hbw.size
  have hl : (chainC C).length = ts.length := by rw [← hcs, List.length_map]
  have hjl : j < ts.length := by rw [← hl]; exact HJ.out
  have htl : ts.length ≤ 6 := by omega
  obtain ⟨_, hcap, hti⟩ := hot.tags
  obtain ⟨t, ht⟩ : ∃ t, ts[j]? = some t := ⟨ts[j], List.getElem?_eq_getElem hjl⟩
  have htC : (chainC C)[j]? = some t.c := by rw [← hcs, List.getElem?_map, ht]; rfl
  have hte : t.c.err = 0 := chainC_err _ C rfl HE.out t.c (List.mem_of_getElem? htC)
  have hdr := chainC_drop j C t.c htC
  have hle : ∀ u ∈ ts, u.c.vs.length ≤ 1000 := fun u hu => by
    have h1 : u.c ∈ chainC C := by rw [← hcs]; exact List.mem_map_of_mem hu
    have := (err_sizes (chainC_err _ C rfl HE.out u.c h1)).2.2.2.2
    omega
  have HTI := Lib.hid hti
  have HTK := Lib.hid htk
  have HT := Lib.hid ht
  have HTE := Lib.hid hte
  have HDR := Lib.hid hdr
  have HLE := Lib.hid hle
  have HCS := Lib.hid hcs
  clear hcs hot htk hl HJ hti ht htC hte hdr hle hcl
  go_wp2_with fail
  refine (parse_enus _ (HM.out.below hbw)).mono ?_
  rintro e w2 ⟨rfl, hb2⟩
  have s2 := hb2.size
  obtain ⟨⟨l, s, r, vs⟩, B, q⟩ := t
  have hbx : Below w1.heap.size w1 (w2.alloc (.cells #[.string ⟨#[101, 110]⟩, .string ⟨#[]⟩, .string ⟨#[85, 83]⟩, .slice none 0 0] 24)) := hb2.alloc s2 _
  have hTI2 := HTI.out.below hbx
  have a0 := hTI2 j _ 0 _ HT.out rfl
  have a1 := hTI2 j _ 1 _ HT.out rfl
  have a2 := hTI2 j _ 2 _ HT.out rfl
  have a3 := hTI2 j _ 3 _ HT.out rfl
  simp only [Nat.add_zero, Nat.zero_add] at a0 a1 a2 a3
  have i0 : (0 : Int) ≤ (j : Int) := by omega
  have i1 : (j : Int) < (ts.length : Int) := by omega
  have i2 : ¬ (cp = j) := by omega
  have i3 : (j : Int) ≤ (cp : Int) := by omega
  have i4 : ¬ ((ts.length : Int) ≤ (j : Int)) := by omega
  have i5 : (j : Int) ≤ (ts.length : Int) := by omega
  have i6 : (ts.length : Int) ≤ (cp : Int) := by omega
  have HBX := Lib.hid hbx
  clear hTI2 hbx
  go_wp2_with fail
  have KC2 := Lib.hid (fun W (hb : Below w1.heap.size w1 W) => chain_right ⟨l, s, r, vs⟩ B q W HTE.out (((HTK.out _ (List.mem_of_getElem? HT.out)).below hb).1.strs) (HTK.out _ (List.mem_of_getElem? HT.out)).2.1 (HTK.out _ (List.mem_of_getElem? HT.out)).2.2)
  refine (KC2.out _ HBX.out).mono ?_
  rintro e w3 ⟨⟨g2, cp2, us, rfl, hus, hot2, huk⟩, hb3⟩
  have s3 := hb3.size
  have s3' : w2.heap.size < w3.heap.size := by simp at s3; omega
  obtain ⟨_, hcap2, hui⟩ := hot2.tags
  have hul : us.length = ts.length - j := by
    have e1 : us.length = (chainC ⟨l, s, r, vs⟩).length := by rw [← hus, List.length_map]
    have e2 := congrArg List.length HDR.out
    rw [List.length_drop, ← HCS.out, List.length_map] at e2
    omega
  have hb13 : Below w1.heap.size w1 w3 := HBX.out.trans (hb3.mono (by have := HBX.out.size; omega))
  have KT : Calls Tryd.prog 15 #[.slice (some ⟨g2, 0, none⟩) us.length cp2, .slice (some ⟨g, j * 4, none⟩) (ts.length - j) (cp - j)] w3 fun e w' => e = .returned (.bool true) ∧ Below w3.heap.size w3 w' := by
    rw [← hul]
    have h2 := (HTI.out.below hb13).drop j
    rw [Nat.zero_add] at h2
    refine same_tags g2 0 g (j * 4) us.length cp2 (cp - j) us (ts.drop j) w3 hui h2 rfl ?_ huk (fun t ht => (HTK.out t (List.mem_of_mem_drop ht)).below hb13) (by omega) ?_
    · rw [hus, List.map_drop, HCS.out, ← HDR.out]
    · intro u hu
      have h1 : u.c ∈ chainC ⟨l, s, r, vs⟩ := by rw [← hus]; exact List.mem_map_of_mem hu
      have := (err_sizes (chainC_err _ _ rfl HTE.out u.c h1)).2.2.2.2
      omega
  have HKT := Lib.hid KT
  have hule : us.length ≤ 6 := by omega
  clear KT hus hot2 huk hui hul hb13 KC2
  go_wp2_with fail
  refine HKT.out.mono ?_
  rintro e w4 ⟨rfl, hb4⟩
  go_wp2_with fail
  go_ret
  exact ⟨rfl, (by (repeat (first | with_reducible exact Below.refl _ _ | with_reducible refine bel_set ?_ ?_ | with_reducible refine bel_alloc ?_ ?_ | with_reducible refine Below.drew ?_ | with_reducible refine bel_drewN _ ?_ | with_reducible refine bel_call ?_ (by assumption) ?_)); all_goals (first | (simp; done) | omega | (simp; omega)))⟩

theorem walk16 (l s r : ByteArray) (A : Option Addr) (n : Nat) (vs : List ByteArray) (i : Int) (w : World) (hM : MaxL w) (hX : StrsIn w A vs) (hA : A = none → n = 0) (hn : vs.length ≤ n) (hnn : n ≤ 9223372036854775807) (hz : ∀ z ∈ [l, s, r] ++ vs, z.size ≤ 9223372036854775807) :
    Calls Tryd.prog 4 #[tagV l s r A vs.length n, .int .i64 i] w fun e w' => e = .returned (.bool true) ∧ Below w.heap.size w w' := by
  by_cases he : (TagC.mk l s r vs).err = 0
  · by_cases hi : 0 ≤ i ∧ i < ((chainC ⟨l, s, r, vs⟩).length : Int)
    · obtain ⟨j, rfl⟩ := Int.eq_ofNat_of_zero_le hi.1
      exact ends_in ⟨l, s, r, vs⟩ A n w hM hX hA hn j he (by omega)
    · exact ends_out ⟨l, s, r, vs⟩ A n w hM hX hA hn i he (by omega)
  · exact ends_bad ⟨l, s, r, vs⟩ A n w hM hX hA hn i _ he (fun W hb => tag_check l s r A n vs W (hz l (by simp)) (hz s (by simp)) (hz r (by simp)) (hX.below hb) (by omega) hn (fun z h => hz z (by simp [h])))
end Go.Proofs.YtdpdnanjanceeaaDoor
