/- rule.Parse: the walk. -/
import Derived.Test.YtkklemhhimcahaaGreatDoorRuleParseB
namespace Go.Proofs.YtkklemhhimcahaaGreatDoor
open Go.RowKit Go.Shelf
attribute [local go_sem] Oper.semAt_some

def parseOk (s : ByteArray) : Bool := decide (ruleErr (parseB s) = 0) && decide (ruleL (parseB s) = s.data.toList)

theorem text_ne {a b : ByteArray} (h : ¬a = b) : (a.toList == b.toList) = false := by
  rw [Bool.eq_false_iff]
  intro h'
  have h' := eq_of_beq h'
  rw [Lib.toList_data, Lib.toList_data] at h'
  exact h (ByteArray.ext (Array.ext' h'))
/-- what rule.Parse answers -/
def ParsePost (s : ByteArray) (w' : World) (e : Ending) : Prop :=
  if parseOk s then ∃ A c ps, ruleC ps = parseB s ∧ RuleIn w' A ps ∧ ps.length ≤ c ∧ c ≤ 9223372036854775807 ∧ RuleSmall ps ∧ e = .returned (.tuple #[.slice A ps.length c, .nilIface])
  else e = .returned (.tuple #[.slice none 0 0, errT 3])
theorem boxed_cell {W : World} {k : Nat} {t : TypeId} {v : Value} (h : Boxed W k t v) : W.cell? ⟨k, 0, none⟩ = some v := by
  have h' : W.heap[k]? = some (.cells #[v] t (0, 0)) := h
  simp [World.cell?, h']
theorem boxed_free {W : World} {k : Nat} {t : TypeId} {v : Value} (h : Boxed W k t v) : W.frozen? ⟨k, 0, none⟩ = false := by
  have h' : W.heap[k]? = some (.cells #[v] t (0, 0)) := h
  simp [World.frozen?, h']

set_option maxHeartbeats 8000000 in
theorem rule_parse (s : ByteArray) (w : World) (hE : RuleEnv w) (hs : s.size < 4294967281) :
    Calls Tryz.prog 6 #[.string s] w fun e w' => ParsePost s w' e ∧ Below w.heap.size w w' := by
  have HE := Lib.hid hE
  clear hE
  refine (callsIn_wide (n := 9)).1 ?_
  refine callsIn_of_wp_marks Tryz.func6 rfl trivial ?_ rfl
  simp only [Tryz.ntmps6, List.size_toArray, List.length_cons, List.length_nil, Nat.reduceAdd, Nat.reduceSub, Array.replicate_succ, Array.replicate_zero, List.push_toArray, List.append_toArray, List.nil_append, List.cons_append]
  refine (wpIn_wide).2 ?_
  go_wp2_with fail
  have ha1 : Boxed (w.alloc (.cells #[.slice none 0 0] 25)) w.heap.size 25 (.slice none 0 0) := Boxed.new w _ _
  have ha2 : Below w.heap.size w (w.alloc (.cells #[.slice none 0 0] 25)) := (Below.refl _ _).alloc (Nat.le_refl _) _
  have ha3 : (w.alloc (.cells #[.slice none 0 0] 25)).heap.size = w.heap.size + 1 := by simp
  generalize w.alloc (.cells #[.slice none 0 0] 25) = wc at *
  have HA3 := Lib.hid ha3
  clear ha3
  refine (split_seq s ⟨#[32, 111, 114, 32]⟩ _).mono ?_
  rintro e w1 ⟨rfl, rfl⟩
  go_wp2_with fail
  have ha3 := HA3.out
  refine wp_splitSeq wc.heap.size orS s (by decide) (by omega) (by decide) rfl (((Boxed.new wc _ _).alloc _).alloc _) ⟨by have := Boxed.new (wc.alloc (.cells #[.string s] 9)) 9 (.string ⟨#[32, 111, 114, 32]⟩); simp at this; exact this.alloc _, by have := Boxed.new ((wc.alloc (.cells #[.string s] 9)).alloc (.cells #[.string ⟨#[32, 111, 114, 32]⟩] 9)) 3 (.int .i64 0); simpa using this⟩ [w.heap.size] (by simp; omega)
    (PO w w.heap.size (w.heap.size + 4)) ?hI ?hIM ?h0 ?round ?done
  case hI =>
    rintro pre W W' g ht
    have e4 : (((wc.alloc (.cells #[.string s] 9)).alloc (.cells #[.string orS] 9)).alloc (.cells #[.int .i64 0] 3)).heap.size = w.heap.size + 4 := by simp; omega
    exact po_turn g (e4 ▸ ht) (by omega) (by omega) (by omega)
  case hIM =>
    rintro pre W ⟨A, n, ps, g1, g2, g3⟩
    exact (HE.out.below g3).maxl
  case h0 =>
    exact ⟨none, 0, [], rfl, ⟨((ha1.alloc _).alloc _).alloc _, OwnsG.nil _ _, by simp [Value.ownBlock], fun p hp => (List.not_mem_nil hp).elim⟩, ((ha2.alloc (by omega) _).alloc (by simp; omega) _).alloc (by simp; omega) _⟩
  case round =>
    intro l pre x post W hps hl
    have hxs := pieces_size orS (by decide) _ s rfl x (by rw [hps]; simp)
    have hpl := pieces_len orS (by decide) _ s rfl
    rw [hps] at hpl
    simp only [List.length_append, List.length_cons] at hpl
    gi_wp2
    refine ⟨trivial, ?_⟩
    rintro W2 ⟨r0, hrec⟩ ⟨A, n, ps, g0, g1, g2⟩
    have hBW : w.heap.size + 4 ≤ l := by simp at hl; omega
    have hlW := (Array.getElem?_eq_some_iff.1 hrec).1
    gi_wp2
    have hv1 : Boxed (W2.alloc (.cells #[.slice none 0 0] 32)) W2.heap.size 32 (.slice none 0 0) := Boxed.new W2 _ _
    have hv2 : Below W2.heap.size W2 (W2.alloc (.cells #[.slice none 0 0] 32)) := (Below.refl _ _).alloc (Nat.le_refl _) _
    have hv3 : (W2.alloc (.cells #[.slice none 0 0] 32)).heap.size = W2.heap.size + 1 := by simp
    have hv4 : (W2.alloc (.cells #[.slice none 0 0] 32)).heap[l]? = some (.loop r0) := (hv2.block l hlW).trans hrec
    have HG := Lib.hid (And.intro g0 (And.intro g1 g2))
    clear g0 g1 g2 hrec hps
    generalize W2.alloc (.cells #[.slice none 0 0] 32) = wv at *
    have HV3 := Lib.hid hv3
    clear hv3
    refine ⟨trivial, (CallsIn.inRound l (callsIn_wide.2 (split_seq x ⟨#[32, 97, 110, 100, 32]⟩ wv))).mono ?_⟩
    rintro e w5 ⟨rfl, rfl⟩
    gi_wp2
    have hv3 := HV3.out
    have hlv := (Array.getElem?_eq_some_iff.1 hv4).1
    have hl3 : (((wv.alloc (.cells #[.string x] 9)).alloc (.cells #[.string ⟨#[32, 97, 110, 100, 32]⟩] 9)).alloc (.cells #[.int .i64 0] 3)).heap[l]? = some (.loop r0) :=
      (Below.heap_alloc _ _ _ (by simp; omega)).trans ((Below.heap_alloc _ _ _ (by simp; omega)).trans ((Below.heap_alloc _ _ _ hlv).trans hv4))
    refine wpIn_splitSeq hl3 wv.heap.size andS x (by decide) (by omega) (by decide) rfl (((Boxed.new wv _ _).alloc _).alloc _) ⟨by have := Boxed.new (wv.alloc (.cells #[.string x] 9)) 9 (.string ⟨#[32, 97, 110, 100, 32]⟩); simp at this; exact this.alloc _, by have := Boxed.new ((wv.alloc (.cells #[.string x] 9)).alloc (.cells #[.string ⟨#[32, 97, 110, 100, 32]⟩] 9)) 3 (.int .i64 0); simpa using this⟩ [W2.heap.size] (by simp; omega)
      (QI w W2 w.heap.size (w.heap.size + 4) W2.heap.size (.slice A ps.length n) ps W2.heap.size (W2.heap.size + 4)) ?_ ?_ ?_ ?_ ?_
    · rintro pr W W' g ht
      have e4 : (((wv.alloc (.cells #[.string x] 9)).alloc (.cells #[.string andS] 9)).alloc (.cells #[.int .i64 0] 3)).heap.size = W2.heap.size + 4 := by simp; omega
      exact qi_turn g (e4 ▸ ht) (by omega) (by omega) (by omega) (by omega) (by omega) (by omega)
    · rintro pr W ⟨_, _, g3, _⟩
      exact (HE.out.below g3).maxl
    · have hb3 : Below W2.heap.size W2 (((wv.alloc (.cells #[.string x] 9)).alloc (.cells #[.string ⟨#[32, 97, 110, 100, 32]⟩] 9)).alloc (.cells #[.int .i64 0] 3)) := ((hv2.alloc (by omega) _).alloc (by simp; omega) _).alloc (by simp; omega) _
      refine ⟨⟨none, 0, [], rfl, ((hv1.alloc _).alloc _).alloc _, OwnsG.nil _ _, fun d hd => (List.not_mem_nil hd).elim⟩, HG.out.2.1.kept (by omega) fun k cur t k1 k2 => hb3.block k (Array.getElem?_eq_some_iff.1 k2).1, HG.out.2.2.trans (hb3.mono (by omega)), (Keep.refl _ _ _).below hb3 (Nat.le_refl _)⟩
    · -- one round of the inner loop
      intro l2 pr y po W hpy hl2
      have hys := pieces_size andS (by decide) _ x rfl y (by rw [hpy]; simp)
      have hyl := pieces_len andS (by decide) _ x rfl
      rw [hpy] at hyl
      simp only [List.length_append, List.length_cons] at hyl
      gi_wp2
      refine ⟨trivial, ?_⟩
      rintro V ⟨r1, hrc⟩ ⟨⟨A6, n6, ds, q1, q2, q3, q4⟩, q5, q6, q7⟩
      have c6 := boxed_cell q2
      have hmx : Tryz.prog.follows .mixedOrders = true := by kernel_rfl
      have hV : W2.heap.size + 4 ≤ V.heap.size := by have := (Array.getElem?_eq_some_iff.1 hrc).1; simp at hl2; omega
      have HQ := Lib.hid (And.intro q1 (And.intro q2 (And.intro q3 (And.intro q4 (And.intro q5 (And.intro q6 q7))))))
      clear q1 q2 q3 q4 q5 q6 q7 hrc hpy
      gi_wp2
      refine wpIn_region_any hmx ?_
      change wpAnyIn _ _ _ _ _ _ _ _ _ (World.drew _)
      have HBV : Hid (Below V.heap.size V V.drew) := Lib.hid (Below.refl _ _).drew
      have HBW : Hid (Below w.heap.size w V.drew) := Lib.hid HQ.out.2.2.2.2.2.1.drew
      have c6 : V.drew.cell? ⟨W2.heap.size, 0, none⟩ = some (.slice A6 ds.length n6) := c6
      generalize V.drew = wr at *
      have s6 := lt_of_cell c6
      refine take_r (i := 1) (v := ?_) (by kernel_rfl) rfl (by kernel_rfl) (by kernel_rfl) (by kernel_rfl) (fun _ _ _ h => h) (by rfl) ?hy (fun _ => rfl) ?_
      case hy => (intro w; go_simp; try with_reducible rfl)
      refine wpAnyIn_ready (rs := [0, 2]) (by kernel_rfl) (by simp) ?_
      refine AllReadyIn.cons rfl (fun K hK => ?_) ?_
      · go_simp
        refine hK _ _ ?_
        clear hK K
        refine wpAnyIn_ready (rs := [2]) (by kernel_rfl) (by simp) ?_
        refine AllReadyIn.cons rfl (fun K hK => ?_) ?_
        · go_simp
          refine ⟨trivial, (CallsIn.inRound l2 (CallsIn.inRound l (callsIn_wide.2 (rule_parsed y wr (HE.out.below HBW.out) (by omega))))).mono ?_⟩
          rintro e wx ⟨⟨d, hd, rfl, hO⟩, hbx⟩
          have HD := Lib.hid (And.intro hd (parsed_held hd hO))
          have hbv := HBV.out
          have HBX : Hid (Below V.heap.size V wx) := Lib.hid (hbv.trans (hbx.mono hbv.size))
          have HBS : Hid (V.heap.size ≤ wr.heap.size) := Lib.hid hbv.size
          have c6 := carry hbx c6
          have s6 := lt_of_cell c6
          clear hd hO hbv
          rw [show d.val = .agg #[.int .u8 d.c.op.toNat, .int .i64 d.c.md, .bool d.c.neg, .slice d.A d.c.rs.length d.n] from rfl]
          refine hK _ _ ?_
          clear hK K hbx
          refine wpAnyIn_ready (rs := [3]) (by kernel_rfl) (by simp) ?_
          refine AllReadyIn.cons rfl (fun K hK => ?_) ?_
          · go_simp
            refine hK _ _ ?_
            clear hK K
            refine wpAnyIn_ready (rs := [4]) (by kernel_rfl) (by simp) ?_
            refine AllReadyIn.cons rfl (fun K hK => ?_) AllReadyIn.nil
            rw [if_pos (by rfl)]
            have hln : ds.length = pr.length := by have := congrArg List.length HQ.out.1; simpa using this
            have hn8 : (ds.length + 1) * kRel.bytes ≤ 140737488355328 := by simp [kRel]; omega
            have hn9 : ds.length + 1 ≤ 9223372036854775807 := by omega
            clear hln
            refine operIn_append_g (k := kRel) (.tmp 16) (.tmp 19) rfl (base := W2.heap.size + 4) (v := .slice A6 ds.length n6) (b := wx.heap.size) (c := 1) (ts := ds) d (by go_simp) (by go_simp) (HQ.out.2.2.1.below (HBX.out.alloc HBX.out.size _)) (by intro i u hu; rw [new_cell, List.getElem?_toArray]; exact hu) (by have := HBX.out.size; simp; omega) hn8 hn9 ?_
            intro v' w8 hO hF
            obtain ⟨A8, c8, hv8, _⟩ := hO.form
            rw [show (ds ++ [d]).length = ds.length + 1 by simp] at hv8
            subst hv8
            have hBa := HBX.out.alloc HBX.out.size (.cells #[.int .u8 d.c.op.toNat, .int .i64 d.c.md, .bool d.c.neg, .slice d.A d.c.rs.length d.n] 24)
            have hOa : Held (wx.alloc (.cells #[.int .u8 d.c.op.toNat, .int .i64 d.c.md, .bool d.c.neg, .slice d.A d.c.rs.length d.n] 24)) V.heap.size (wx.alloc (.cells #[.int .u8 d.c.op.toNat, .int .i64 d.c.md, .bool d.c.neg, .slice d.A d.c.rs.length d.n] 24)).heap.size [103] d.fits :=
              (HD.out.2.lt (by simp) fun k cur t _ k2 _ _ => Below.heap_alloc _ _ _ k2).mono HBS.out (Nat.le_refl _) (fun _ h => h) fun _ h => h
            have HE8 := Lib.hid (qi_end HQ.out.1 HQ.out.2.1 HQ.out.2.2.1 HQ.out.2.2.2.1 HQ.out.2.2.2.2.1 HQ.out.2.2.2.2.2.1 HQ.out.2.2.2.2.2.2 (Nat.le_refl _) (by omega) (by omega) (Nat.le_refl _) (by omega) hV (by omega) HD.out.1 hBa hOa hO hF)
            have d6 := boxed_cell HE8.out.1
            have f6 := boxed_free HE8.out.1
            clear hBa hOa
            refine hK _ _ ?_
            clear hK K hO hF hn8 hn9
            refine wpAnyIn_ready (rs := [5]) (by kernel_rfl) (by simp) ?_
            refine AllReadyIn.cons rfl (fun K hK => ?_) AllReadyIn.nil
            go_simp
            refine hK _ _ ?_
            clear hK K
            refine wpAnyIn_done (by kernel_rfl) ?_ _
            exact ⟨keep_eq HE8.out.2.1 (by simp; omega), HE8.out.2.2⟩
          exact AllReadyIn.nil
        exact AllReadyIn.nil
      refine AllReadyIn.cons rfl (fun K hK => ?_) ?_
      · go_simp
        refine ⟨trivial, (CallsIn.inRound l2 (CallsIn.inRound l (callsIn_wide.2 (rule_parsed y wr (HE.out.below HBW.out) (by omega))))).mono ?_⟩
        rintro e wx ⟨⟨d, hd, rfl, hO⟩, hbx⟩
        have HD := Lib.hid (And.intro hd (parsed_held hd hO))
        have hbv := HBV.out
        have HBX : Hid (Below V.heap.size V wx) := Lib.hid (hbv.trans (hbx.mono hbv.size))
        have HBS : Hid (V.heap.size ≤ wr.heap.size) := Lib.hid hbv.size
        have c6 := carry hbx c6
        have s6 := lt_of_cell c6
        clear hd hO hbv
        rw [show d.val = .agg #[.int .u8 d.c.op.toNat, .int .i64 d.c.md, .bool d.c.neg, .slice d.A d.c.rs.length d.n] from rfl]
        refine hK _ _ ?_
        clear hK K hbx
        refine wpAnyIn_ready (rs := [0, 3]) (by kernel_rfl) (by simp) ?_
        refine AllReadyIn.cons rfl (fun K hK => ?_) ?_
        · go_simp
          refine hK _ _ ?_
          clear hK K
          refine wpAnyIn_ready (rs := [3]) (by kernel_rfl) (by simp) ?_
          refine AllReadyIn.cons rfl (fun K hK => ?_) ?_
          · go_simp
            refine hK _ _ ?_
            clear hK K
            refine wpAnyIn_ready (rs := [4]) (by kernel_rfl) (by simp) ?_
            refine AllReadyIn.cons rfl (fun K hK => ?_) AllReadyIn.nil
            rw [if_pos (by rfl)]
            have hln : ds.length = pr.length := by have := congrArg List.length HQ.out.1; simpa using this
            have hn8 : (ds.length + 1) * kRel.bytes ≤ 140737488355328 := by simp [kRel]; omega
            have hn9 : ds.length + 1 ≤ 9223372036854775807 := by omega
            clear hln
            refine operIn_append_g (k := kRel) (.tmp 16) (.tmp 19) rfl (base := W2.heap.size + 4) (v := .slice A6 ds.length n6) (b := wx.heap.size) (c := 1) (ts := ds) d (by go_simp) (by go_simp) (HQ.out.2.2.1.below (HBX.out.alloc HBX.out.size _)) (by intro i u hu; rw [new_cell, List.getElem?_toArray]; exact hu) (by have := HBX.out.size; simp; omega) hn8 hn9 ?_
            intro v' w8 hO hF
            obtain ⟨A8, c8, hv8, _⟩ := hO.form
            rw [show (ds ++ [d]).length = ds.length + 1 by simp] at hv8
            subst hv8
            have hBa := HBX.out.alloc HBX.out.size (.cells #[.int .u8 d.c.op.toNat, .int .i64 d.c.md, .bool d.c.neg, .slice d.A d.c.rs.length d.n] 24)
            have hOa : Held (wx.alloc (.cells #[.int .u8 d.c.op.toNat, .int .i64 d.c.md, .bool d.c.neg, .slice d.A d.c.rs.length d.n] 24)) V.heap.size (wx.alloc (.cells #[.int .u8 d.c.op.toNat, .int .i64 d.c.md, .bool d.c.neg, .slice d.A d.c.rs.length d.n] 24)).heap.size [103] d.fits :=
              (HD.out.2.lt (by simp) fun k cur t _ k2 _ _ => Below.heap_alloc _ _ _ k2).mono HBS.out (Nat.le_refl _) (fun _ h => h) fun _ h => h
            have HE8 := Lib.hid (qi_end HQ.out.1 HQ.out.2.1 HQ.out.2.2.1 HQ.out.2.2.2.1 HQ.out.2.2.2.2.1 HQ.out.2.2.2.2.2.1 HQ.out.2.2.2.2.2.2 (Nat.le_refl _) (by omega) (by omega) (Nat.le_refl _) (by omega) hV (by omega) HD.out.1 hBa hOa hO hF)
            have d6 := boxed_cell HE8.out.1
            have f6 := boxed_free HE8.out.1
            clear hBa hOa
            refine hK _ _ ?_
            clear hK K hO hF hn8 hn9
            refine wpAnyIn_ready (rs := [5]) (by kernel_rfl) (by simp) ?_
            refine AllReadyIn.cons rfl (fun K hK => ?_) AllReadyIn.nil
            go_simp
            refine hK _ _ ?_
            clear hK K
            refine wpAnyIn_done (by kernel_rfl) ?_ _
            exact ⟨keep_eq HE8.out.2.1 (by simp; omega), HE8.out.2.2⟩
          exact AllReadyIn.nil
        refine AllReadyIn.cons rfl (fun K hK => ?_) ?_
        · go_simp
          refine hK _ _ ?_
          clear hK K
          refine wpAnyIn_ready (rs := [0]) (by kernel_rfl) (by simp) ?_
          refine AllReadyIn.cons rfl (fun K hK => ?_) ?_
          · go_simp
            refine hK _ _ ?_
            clear hK K
            refine wpAnyIn_ready (rs := [4]) (by kernel_rfl) (by simp) ?_
            refine AllReadyIn.cons rfl (fun K hK => ?_) AllReadyIn.nil
            rw [if_pos (by rfl)]
            have hln : ds.length = pr.length := by have := congrArg List.length HQ.out.1; simpa using this
            have hn8 : (ds.length + 1) * kRel.bytes ≤ 140737488355328 := by simp [kRel]; omega
            have hn9 : ds.length + 1 ≤ 9223372036854775807 := by omega
            clear hln
            refine operIn_append_g (k := kRel) (.tmp 16) (.tmp 19) rfl (base := W2.heap.size + 4) (v := .slice A6 ds.length n6) (b := wx.heap.size) (c := 1) (ts := ds) d (by go_simp) (by go_simp) (HQ.out.2.2.1.below (HBX.out.alloc HBX.out.size _)) (by intro i u hu; rw [new_cell, List.getElem?_toArray]; exact hu) (by have := HBX.out.size; simp; omega) hn8 hn9 ?_
            intro v' w8 hO hF
            obtain ⟨A8, c8, hv8, _⟩ := hO.form
            rw [show (ds ++ [d]).length = ds.length + 1 by simp] at hv8
            subst hv8
            have hBa := HBX.out.alloc HBX.out.size (.cells #[.int .u8 d.c.op.toNat, .int .i64 d.c.md, .bool d.c.neg, .slice d.A d.c.rs.length d.n] 24)
            have hOa : Held (wx.alloc (.cells #[.int .u8 d.c.op.toNat, .int .i64 d.c.md, .bool d.c.neg, .slice d.A d.c.rs.length d.n] 24)) V.heap.size (wx.alloc (.cells #[.int .u8 d.c.op.toNat, .int .i64 d.c.md, .bool d.c.neg, .slice d.A d.c.rs.length d.n] 24)).heap.size [103] d.fits :=
              (HD.out.2.lt (by simp) fun k cur t _ k2 _ _ => Below.heap_alloc _ _ _ k2).mono HBS.out (Nat.le_refl _) (fun _ h => h) fun _ h => h
            have HE8 := Lib.hid (qi_end HQ.out.1 HQ.out.2.1 HQ.out.2.2.1 HQ.out.2.2.2.1 HQ.out.2.2.2.2.1 HQ.out.2.2.2.2.2.1 HQ.out.2.2.2.2.2.2 (Nat.le_refl _) (by omega) (by omega) (Nat.le_refl _) (by omega) hV (by omega) HD.out.1 hBa hOa hO hF)
            have d6 := boxed_cell HE8.out.1
            have f6 := boxed_free HE8.out.1
            clear hBa hOa
            refine hK _ _ ?_
            clear hK K hO hF hn8 hn9
            refine wpAnyIn_ready (rs := [5]) (by kernel_rfl) (by simp) ?_
            refine AllReadyIn.cons rfl (fun K hK => ?_) AllReadyIn.nil
            go_simp
            refine hK _ _ ?_
            clear hK K
            refine wpAnyIn_done (by kernel_rfl) ?_ _
            exact ⟨keep_eq HE8.out.2.1 (by simp; omega), HE8.out.2.2⟩
          exact AllReadyIn.nil
        exact AllReadyIn.nil
      exact AllReadyIn.nil
    · rintro W ⟨⟨A6, n6, ds, q1, q2, q3, q4⟩, q5, q6, q7⟩
      have c6 := boxed_cell q2
      have c4 := boxed_cell q5.1
      have HQ := Lib.hid (And.intro q1 (And.intro q3 (And.intro q4 (And.intro q5 (And.intro q6 q7)))))
      have hpn : ps.length = pre.length := by have := congrArg List.length HG.out.1; simpa using this
      have hn8 : (ps.length + 1) * kPart.bytes ≤ 140737488355328 := by simp [kPart]; omega
      have hn9 : ps.length + 1 ≤ 9223372036854775807 := by omega
      have hk4 : w.heap.size + 4 ≤ W.heap.size := by have := q7.size; omega
      clear q1 q2 q3 q4 q5 q6 q7 hpn
      have HEND : Hid (∀ v' w8, OwnsG kPart w8 (w.heap.size + 4) v' (ps ++ [⟨ds, A6, n6⟩]) → Off (Value.slice A ps.length n).ownBlock.toList (W.alloc (.cells #[.slice A6 ds.length n6] 32)) w8 → ∃ A8 c8, v' = .slice A8 (ps.length + 1) c8 ∧
          Hid (Boxed w8 w.heap.size 25 (.slice A ps.length n) ∧ Keep (w.heap.size + 4) [w.heap.size] W2 (w8.setCell ⟨w.heap.size, 0, none⟩ v') ∧ PO w w.heap.size (w.heap.size + 4) (pre ++ [x]) (w8.setCell ⟨w.heap.size, 0, none⟩ v'))) := by
        refine Lib.hid (fun v' w8 hO hF => ?_)
        have hend := po_end (p6 := ⟨ds, A6, n6⟩) rfl HG.out.1 HQ.out.1 HQ.out.2.1 HQ.out.2.2.1 HQ.out.2.2.2.1 HQ.out.2.2.2.2.1 HQ.out.2.2.2.2.2 (Nat.le_refl _) (by omega) (by omega) (by omega) ((Below.refl W.heap.size W).alloc (Nat.le_refl _) (.cells #[.slice A6 ds.length n6] 32)) hO hF
        obtain ⟨A8, c8, hv8, _⟩ := hO.form
        exact ⟨A8, c8, by rw [hv8]; simp, Lib.hid hend⟩
      gi_wp2_with (gi_at_builtin; refine wpListIn_append_g (k := kPart) rfl _ _ rfl (base := w.heap.size + 4) (v := .slice A ps.length n) (b := W.heap.size) (c := 1) (ts := ps) ⟨ds, A6, n6⟩ rfl rfl (HQ.out.2.2.2.1.2.1.alloc _) (by intro i u hu; rw [new_cell, List.getElem?_toArray]; exact hu) (by simp; omega) hn8 hn9 ?_; intro v' w8 hO hF; obtain ⟨A8, c8, rfl, HE8⟩ := HEND.out v' w8 hO hF; have d4 := boxed_cell HE8.out.1; have f4 := boxed_free HE8.out.1; clear hO hF)
      exact ⟨keep_eq HE8.out.2.1 (by simp; omega), HE8.out.2.2⟩
  case done =>
    rintro D W hD ⟨A, n, ps, g1, g2, g3⟩ hK
    have c4 := boxed_cell g2.1
    have hr := g2.rule
    have hpb : ruleC ps = parseB s := g1
    have hsm := small_of hpb hs
    have hD' : w.heap.size + 4 ≤ D := by simp at hD; omega
    have hDW := (Array.getElem?_eq_some_iff.1 hK).1
    have HR := Lib.hid (And.intro hr (And.intro hpb (And.intro hsm (And.intro g3 (And.intro hK g2)))))
    clear hr hpb hsm g1 g2 g3 hK hD
    by_cases h0 : ruleErr (ruleC ps) = 0
    · have KT := Lib.hid (rule_text_ok A n ps W (HE.out.below HR.out.2.2.2.1).pow HR.out.1.1 HR.out.1.2.1 HR.out.1.2.2 HR.out.2.2.1 h0)
      by_cases h1 : (⟨(ruleL (ruleC ps)).toArray⟩ : ByteArray) = s
      · have hok : parseOk s = true := by
          unfold parseOk
          rw [← HR.out.2.1, decide_eq_true h0, Bool.true_and, decide_eq_true_iff]
          have := congrArg (fun b : ByteArray => b.data.toList) h1
          simpa using this
        rw [h1] at KT
        clear h0 h1
        go_wp2_with fail
        refine KT.out.mono ?_
        rintro e w2 ⟨rfl, hb2⟩
        have HB2 := Lib.hid hb2
        have c4 := carry hb2 c4
        clear hb2
        go_wp2_with fail
        have hb9 := HR.out.2.2.2.1.trans (HB2.out.mono HR.out.2.2.2.1.size)
        have hK2 := (HB2.out.block D hDW).trans HR.out.2.2.2.2.1
        have hs2 := HB2.out.size
        have ep : ∀ k, k ≠ D → (w2.putObj D (.deferred none)).heap[k]? = w2.heap[k]? := fun k hk => put_other _ _ hk
        have b9 : Below w.heap.size w (w2.putObj D (.deferred none)) := ⟨hb9.1, hb9.2, hb9.3, by simpa using hb9.4, fun k hk => (ep k (by omega)).trans (hb9.5 k hk)⟩
        refine ⟨by simp, .inl ⟨_, _, rfl, run_takeDeferred hK2, ?_⟩⟩
        refine ⟨.tuple #[.slice A ps.length n, .nilIface], by simp [results, Tryz.results6, go_sem], ?_, b9⟩
        have hob : OB w.heap.size (w.heap.size + 4) W.heap.size (.slice A ps.length n) ps (w2.putObj D (.deferred none)) := by
          refine HR.out.2.2.2.2.2.kept (by omega) fun k cur t k1 k2 => ?_
          refine (ep k (fun e => ?_)).trans (HB2.out.block k k1)
          rw [e, HR.out.2.2.2.2.1] at k2
          cases k2
        unfold ParsePost
        rw [if_pos hok]
        exact ⟨A, n, ps, HR.out.2.1, hob.rule.1, HR.out.1.2.1, HR.out.1.2.2, HR.out.2.2.1, rfl⟩
      · have hok : parseOk s = false := by
          unfold parseOk
          rw [← HR.out.2.1, decide_eq_true h0, Bool.true_and, decide_eq_false_iff_not]
          intro h
          exact h1 (by rw [h])
        generalize (⟨(ruleL (ruleC ps)).toArray⟩ : ByteArray) = T at *
        have hne : (T.toList == s.toList) = false := text_ne h1
        clear h0 h1
        go_wp2_with fail
        refine KT.out.mono ?_
        rintro e w2 ⟨rfl, hb2⟩
        have HB2 := Lib.hid hb2
        have c4 := carry hb2 c4
        clear hb2
        go_wp2_with fail
        have hb9 := HR.out.2.2.2.1.trans (HB2.out.mono HR.out.2.2.2.1.size)
        have hK2 := (HB2.out.block D hDW).trans HR.out.2.2.2.2.1
        have hs2 := HB2.out.size
        have ep : ∀ k, k ≠ D → (w2.putObj D (.deferred none)).heap[k]? = w2.heap[k]? := fun k hk => put_other _ _ hk
        have b9 : Below w.heap.size w (w2.putObj D (.deferred none)) := ⟨hb9.1, hb9.2, hb9.3, by simpa using hb9.4, fun k hk => (ep k (by omega)).trans (hb9.5 k hk)⟩
        refine ⟨by simp, .inl ⟨_, _, rfl, run_takeDeferred hK2, ?_⟩⟩
        exact ⟨.tuple #[.slice none 0 0, errT 3], by simp [results, Tryz.results6, go_sem, errT], by unfold ParsePost; rw [hok]; rfl, b9⟩
    · have hok : parseOk s = false := by
        unfold parseOk
        rw [← HR.out.2.1, decide_eq_false h0, Bool.false_and]
      have KT := Lib.hid (rule_text_no A n ps W HR.out.1.1 HR.out.1.2.1 HR.out.1.2.2 (by rw [HR.out.2.1]; have := parse_count s; omega) h0)
      have KT := Lib.hid (by have := KT.out; simp only [errT] at this; exact this)
      clear h0
      go_wp2_with fail
      refine KT.out.mono ?_
      rintro e w2 ⟨rfl, hb2⟩
      have HB2 := Lib.hid hb2
      have c4 := carry hb2 c4
      clear hb2
      go_wp2_with fail
      have hb9 := HR.out.2.2.2.1.trans (HB2.out.mono HR.out.2.2.2.1.size)
      have hK2 := (HB2.out.block D hDW).trans HR.out.2.2.2.2.1
      have hs2 := HB2.out.size
      have ep : ∀ k, k ≠ D → (w2.putObj D (.deferred none)).heap[k]? = w2.heap[k]? := fun k hk => put_other _ _ hk
      have b9 : Below w.heap.size w (w2.putObj D (.deferred none)) := ⟨hb9.1, hb9.2, hb9.3, by simpa using hb9.4, fun k hk => (ep k (by omega)).trans (hb9.5 k hk)⟩
      refine ⟨by simp, .inl ⟨_, _, rfl, run_takeDeferred hK2, ?_⟩⟩
      exact ⟨.tuple #[.slice none 0 0, errT 3], by simp [results, Tryz.results6, go_sem, errT], by unfold ParsePost; rw [hok]; rfl, b9⟩
end Go.Proofs.YtkklemhhimcahaaGreatDoor
