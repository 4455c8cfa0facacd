/- linguisterref1.TagsFault. -/
import Derived.Test.YtdpdnanjanceeaaDoorSameTags
import Derived.Test.YtdpdnanjanceeaaDoorRFault
namespace Go.Proofs.YtdpdnanjanceeaaDoor
open Go.RowKit
attribute [local go_sem ↓] Go.wp_at_zero Go.wp_at_succ

/-- The first fault among tags: 0 none. -/
def tagsErr : List TagD → Int
  | [] => 0
  | t :: r => if t.c.err = 0 then tagsErr r else t.c.err
theorem tagsErr_step (ts : List TagD) (k : Nat) (t : TagD) (h : ts[k]? = some t) : tagsErr (ts.drop k) = if t.c.err = 0 then tagsErr (ts.drop (k + 1)) else t.c.err := by
  have hk : k < ts.length := (List.getElem?_eq_some_iff.1 h).1
  have hv : ts[k] = t := (List.getElem?_eq_some_iff.1 h).2
  rw [List.drop_eq_getElem_cons hk, hv, tagsErr]
/-- its texts lie there -/
def TagD.fine (w : World) (t : TagD) : Prop := StrsIn w t.A t.c.vs ∧ (t.A = none → t.n = 0) ∧ t.c.vs.length ≤ t.n
theorem TagD.fine.below {w w' : World} {t : TagD} (h : t.fine w) (hb : Below w.heap.size w w') : t.fine w' := ⟨h.1.below hb, h.2⟩
theorem TagD.ok.fine {w : World} {t : TagD} (h : t.ok w) : t.fine w := ⟨h.1.strs, h.2⟩
def TagD.small (t : TagD) : Prop := (t.c.l.size ≤ 140737488355328 ∧ t.c.s.size ≤ 140737488355328 ∧ t.c.r.size ≤ 140737488355328) ∧ (∀ v ∈ t.c.vs, v.size ≤ 140737488355328) ∧ t.n ≤ 140737488355328

set_option maxHeartbeats 2000000 in
theorem tags_fault (g o n c : Nat) (ts : List TagD) (w : World) (h1 : TagsIn w g o ts) (hn : ts.length = n) (hnc : n ≤ c) (hk1 : ∀ t ∈ ts, t.fine w) (hz : ∀ t ∈ ts, t.small) (hsz : n ≤ 1955000000000) :
    Calls Tryd.prog 17 #[.slice (some ⟨g, o, none⟩) n c] w fun e w' => e = .returned (.int .i64 (tagsErr ts)) ∧ Below w.heap.size w w' := by
  have H1 := Lib.hid h1
  have HK1 := Lib.hid hk1
  have HZ := Lib.hid hz
  have HN := Lib.hid hn
  have HE : Hid (tagsErr (ts.drop 0) = tagsErr ts) := Lib.hid rfl
  generalize tagsErr ts = E at *
  clear h1 hk1 hz hn
  go_enter Tryd.func17, Tryd.ntmps17
  go_wp2_with fail
  go_loopw [3] (fun i wr => ∃ k : Nat, k ≤ n ∧ i = .int .i64 k ∧ Hid (tagsErr (ts.drop k) = E) ∧ Hid (Below w.heap.size w wr)) (fun i _ => n - (intOf i).toNat)
  case atStart => exact ⟨0, Nat.zero_le _, rfl, HE, Lib.hid (Below.refl _ _)⟩
  case round =>
    obtain ⟨k, hk, rfl, HV, HB⟩ := hrel
    by_cases hlt : k < n
    · obtain ⟨t, ht⟩ : ∃ t, ts[k]? = some t := ⟨ts[k]'(by have := HN.out; omega), List.getElem?_eq_getElem _⟩
      have ok1 := (HK1.out t (List.mem_of_getElem? ht)).below HB.out
      have sm := HZ.out t (List.mem_of_getElem? ht)
      have hT := (H1.out.below HB.out)
      have hst := tagsErr_step ts k t ht
      rw [HV.out] at hst
      obtain ⟨⟨l, s, r, vs⟩, A, p⟩ := t
      have a0 := hT k _ 0 _ ht rfl
      have a1 := hT k _ 1 _ ht rfl
      have a2 := hT k _ 2 _ ht rfl
      have a3 := hT k _ 3 _ ht rfl
      simp only [Nat.add_zero] at a0 a1 a2 a3
      obtain ⟨⟨z1, z2, z3⟩, z4, z5⟩ := sm
      simp only at z1 z2 z3 z4 z5
      have i0 : (0 : Int) ≤ (k : Int) := by omega
      have i1 : (k : Int) < (n : Int) := by omega
      have i2 : (k : Int) ≤ (c : Int) := by omega
      have e1 : IntKind.i64.wrap ((k : Int) + 1) = (k : Int) + 1 := IntWalk.i64_in _ (by omega)
      have KF := Lib.hid (fun W (hb : Below wr.heap.size wr W) => ref_fault l s r A p vs W z1 z2 z3 z4 (ok1.1.below hb) ok1.2.2 z5)
      have ee : (TagD.mk ⟨l, s, r, vs⟩ A p).c.err = tagErr l.data.toList s.data.toList r.data.toList (listsOf vs) := rfl
      rw [ee] at hst
      clear ee
      have sB := HB.out.size
      generalize tagErr l.data.toList s.data.toList r.data.toList (listsOf vs) = F at *
      clear ht hT ok1 z1 z2 z3 z4 z5
      by_cases h0 : F = 0
      · rw [if_pos h0] at hst
        have HS := Lib.hid hst.symm
        subst h0
        clear hst
        go_wp2_with fail
        refine (KF.out _ (Below.refl _ _)).mono ?_
        rintro e w1 ⟨rfl, hb⟩
        go_wp2_with fail
        go_roundw
        case rel => exact ⟨k + 1, by omega, by go_num, HS, Lib.hid (HB.out.trans (hb.mono sB))⟩
        case measure => simp [intOf]; omega
      · rw [if_neg h0] at hst
        have HS := Lib.hid hst
        have n0 : (F == 0) = false := by rw [beq_eq_false_iff_ne]; exact h0
        clear hst
        go_wp2_with fail
        refine (KF.out _ (Below.refl _ _)).mono ?_
        rintro e w1 ⟨rfl, hb⟩
        have b0 := carry hb a0
        have b1 := carry hb a1
        have b2 := carry hb a2
        have b3 := carry hb a3
        have s1 := hb.size
        go_wp2_with fail
        refine (KF.out _ hb).mono ?_
        rintro e w2 ⟨rfl, hb2⟩
        go_wp2_with fail
        go_ret
        exact ⟨ret_int HS.out.symm, (HB.out.trans (hb.mono sB)).trans (hb2.mono (by omega))⟩
    · have h0 : E = 0 := by
        have := HV.out
        rw [List.drop_of_length_le (by have := HN.out; omega)] at this
        exact this.symm
      have HE0 := Lib.hid h0
      clear h0
      go_wp2_with fail
      go_ret
      exact ⟨ret_int HE0.out.symm, HB.out⟩
end Go.Proofs.YtdpdnanjanceeaaDoor
