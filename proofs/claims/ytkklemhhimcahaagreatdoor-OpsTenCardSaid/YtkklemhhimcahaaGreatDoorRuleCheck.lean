/- rule.check. -/
import Derived.Test.YtkklemhhimcahaaGreatDoorRuleFine2
import Derived.Test.YtkklemhhimcahaaGreatDoorErr
namespace Go.Proofs.YtkklemhhimcahaaGreatDoor
open Go.RowKit

theorem ruleErr_bad {r : RuleC} {p : List RelC} (hp : p ∈ r) (h : p = [] ∨ ∃ x ∈ p, x.fine = false) : ruleErr r = 3 := by
  unfold ruleErr
  split
  · rfl
  · rw [if_neg]
    intro hall
    have := List.all_eq_true.1 hall p hp
    rw [Bool.and_eq_true, Bool.not_eq_true', decide_eq_false_iff_not, List.all_eq_true] at this
    rcases h with h | ⟨x, hx, hf⟩
    · exact this.1 (by rw [h]; rfl)
    · rw [this.2 x hx] at hf
      cases hf
theorem ruleErr_good {r : RuleC} (h0 : 0 < r.length) (h : ∀ p ∈ r, 0 < p.length ∧ ∀ x ∈ p, x.fine = true) : ruleErr r = if 20 < ruleCount r then 4 else 0 := by
  unfold ruleErr
  rw [if_neg (by omega), if_pos]
  rw [List.all_eq_true]
  intro p hp
  rw [Bool.and_eq_true, Bool.not_eq_true', decide_eq_false_iff_not, List.all_eq_true]
  exact ⟨by have := (h p hp).1; omega, (h p hp).2⟩

theorem part_c_len (p : PartD) : p.c.length = p.rs.length := by unfold PartD.c; rw [List.length_map]
theorem part_c_at {p : PartD} {j : Nat} {r : RelD} (h : p.rs[j]? = some r) : r.c ∈ p.c := List.mem_map_of_mem (List.mem_of_getElem? h)

set_option maxHeartbeats 4000000 in
theorem rule_check (A : Option Addr) (c : Nat) (ps : List PartD) (w : World) (h : RuleIn w A ps) (hc : ps.length ≤ c) (hc2 : c ≤ 9223372036854775807) (hn : ruleCount (ruleC ps) ≤ 9000000000000000000) :
    Calls Tryz.prog 23 #[.slice A ps.length c] w fun e w' => e = .returned (errOf (ruleErr (ruleC ps))) ∧ Below w.heap.size w w' := by
  by_cases h0 : ps.length = 0
  · have he : ruleErr (ruleC ps) = 3 := by
      unfold ruleErr ruleC
      rw [if_pos (by rw [List.length_map]; exact h0)]
    rw [he, h0]
    go_enter Tryz.func23, Tryz.ntmps23
    go_wp2_with fail
    go_ret
    exact ⟨rfl, (by (repeat (first | with_reducible exact Below.refl _ _ | with_reducible refine bel_set ?_ ?_ | with_reducible refine bel_alloc ?_ ?_ | with_reducible refine Below.drew ?_ | with_reducible refine bel_drewN _ ?_ | with_reducible refine bel_call ?_ (by assumption) ?_)); all_goals (first | (simp; done) | omega | (simp; omega)))⟩
  · have hl0 : ((ps.length : Int) == 0) = false := by rw [beq_eq_false_iff_ne]; omega
    have HR := Lib.hid h
    have HBAD : Hid (∀ p ∈ ps, (p.rs = [] ∨ ∃ x ∈ p.rs, x.c.fine = false) → ruleErr (ruleC ps) = 3) := Lib.hid (fun p hp h => ruleErr_bad (List.mem_map_of_mem (f := PartD.c) hp) (by
      rcases h with h | ⟨x, hx, hf⟩
      · left; unfold PartD.c; rw [h]; rfl
      · right; exact ⟨x.c, List.mem_map_of_mem (f := RelD.c) hx, hf⟩))
    have HGOOD : Hid ((∀ p ∈ ps, 0 < p.rs.length ∧ ∀ x ∈ p.rs, x.c.fine = true) → ruleErr (ruleC ps) = if 20 < ruleCount (ruleC ps) then 4 else 0) := Lib.hid (fun hall => ruleErr_good (by unfold ruleC; rw [List.length_map]; omega) (fun q hq => by
      obtain ⟨p, hp, rfl⟩ := List.mem_map.1 hq
      refine ⟨by rw [part_c_len]; exact (hall p hp).1, fun x hx => ?_⟩
      obtain ⟨y, hy, rfl⟩ := List.mem_map.1 hx
      exact (hall p hp).2 y hy))
    have HCNT : Hid (∀ k p, ps[k]? = some p → ruleCount (ruleC (ps.take (k + 1))) = ruleCount (ruleC (ps.take k)) + p.rs.length ∧ ruleCount (ruleC (ps.take (k + 1))) ≤ 9000000000000000000) := Lib.hid (fun k p hp => by
      have e : ∀ k, ruleC (ps.take k) = (ruleC ps).take k := fun k => by unfold ruleC; rw [List.map_take]
      have h1 : (ruleC ps)[k]? = some p.c := by unfold ruleC; rw [List.getElem?_map, hp]; rfl
      have h2 := count_take_succ (ruleC ps) k p.c h1
      have h3 := count_take_le (ruleC ps) (k + 1)
      rw [e, e, h2, part_c_len]
      rw [h2, part_c_len] at h3
      exact ⟨rfl, by omega⟩)
    have HALL : Hid (ruleCount (ruleC ps) = ruleCount (ruleC (ps.take ps.length))) := Lib.hid (by rw [List.take_length])
    generalize ruleErr (ruleC ps) = E at *
    clear h hn h0
    go_enter Tryz.func23, Tryz.ntmps23
    go_wp2_with fail
    go_loopw [3, 14] (fun m i wr => ∃ k : Nat, k ≤ ps.length ∧ i = .int .i64 k ∧ m = .int .i64 (ruleCount (ruleC (ps.take k)) : Nat) ∧ Hid (∀ j p, j < k → ps[j]? = some p → 0 < p.rs.length ∧ ∀ x ∈ p.rs, x.c.fine = true) ∧ Hid (Below w.heap.size w wr)) (fun _ i _ => ps.length - (intOf i).toNat)
    case atStart => exact ⟨0, Nat.zero_le _, rfl, rfl, Lib.hid (fun j p hj => by omega), Lib.hid (Below.refl _ _)⟩
    case round =>
      obtain ⟨k, hk, rfl, rfl, HG, HB⟩ := hrel
      by_cases hlt : k < ps.length
      · obtain ⟨p, hp⟩ : ∃ p, ps[k]? = some p := ⟨ps[k], List.getElem?_eq_getElem hlt⟩
        have hpm := List.mem_of_getElem? hp
        have hrin := HR.out.below HB.out
        obtain ⟨g, o, rfl, hcell⟩ : ∃ g o, A = some ⟨g, o, none⟩ ∧ ∀ (j : Nat) p, ps[j]? = some p → wr.cell? ⟨g, o + j, none⟩ = some (.slice p.A p.rs.length p.n) := by
          rcases hrin.1 with h | h
          · rw [h] at hlt; simp at hlt
          · exact h
        have hc0 := hcell k p hp
        have hfit := hrin.2 p hpm
        have HBp := Lib.hid (HBAD.out p hpm)
        have HCk := Lib.hid (HCNT.out k p hp)
        have HGk : Hid ((0 < p.rs.length ∧ ∀ x ∈ p.rs, x.c.fine = true) → ∀ j q, j < k + 1 → ps[j]? = some q → 0 < q.rs.length ∧ ∀ x ∈ q.rs, x.c.fine = true) := Lib.hid (fun hq j q hj hjq => by
          by_cases h : j < k
          · exact HG.out j q h hjq
          · obtain rfl : j = k := by omega
            rw [hp] at hjq
            cases hjq
            exact hq)
        have i0 : (0 : Int) ≤ (k : Int) := by omega
        have i1 : (k : Int) < (ps.length : Int) := by omega
        have i2 : (k : Int) ≤ (c : Int) := by omega
        have e1 : IntKind.i64.wrap ((k : Int) + 1) = (k : Int) + 1 := IntWalk.i64_in _ (by omega)
        have sB := HB.out.size
        obtain ⟨rs, B, n⟩ := p
        simp only at hc0 HBp HCk HGk
        obtain ⟨f1, f2, f3, f4⟩ := hfit
        simp only at f1 f2 f3 f4
        obtain ⟨cn, hcn⟩ : ∃ cn : Nat, cn = ruleCount (ruleC (ps.take k)) := ⟨_, rfl⟩
        rw [← hcn] at HCk ⊢
        have hcb : cn + rs.length ≤ 9000000000000000000 := by have := HCk.out; omega
        clear hcn hp hpm hrin hcell HG
        by_cases hr0 : rs.length = 0
        · have hE : E = 3 := HBp.out (.inl (List.length_eq_zero_iff.1 hr0))
          subst hE
          rw [hr0] at hc0
          go_wp2_with fail
          go_ret
          exact ⟨rfl, HB.out⟩
        · have hl1 : ((rs.length : Int) == 0) = false := by rw [beq_eq_false_iff_ne]; omega
          obtain ⟨g2, o2, rfl, hrels⟩ : ∃ g o, B = some ⟨g, o, none⟩ ∧ RelsIn wr g o rs := by
            rcases f1 with h | h
            · rw [h] at hr0; exact absurd rfl hr0
            · exact h
          obtain ⟨r0, hr0'⟩ : ∃ r, rs[0]? = some r := ⟨rs[0]'(by omega), List.getElem?_eq_getElem _⟩
          have a0 := hrels 0 _ 0 _ hr0' rfl
          have a1 := hrels 0 _ 1 _ hr0' rfl
          have a2 := hrels 0 _ 2 _ hr0' rfl
          have a3 := hrels 0 _ 3 _ hr0' rfl
          simp only [Nat.zero_mul, Nat.add_zero] at a0 a1 a2 a3
          have KF := Lib.hid (rule_fine r0 wr (f4 r0 (List.mem_of_getElem? hr0')))
          have HRL := Lib.hid hrels
          have HF4 := Lib.hid f4
          have j1 : (0 : Int) < (rs.length : Int) := by omega
          have j2 : (rs.length : Int) ≤ (n : Int) := by omega
          have hb0 : r0.c.fine = false → E = 3 := fun h => HBp.out (.inr ⟨r0, List.mem_of_getElem? hr0', h⟩)
          obtain ⟨⟨op, md, neg, rr⟩, C, nn⟩ := r0
          simp only at a0 a1 a2 a3 KF hb0
          clear hrels f1 f4
          cases hq : (RelC.mk op md neg rr).fine
          · rw [hq] at KF
            have hE := hb0 hq
            subst hE
            clear hb0 hq hr0'
            go_wp2_with fail
            refine KF.out.mono ?_
            rintro e w1 ⟨rfl, hb⟩
            go_wp2_with fail
            go_ret
            exact ⟨rfl, HB.out.trans (hb.mono sB)⟩
          · rw [hq] at KF
            clear hb0 hq hr0'
            go_wp2_with fail
            refine KF.out.mono ?_
            rintro e w1 ⟨rfl, hb⟩
            have HB1 := Lib.hid (HB.out.trans (hb.mono sB))
            have HR1 := Lib.hid (HRL.out.below hb)
            have HF1 := Lib.hid (fun r hr => (HF4.out r hr).below hb)
            have s1 := HB1.out.size
            clear hb a0 a1 a2 a3
            go_wp2_with fail
            go_loopw [3, 31] (fun m i wx => ∃ j : Nat, j ≤ rs.length ∧ i = .int .i64 j ∧ m = .int .i64 (cn + j : Nat) ∧ Hid (∀ i r, i < j → rs[i]? = some r → r.c.fine = true) ∧ Hid (Below w1.heap.size w1 wx)) (fun _ i _ => rs.length - (intOf i).toNat)
            case atStart => exact ⟨0, Nat.zero_le _, rfl, rfl, Lib.hid (fun i r hi => by omega), Lib.hid (Below.refl _ _)⟩
            case round =>
              obtain ⟨j, hj, rfl, rfl, HJ, HB2⟩ := hrel
              have sB2 := HB2.out.size
              by_cases hlt2 : j < rs.length
              · obtain ⟨r, hr⟩ : ∃ r, rs[j]? = some r := ⟨rs[j], List.getElem?_eq_getElem hlt2⟩
                have hrels := HR1.out.below HB2.out
                have a0 := hrels j _ 0 _ hr rfl
                have a1 := hrels j _ 1 _ hr rfl
                have a2 := hrels j _ 2 _ hr rfl
                have a3 := hrels j _ 3 _ hr rfl
                simp only [Nat.add_zero] at a0 a1 a2 a3
                have KF2 := Lib.hid (fun W (hb : Below wr.heap.size wr W) => rule_fine r W (((HF1.out r (List.mem_of_getElem? hr)).below HB2.out).below hb))
                have hb2 : r.c.fine = false → E = 3 := fun h => HBp.out (.inr ⟨r, List.mem_of_getElem? hr, h⟩)
                have hst : r.c.fine = true → ∀ i u, i < j + 1 → rs[i]? = some u → u.c.fine = true := fun hq i u hi hu => by
                  by_cases h : i < j
                  · exact HJ.out i u h hu
                  · obtain rfl : i = j := by omega
                    rw [hr] at hu
                    cases hu
                    exact hq
                have q0 : (0 : Int) ≤ (j : Int) := by omega
                have q1 : (j : Int) < (rs.length : Int) := by omega
                have q2 : (j : Int) ≤ (n : Int) := by omega
                have e2 : IntKind.i64.wrap ((j : Int) + 1) = (j : Int) + 1 := IntWalk.i64_in _ (by omega)
                have e3 : IntKind.i64.wrap (((cn + j : Nat) : Int) + 1) = ((cn + j : Nat) : Int) + 1 := IntWalk.i64_in _ (by omega)
                obtain ⟨⟨op, md, neg, rr⟩, C, nn⟩ := r
                simp only at a0 a1 a2 a3 KF2 hb2 hst
                clear hrels hr
                cases hq : (RelC.mk op md neg rr).fine
                · rw [hq] at KF2
                  have hE := hb2 hq
                  subst hE
                  clear hb2 hq hst
                  go_wp2_with fail
                  refine (KF2.out _ (by (repeat (first | with_reducible exact Below.refl _ _ | with_reducible refine bel_set ?_ ?_ | with_reducible refine bel_alloc ?_ ?_ | with_reducible refine Below.drew ?_ | with_reducible refine bel_drewN _ ?_ | with_reducible refine bel_call ?_ (by assumption) ?_)); all_goals (first | (simp; done) | omega | (simp; omega)))).mono ?_
                  rintro e w3 ⟨rfl, hb⟩
                  go_wp2_with fail
                  go_ret
                  exact ⟨rfl, ((HB1.out.trans (HB2.out.mono s1)).alloc (by omega) _).trans (hb.mono (by simp; omega))⟩
                · rw [hq] at KF2
                  have HS := Lib.hid (hst hq)
                  clear hb2 hq hst
                  go_wp2_with fail
                  refine (KF2.out _ (by (repeat (first | with_reducible exact Below.refl _ _ | with_reducible refine bel_set ?_ ?_ | with_reducible refine bel_alloc ?_ ?_ | with_reducible refine Below.drew ?_ | with_reducible refine bel_drewN _ ?_ | with_reducible refine bel_call ?_ (by assumption) ?_)); all_goals (first | (simp; done) | omega | (simp; omega)))).mono ?_
                  rintro e w3 ⟨rfl, hb⟩
                  have HB3 : Hid (Below w1.heap.size w1 w3) := Lib.hid (((HB2.out.alloc sB2 _).trans (hb.mono (by simp; omega))))
                  go_wp2_with fail
                  go_roundw
                  case rel => exact ⟨j + 1, by omega, by go_num, by go_num, HS, HB3⟩
                  case measure => simp [intOf]; omega
              · obtain rfl : j = rs.length := by omega
                have HGn := Lib.hid (HGk.out ⟨by omega, fun x hx => by
                  obtain ⟨i, hi⟩ := List.mem_iff_getElem?.1 hx
                  exact HJ.out i x (List.getElem?_eq_some_iff.1 hi).1 hi⟩)
                have HBn := Lib.hid (HB1.out.trans (HB2.out.mono s1))
                have hcc := HCk.out.1
                rw [← hcc]
                clear hcc
                go_wp2_with fail
                go_roundw
                case rel => exact ⟨k + 1, by omega, by go_num, rfl, HGn, HBn⟩
                case measure => simp [intOf]; omega
      · obtain rfl : k = ps.length := by omega
        have hE := HGOOD.out (fun p hp => by
          obtain ⟨i, hi⟩ := List.mem_iff_getElem?.1 hp
          exact HG.out i p (List.getElem?_eq_some_iff.1 hi).1 hi)
        rw [HALL.out] at hE
        generalize ruleCount (ruleC (ps.take ps.length)) = N at *
        by_cases h20 : 20 < N
        · rw [if_pos h20] at hE
          subst hE
          have h20' : (20 : Int) < (N : Int) := by omega
          go_wp2_with fail
          go_ret
          exact ⟨rfl, HB.out⟩
        · rw [if_neg h20] at hE
          subst hE
          have h20' : ¬ (20 : Int) < (N : Int) := by omega
          go_wp2_with fail
          go_ret
          exact ⟨rfl, HB.out⟩
end Go.Proofs.YtkklemhhimcahaaGreatDoor
