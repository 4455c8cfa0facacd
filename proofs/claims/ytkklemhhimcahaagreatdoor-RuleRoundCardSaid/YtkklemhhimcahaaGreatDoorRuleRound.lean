/- RuleRound: the law's walk. -/
import Derived.Test.YtkklemhhimcahaaGreatDoorRuleParse3
import Derived.Test.YtkklemhhimcahaaGreatDoorRuleAny
import Derived.Test.YtkklemhhimcahaaGreatDoorParseOne
import Derived.Test.YtkklemhhimcahaaGreatDoorTold
import Derived.Deep.RegionHeld3
import Derived.Deep.DrawnRows
namespace Go.Proofs.YtkklemhhimcahaaGreatDoor
open Go.RowKit
attribute [local go_sem ↓] Go.wp_at_zero Go.wp_at_succ

theorem one_err (r : RelC) : ruleErr [[r]] = if r.fine then 0 else 3 := by
  unfold ruleErr
  simp [ruleCount]
theorem one_holds (r : RelC) (o : OpsC) : ruleHolds [[r]] o = r.holds o := by
  unfold ruleHolds
  simp
theorem round_same (r : RelC) (n : Int) (hn : 0 ≤ n) (hm : 1 ≤ r.md) (ho : r.op = 105 ∨ r.op = 110) : r.holds ⟨n + r.md, 0, 0, 0, 0⟩ = r.holds ⟨n, 0, 0, 0, 0⟩ := by
  have h1 : (n + r.md).tmod r.md = n.tmod r.md := by
    rw [Int.tmod_eq_emod_of_nonneg (by omega), Int.tmod_eq_emod_of_nonneg hn, Int.add_emod_right]
  have h2 : ∀ m : Int, OpsC.at ⟨m, 0, 0, 0, 0⟩ r.op = m := by
    intro m
    unfold OpsC.at
    rcases ho with h | h <;> rw [h] <;> rfl
  unfold RelC.holds
  simp only [h2, if_neg (by omega : ¬ r.md = 0), h1]

def RoundPost (r : RelC) (m : Int) (e : Ending) : Prop := (r.fine = true ∧ e = .returned (.tuple #[.bool (r.holds ⟨m, 0, 0, 0, 0⟩), .nilIface])) ∨ (r.fine = false ∧ e = .returned (.tuple #[.bool false, errT 3]))
theorem zz : (-9223372036854775808 : Int) ≤ 0 ∧ (0 : Int) ≤ 9223372036854775807 := by decide
/-- rule.Holds of one rel -/
theorem holds_one (d : RelD) (g : Nat) (k m : Int) (hk : (d.c.op.toNat : Int) = k) (w W : World) (hd : d.fits w) (hw : Below w.heap.size w W) (hm : -9223372036854775808 ≤ m ∧ m ≤ 9223372036854775807) (hg : W.heap[g]? = some (.cells #[.int .u8 k, .int .i64 d.c.md, .bool d.c.neg, .slice d.A d.c.rs.length d.n] 24 (0, 0)))
    (hg2 : W.heap[g + 1]? = some (.cells #[.slice (some ⟨g, 0, none⟩) 1 1] 32 (0, 0))) :
    Calls Tryz.prog 7 #[.slice (some ⟨g + 1, 0, none⟩) 1 1, opsV m 0 0 0 0] W fun e w' => RoundPost d.c m e ∧ Below W.heap.size W w' := by
  subst hk
  have hr : RuleIn W (some ⟨g + 1, 0, none⟩) [⟨[d], some ⟨g, 0, none⟩, 1⟩] := by
    refine ⟨.inr ⟨g + 1, 0, rfl, fun j p hp => ?_⟩, fun p hp => ?_⟩
    · match j, hp with
      | 0, hp =>
        cases hp
        simp [World.cell?, hg2]
    · obtain rfl := List.mem_singleton.1 hp
      refine ⟨.inr ⟨g, 0, rfl, fun j r i u hr hu => ?_⟩, Nat.le_refl _, (by show (1 : Nat) ≤ 9223372036854775807; decide), fun r hr => ?_⟩
      · match j, hr with
        | 0, hr =>
          cases hr
          have hi := (List.getElem?_eq_some_iff.1 hu).1
          simp only [RelD.cells] at hu hi
          simp only [World.cell?, hg, Nat.zero_mul, Nat.zero_add, Nat.add_zero]
          simpa using hu
      · obtain rfl := List.mem_singleton.1 hr
        exact hd.below hw
  have hc : ruleC [⟨[d], some ⟨g, 0, none⟩, 1⟩] = [[d.c]] := rfl
  have := rule_Holds (some ⟨g + 1, 0, none⟩) 1 [⟨[d], some ⟨g, 0, none⟩, 1⟩] ⟨m, 0, 0, 0, 0⟩ W hr (Nat.le_refl _) (by decide) (by rw [hc]; simp [ruleCount]) ⟨hm, zz, zz, zz, zz⟩
  rw [hc, one_err, one_holds] at this
  refine this.mono ?_
  rintro e w' ⟨rfl, hb⟩
  refine ⟨?_, hb⟩
  cases hf : d.c.fine
  · exact .inr ⟨hf, rfl⟩
  · exact .inl ⟨hf, rfl⟩
theorem heap_new1 (w : World) (o p : Obj) : ((w.alloc o).alloc p).heap[w.heap.size]? = some o := by
  show ((w.heap.push o).push p)[w.heap.size]? = some o
  rw [Array.getElem?_push, Array.size_push, if_neg (by omega), Array.getElem?_push, if_pos rfl]
theorem heap_new2 (w : World) (o p : Obj) : ((w.alloc o).alloc p).heap[w.heap.size + 1]? = some p := by
  show ((w.heap.push o).push p)[w.heap.size + 1]? = some p
  rw [Array.getElem?_push, Array.size_push, if_pos rfl]
theorem wf_i64r {n : Int} (h : (Lit.int .i64 n).wf = true) : -9223372036854775808 ≤ n ∧ n ≤ 9223372036854775807 := by
  simpa [Lit.wf, IntKind.min, IntKind.max, IntKind.signed, IntKind.bits] using h

set_option maxHeartbeats 2000000 in
/-- what is asked of is out of what the law speaks of -/
theorem round_out (k md : Int) (neg : Bool) (A : Option Addr) (L c : Nat) (n : Int) (w : World) (hE : RuleEnv w) (h : n < 0 ∨ 1099511627776 < n ∨ md < 1 ∨ ((k == 105) = false ∧ (k == 110) = false)) :
    Calls Tryz.prog 3 #[.agg #[.int .u8 k, .int .i64 md, .bool neg, .slice A L c], .int .i64 n] w fun e w' => e = .returned (.bool true) ∧ Below w.heap.size w w' := by
  have KP := Lib.hid (fun W (hb : Below w.heap.size w W) => parse_n1 W (hE.below hb))
  have HH := Lib.hid h
  clear h hE
  go_enter Tryz.func3, Tryz.ntmps3
  go_wp2_with fail
  refine (KP.out _ (by (repeat (first | with_reducible exact Below.refl _ _ | with_reducible refine bel_set ?_ ?_ | with_reducible refine bel_alloc ?_ ?_ | with_reducible refine Below.drew ?_ | with_reducible refine bel_drewN _ ?_ | with_reducible refine bel_call ?_ (by assumption) ?_)); all_goals (first | (simp; done) | omega | (simp; omega)))).mono ?_
  rintro e w1 ⟨⟨Af, cf, rfl⟩, hb⟩
  have x0 : w1.cell? ⟨w.heap.size, 0, none⟩ = some (.int .u8 k) := carry hb (by go_simp)
  have x1 : w1.cell? ⟨w.heap.size, 1, none⟩ = some (.int .i64 md) := carry hb (by go_simp)
  have x2 : w1.cell? ⟨w.heap.size, 2, none⟩ = some (.bool neg) := carry hb (by go_simp)
  have x3 : w1.cell? ⟨w.heap.size, 3, none⟩ = some (.slice A L c) := carry hb (by go_simp)
  have HB1 : Hid (Below w.heap.size w w1) := Lib.hid (by (repeat (first | with_reducible exact Below.refl _ _ | with_reducible refine bel_set ?_ ?_ | with_reducible refine bel_alloc ?_ ?_ | with_reducible refine Below.drew ?_ | with_reducible refine bel_drewN _ ?_ | with_reducible refine bel_call ?_ (by assumption) ?_)); all_goals (first | (simp; done) | omega | (simp; omega)))
  have s1 := lt_of_cell x0
  clear hb
  by_cases h0 : n < 0
  · clear HH
    go_wp2_with fail
    go_ret
    exact ⟨rfl, HB1.out⟩
  · by_cases h1 : 1099511627776 < n
    · clear HH
      go_wp2_with fail
      go_ret
      exact ⟨rfl, HB1.out⟩
    · by_cases h2 : md < 1
      · clear HH
        go_wp2_with fail
        go_ret
        exact ⟨rfl, HB1.out⟩
      · have h3 : (k == 105) = false ∧ (k == 110) = false := by
          rcases HH.out with h | h | h | h
          · omega
          · omega
          · omega
          · exact h
        obtain ⟨h3, h4⟩ := h3
        have h5 : (k != 105) = true := by rw [bne, h3]; rfl
        have h6 : (k != 110) = true := by rw [bne, h4]; rfl
        clear HH
        go_wp2_with fail
        go_ret
        exact ⟨rfl, HB1.out⟩

set_option maxHeartbeats 4000000 in
theorem round_in (d : RelD) (k : Int) (hk : (d.c.op.toNat : Int) = k) (n : Int) (w : World) (hE : RuleEnv w) (hT : ErrT w) (hd : d.fits w) (h0 : 0 ≤ n) (h1 : n ≤ 1099511627776) (h2 : 1 ≤ d.c.md) (h3 : k = 105 ∨ k = 110) :
    Calls Tryz.prog 3 #[.agg #[.int .u8 k, .int .i64 d.c.md, .bool d.c.neg, .slice d.A d.c.rs.length d.n], .int .i64 n] w fun e w' => e = .returned (.bool true) ∧ Below w.heap.size w w' := by
  have KP := Lib.hid (fun W (hb : Below w.heap.size w W) => parse_n1 W (hE.below hb))
  have KH := Lib.hid (fun g m W (hw : Below w.heap.size w W) hm hg hg2 => holds_one d g k m hk w W hd hw hm hg hg2)
  have KT0 := Lib.hid (fun W (hb : Below w.heap.size w W) => same_told none none W (hT.below hb))
  have KT3 := Lib.hid (fun W (hb : Below w.heap.size w W) => same_told (some 3) (some 3) W (hT.below hb))
  have HR : Hid (d.c.holds ⟨n + d.c.md, 0, 0, 0, 0⟩ = d.c.holds ⟨n, 0, 0, 0, 0⟩) := Lib.hid (round_same d.c n h0 h2 (by
    rcases h3 with h | h
    · left; exact UInt8.toNat_inj.1 (by show d.c.op.toNat = 105; omega)
    · right; exact UInt8.toNat_inj.1 (by show d.c.op.toNat = 110; omega)))
  have HF := Lib.hid (fun h => fine_md (r := d.c) h)
  have hmd : d.c.md ≤ 9223372036854775807 := hd.2.2.2.1.2
  generalize hH : d.c.holds = H at *
  unfold RoundPost at KH
  simp only [hH] at KH
  clear hk hE hT hd hH
  obtain ⟨⟨op, md, neg, rs⟩, A, c⟩ := d
  simp only at *
  generalize rs.length = L at *
  generalize (RelC.mk op md neg rs).fine = fi at *
  go_enter Tryz.func3, Tryz.ntmps3
  go_wp2_with fail
  refine (KP.out _ (by (repeat (first | with_reducible exact Below.refl _ _ | with_reducible refine bel_set ?_ ?_ | with_reducible refine bel_alloc ?_ ?_ | with_reducible refine Below.drew ?_ | with_reducible refine bel_drewN _ ?_ | with_reducible refine bel_call ?_ (by assumption) ?_)); all_goals (first | (simp; done) | omega | (simp; omega)))).mono ?_
  rintro e w1 ⟨⟨Af, cf, rfl⟩, hb⟩
  have x0 : w1.cell? ⟨w.heap.size, 0, none⟩ = some (.int .u8 k) := carry hb (by go_simp)
  have x1 : w1.cell? ⟨w.heap.size, 1, none⟩ = some (.int .i64 md) := carry hb (by go_simp)
  have x2 : w1.cell? ⟨w.heap.size, 2, none⟩ = some (.bool neg) := carry hb (by go_simp)
  have x3 : w1.cell? ⟨w.heap.size, 3, none⟩ = some (.slice A L c) := carry hb (by go_simp)
  have HB1 : Hid (Below w.heap.size w w1) := Lib.hid (by (repeat (first | with_reducible exact Below.refl _ _ | with_reducible refine bel_set ?_ ?_ | with_reducible refine bel_alloc ?_ ?_ | with_reducible refine Below.drew ?_ | with_reducible refine bel_drewN _ ?_ | with_reducible refine bel_call ?_ (by assumption) ?_)); all_goals (first | (simp; done) | omega | (simp; omega)))
  have s1 := lt_of_cell x0
  clear hb
  have n1 : ¬ n < 0 := by omega
  have n2 : ¬ 1099511627776 < n := by omega
  have n3 : ¬ md < 1 := by omega
  cases fi
  · rcases h3 with rfl | rfl
    all_goals
      go_wp2_with fail
      refine (KH.out w1.heap.size n _ ((HB1.out.alloc HB1.out.size _).alloc (by have := HB1.out.size; simp; omega) _) ⟨by omega, by omega⟩ ?_ ?_).mono ?_
      · exact heap_new1 _ _ _
      · exact heap_new2 _ _ _
      rintro e w2 ⟨hp, hb⟩
      obtain ⟨_, rfl⟩ := hp.resolve_left (fun h => by cases h.1)
      have HB2 : Hid (Below w.heap.size w w2) := Lib.hid (((HB1.out.alloc HB1.out.size _).alloc (by have := HB1.out.size; simp; omega) _).trans (hb.mono (by have := HB1.out.size; simp; omega)))
      have y0 := carry hb (carry (((Below.refl _ _).alloc (Nat.le_refl _) _).alloc (by simp) _) x0)
      have y1 := carry hb (carry (((Below.refl _ _).alloc (Nat.le_refl _) _).alloc (by simp) _) x1)
      have y2 := carry hb (carry (((Below.refl _ _).alloc (Nat.le_refl _) _).alloc (by simp) _) x2)
      have y3 := carry hb (carry (((Below.refl _ _).alloc (Nat.le_refl _) _).alloc (by simp) _) x3)
      have s2 := lt_of_cell y0
      clear hb x0 x1 x2 x3
      go_wp2_with fail
      refine (KH.out w2.heap.size _ _ ((HB2.out.alloc HB2.out.size _).alloc (by have := HB2.out.size; simp; omega) _) (wf_i64r (wrap64_wf _)) ?_ ?_).mono ?_
      · exact heap_new1 _ _ _
      · exact heap_new2 _ _ _
      rintro e w3 ⟨hp, hb⟩
      obtain ⟨_, rfl⟩ := hp.resolve_left (fun h => by cases h.1)
      have HB3 : Hid (Below w.heap.size w w3) := Lib.hid (((HB2.out.alloc HB2.out.size _).alloc (by have := HB2.out.size; simp; omega) _).trans (hb.mono (by have := HB2.out.size; simp; omega)))
      clear hb y0 y1 y2 y3
      go_wp2_with fail
      refine (KT3.out _ HB3.out).mono ?_
      rintro e w4 ⟨rfl, hb⟩
      have HB4 : Hid (Below w.heap.size w w4) := Lib.hid (HB3.out.trans (hb.mono HB3.out.size))
      clear hb
      go_wp2_with fail
      go_ret
      exact ⟨rfl, HB4.out⟩
  · have hm := HF.out rfl
    rcases h3 with rfl | rfl
    all_goals
      go_wp2_with fail
      refine (KH.out w1.heap.size n _ ((HB1.out.alloc HB1.out.size _).alloc (by have := HB1.out.size; simp; omega) _) ⟨by omega, by omega⟩ ?_ ?_).mono ?_
      · exact heap_new1 _ _ _
      · exact heap_new2 _ _ _
      rintro e w2 ⟨hp, hb⟩
      obtain ⟨_, rfl⟩ := hp.resolve_right (fun h => by cases h.1)
      have HB2 : Hid (Below w.heap.size w w2) := Lib.hid (((HB1.out.alloc HB1.out.size _).alloc (by have := HB1.out.size; simp; omega) _).trans (hb.mono (by have := HB1.out.size; simp; omega)))
      have y0 := carry hb (carry (((Below.refl _ _).alloc (Nat.le_refl _) _).alloc (by simp) _) x0)
      have y1 := carry hb (carry (((Below.refl _ _).alloc (Nat.le_refl _) _).alloc (by simp) _) x1)
      have y2 := carry hb (carry (((Below.refl _ _).alloc (Nat.le_refl _) _).alloc (by simp) _) x2)
      have y3 := carry hb (carry (((Below.refl _ _).alloc (Nat.le_refl _) _).alloc (by simp) _) x3)
      have s2 := lt_of_cell y0
      clear hb x0 x1 x2 x3
      go_wp2_with fail
      refine (KH.out w2.heap.size (n + md) _ ((HB2.out.alloc HB2.out.size _).alloc (by have := HB2.out.size; simp; omega) _) ⟨by omega, by omega⟩ ?_ ?_).mono ?_
      · exact heap_new1 _ _ _
      · exact heap_new2 _ _ _
      rintro e w3 ⟨hp, hb⟩
      obtain ⟨_, rfl⟩ := hp.resolve_right (fun h => by cases h.1)
      have HB3 : Hid (Below w.heap.size w w3) := Lib.hid (((HB2.out.alloc HB2.out.size _).alloc (by have := HB2.out.size; simp; omega) _).trans (hb.mono (by have := HB2.out.size; simp; omega)))
      clear hb y0 y1 y2 y3
      go_wp2_with fail
      refine (KT0.out _ HB3.out).mono ?_
      rintro e w4 ⟨rfl, hb⟩
      have HB4 : Hid (Below w.heap.size w w4) := Lib.hid (HB3.out.trans (hb.mono HB3.out.size))
      clear hb
      rw [HR.out]
      generalize H ⟨n, 0, 0, 0, 0⟩ = r at *
      cases r <;> (go_wp2_with fail; go_ret; exact ⟨rfl, HB4.out⟩)
end Go.Proofs.YtkklemhhimcahaaGreatDoor
