/- rule.Text. -/
import Derived.Test.YtkklemhhimcahaaGreatDoorRuleRelated
import Derived.Test.YtkklemhhimcahaaGreatDoorRuleCheck
import Derived.Test.YtkklemhhimcahaaGreatDoorPlains
namespace Go.Proofs.YtkklemhhimcahaaGreatDoor
open Go.RowKit

theorem lens_le (xs : List (List UInt8)) (B : Nat) (h : ∀ x ∈ xs, x.length ≤ B) : Lib.lens xs ≤ B * xs.length := by
  induction xs with
  | nil => simp [Lib.lens]
  | cons x r ih =>
    have h1 := h x (by simp)
    have h2 := ih (fun y hy => h y (by simp [hy]))
    have e : Lib.lens (x :: r) = x.length + Lib.lens r := by simp [Lib.lens]
    rw [e, List.length_cons, Nat.mul_add]
    omega
theorem join_le (xs : List (List UInt8)) (sep : List UInt8) (B : Nat) (h : ∀ x ∈ xs, x.length ≤ B) : (Lib.join xs sep).length ≤ (B + sep.length) * xs.length := by
  rw [join_len, Nat.add_mul]
  have h1 := lens_le xs B h
  have h2 : sep.length * (xs.length - 1) ≤ sep.length * xs.length := Nat.mul_le_mul_left _ (by omega)
  omega
theorem ranged_len (p : Int × Int) (h1 : -9223372036854775808 ≤ p.1 ∧ p.1 ≤ 9223372036854775807) (h2 : -9223372036854775808 ≤ p.2 ∧ p.2 ≤ 9223372036854775807) : (rangedL p).length ≤ 44 := by
  unfold rangedL
  have a := Lib.itoa_length_le p.1 h1.1 h1.2
  have b := Lib.itoa_length_le p.2 h2.1 h2.2
  split
  · omega
  · simp
    omega
theorem rngs_len (r : RelC) (h : ∀ p ∈ r.rs, (-9223372036854775808 ≤ p.1 ∧ p.1 ≤ 9223372036854775807) ∧ (-9223372036854775808 ≤ p.2 ∧ p.2 ≤ 9223372036854775807)) (hl : r.rs.length ≤ 4300000000) : (Lib.join (r.rs.map rangedL) [44]).length ≤ 193500000000 := by
  have := join_le (r.rs.map rangedL) [44] 44 (fun x hx => by
    obtain ⟨p, hp, rfl⟩ := List.mem_map.1 hx
    exact ranged_len p (h p hp).1 (h p hp).2)
  rw [List.length_map] at this
  simp only [List.length_cons, List.length_nil] at this
  omega
theorem related_len (r : RelC) (hm : -9223372036854775808 ≤ r.md ∧ r.md ≤ 9223372036854775807) (h : ∀ p ∈ r.rs, (-9223372036854775808 ≤ p.1 ∧ p.1 ≤ 9223372036854775807) ∧ (-9223372036854775808 ≤ p.2 ∧ p.2 ≤ 9223372036854775807)) (hl : r.rs.length ≤ 4300000000) : (relatedL r).length ≤ 194000000000 := by
  have h1 := rngs_len r h hl
  have h2 := Lib.itoa_length_le r.md hm.1 hm.2
  unfold relatedL
  simp only [List.length_append, List.length_cons, List.length_nil]
  split <;> split <;> simp <;> omega

/-- A rule whose rels have no more ranges than that. -/
def RuleSmall (ps : List PartD) : Prop := ∀ p ∈ ps, ∀ r ∈ p.rs, r.c.rs.length ≤ 4300000000

theorem part_len (p : PartD) (w : World) (h : p.fits w) (hs : ∀ r ∈ p.rs, r.c.rs.length ≤ 4300000000) : (partL p.c).length ≤ 194000000005 * p.rs.length := by
  unfold partL
  have := join_le (p.c.map relatedL) [32, 97, 110, 100, 32] 194000000000 (fun x hx => by
    obtain ⟨r, hr, rfl⟩ := List.mem_map.1 hx
    obtain ⟨d, hd, rfl⟩ := List.mem_map.1 hr
    have := h.2.2.2 d hd
    exact related_len d.c this.2.2.2.1 this.2.2.2.2 (hs d hd))
  rw [List.length_map, part_c_len] at this
  simp only [List.length_cons, List.length_nil] at this
  exact this
theorem rule_len (ps : List PartD) (w : World) (h : ∀ p ∈ ps, p.fits w) (hs : RuleSmall ps) (hn : ruleCount (ruleC ps) ≤ 20) (h0 : ∀ p ∈ ps, 0 < p.rs.length) : ps.length ≤ 20 ∧ (∀ p ∈ ps, p.rs.length ≤ 20) ∧ (ruleL (ruleC ps)).length ≤ 140737488355328 := by
  have hmem : ∀ (qs : List PartD), ∀ p ∈ qs, p.rs.length ≤ ruleCount (ruleC qs) := by
    intro qs
    induction qs with
    | nil => intro p hp; cases hp
    | cons q r ih =>
      intro p hp
      rw [show ruleC (q :: r) = q.c :: ruleC r from rfl, count_cons, part_c_len]
      rcases List.mem_cons.1 hp with rfl | hp
      · omega
      · have := ih p hp; omega
  have hlen : ∀ (qs : List PartD), (∀ p ∈ qs, 0 < p.rs.length) → qs.length ≤ ruleCount (ruleC qs) := by
    intro qs
    induction qs with
    | nil => intro _; simp
    | cons q r ih =>
      intro hq
      rw [show ruleC (q :: r) = q.c :: ruleC r from rfl, count_cons, part_c_len, List.length_cons]
      have := hq q (by simp)
      have := ih (fun p hp => hq p (by simp [hp]))
      omega
  have h20 := hlen ps h0
  have hp20 : ∀ p ∈ ps, p.rs.length ≤ 20 := fun p hp => by have := hmem ps p hp; omega
  refine ⟨by omega, hp20, ?_⟩
  unfold ruleL
  have := join_le ((ruleC ps).map partL) [32, 111, 114, 32] 3880000000100 (fun x hx => by
    obtain ⟨p, hp, rfl⟩ := List.mem_map.1 hx
    obtain ⟨d, hd, rfl⟩ := List.mem_map.1 hp
    have h1 := part_len d w (h d hd) (fun r hr => hs d hd r hr)
    have h2 := hp20 d hd
    have h3 : 194000000005 * d.rs.length ≤ 194000000005 * 20 := Nat.mul_le_mul_left _ h2
    omega)
  rw [List.length_map, show (ruleC ps).length = ps.length from List.length_map ..] at this
  simp only [List.length_cons, List.length_nil] at this

  omega

set_option maxHeartbeats 1000000 in
theorem text_part (p : PartD) (w : World) (hP : Pow w) (h : p.fits w) (hf : ∀ r ∈ p.rs, r.c.fine = true) (hs : ∀ r ∈ p.rs, r.c.rs.length ≤ 4300000000) (hl : p.rs.length ≤ 20) :
    Calls Tryz.prog 50 #[.slice p.A p.rs.length p.n] w fun e w' => e = .returned (.string ⟨(partL p.c).toArray⟩) ∧ Below w.heap.size w w' := by
  have hlen := part_len p w h hs
  have hle : 194000000005 * p.rs.length ≤ 194000000005 * 20 := Nat.mul_le_mul_left _ hl
  have em : p.rs.map (fun r => relatedL r.c) = p.c.map relatedL := by unfold PartD.c; rw [List.map_map]; rfl
  have K := joined_rel 52 #[] (fun r => relatedL r.c) (enters_of Tryz.func52 (by kernel_rfl) rfl) p.A p.rs p.n ⟨#[32, 97, 110, 100, 32]⟩ w
    (fun r hr W hb => by
      have fr := h.2.2.2 r hr
      have := rngs_len r.c fr.2.2.2.2 (hs r hr)
      exact rule_related r W (hP.below hb) (fr.below hb) (hf r hr) (by have := hs r hr; omega) (by omega)) h.1 h.2.1 (by omega)
    (by rw [em]; show (partL p.c).length ≤ _; omega)
  rw [em] at K
  replace K : Calls Tryz.prog 51 #[.slice p.A p.rs.length p.n, .string ⟨#[32, 97, 110, 100, 32]⟩, .func (.func 52) #[] #[]] w fun e w' => e = .returned (.string ⟨(partL p.c).toArray⟩) ∧ Below w.heap.size w w' := K
  have HK := Lib.hid K
  clear K em hlen hle h hf hs hP
  generalize partL p.c = T at *
  go_enter Tryz.func50, Tryz.ntmps50
  go_wp2_with fail
  refine HK.out.mono ?_
  rintro e w1 ⟨rfl, hb⟩
  go_wp2_with fail
  go_ret
  exact ⟨rfl, hb⟩

set_option maxHeartbeats 1000000 in
theorem rule_text_ok (A : Option Addr) (c : Nat) (ps : List PartD) (w : World) (hP : Pow w) (h : RuleIn w A ps) (hc : ps.length ≤ c) (hc2 : c ≤ 9223372036854775807) (hs : RuleSmall ps) (h0 : ruleErr (ruleC ps) = 0) :
    Calls Tryz.prog 22 #[.slice A ps.length c] w fun e w' => e = .returned (.tuple #[.string ⟨(ruleL (ruleC ps)).toArray⟩, .nilIface]) ∧ Below w.heap.size w w' := by
  have hok := ruleErr_ok h0
  have hfine : ∀ p ∈ ps, ∀ r ∈ p.rs, r.c.fine = true := fun p hp r hr => (hok.2.1 p.c (List.mem_map_of_mem hp)).2 r.c (List.mem_map_of_mem hr)
  obtain ⟨hl20, hp20, hlen⟩ := rule_len ps w h.2 hs hok.2.2 (fun p hp => by have := (hok.2.1 p.c (List.mem_map_of_mem hp)).1; rwa [part_c_len] at this)
  have KC := Lib.hid (fun W (hb : Below w.heap.size w W) => by
    have := rule_check A c ps W (h.below hb) hc hc2 (by omega)
    rw [h0] at this
    exact this)
  have em : ps.map (fun p => partL p.c) = (ruleC ps).map partL := by unfold ruleC; rw [List.map_map]; rfl
  have KJ := Lib.hid (fun W (hb : Below w.heap.size w W) => by
    have K := joined_part 50 #[] (fun p => partL p.c) (enters_of Tryz.func50 (by kernel_rfl) rfl) A ps c ⟨#[32, 111, 114, 32]⟩ W
      (fun p hp W' hb' => text_part p W' ((hP.below hb).below hb') (((h.below hb).below hb').2 p hp) (hfine p hp) (hs p hp) (hp20 p hp)) (h.below hb).1 hc (by omega) (by rw [em]; exact hlen)
    rw [em] at K
    exact K)
  replace KJ : Hid (∀ W, Below w.heap.size w W → Calls Tryz.prog 49 #[.slice A ps.length c, .string ⟨#[32, 111, 114, 32]⟩, .func (.func 50) #[] #[]] W fun e w' => e = .returned (.string ⟨(ruleL (ruleC ps)).toArray⟩) ∧ Below W.heap.size W w') := KJ
  clear h0 hok hfine hl20 hp20 hlen h hP hs em
  generalize ruleL (ruleC ps) = T at *
  go_enter Tryz.func22, Tryz.ntmps22
  go_wp2_with fail
  refine (KC.out _ (Below.refl _ _)).mono ?_
  rintro e w1 ⟨rfl, hb⟩
  rw [show errOf 0 = .nilIface from rfl]
  go_wp2_with fail
  refine (KJ.out _ hb).mono ?_
  rintro e w2 ⟨rfl, hb2⟩
  go_wp2_with fail
  go_ret2
  exact ⟨rfl, hb.trans (hb2.mono hb.size)⟩

theorem rule_text_no (A : Option Addr) (c : Nat) (ps : List PartD) (w : World) (h : RuleIn w A ps) (hc : ps.length ≤ c) (hc2 : c ≤ 9223372036854775807) (hn : ruleCount (ruleC ps) ≤ 9000000000000000000) (h0 : ruleErr (ruleC ps) ≠ 0) :
    Calls Tryz.prog 22 #[.slice A ps.length c] w fun e w' => e = .returned (.tuple #[.string ⟨#[]⟩, errT (ruleErr (ruleC ps))]) ∧ Below w.heap.size w w' := by
  have K := rule_check A c ps w h hc hc2 hn
  have he : errOf (ruleErr (ruleC ps)) = errT (ruleErr (ruleC ps)) := by unfold errOf; rw [if_neg h0]
  rw [he] at K
  have HK := Lib.hid K
  clear h0 he h K hn
  generalize ruleErr (ruleC ps) = E at *
  go_enter Tryz.func22, Tryz.ntmps22
  go_wp2_with fail
  refine HK.out.mono ?_
  rintro e w1 ⟨rfl, hb⟩
  go_wp2_with fail
  go_ret2
  exact ⟨rfl, hb⟩
end Go.Proofs.YtkklemhhimcahaaGreatDoor
