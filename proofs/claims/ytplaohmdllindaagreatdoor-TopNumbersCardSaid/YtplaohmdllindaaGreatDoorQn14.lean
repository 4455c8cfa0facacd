/- RuleRanged, RuleRelated, RuleText: texts put together. -/
import Derived.Test.YtplaohmdllindaaGreatDoorQn12
import Derived.Test.YtplaohmdllindaaGreatDoorQn9
import Derived.Lib.ItoaLen
import Derived.Laws.Concat
import Derived.Deep.RegionHeld3
import Derived.Test.YtplaohmdllindaaGreatDoorQn1
import Derived.Test.YtplaohmdllindaaGreatDoorQn3
set_option linter.unusedVariables false
set_option linter.unusedSimpArgs false
/- rule.ranged. -/
namespace Go.Proofs.YtplaohmdllindaaGreatDoor
open Go.RowKit

set_option maxHeartbeats 2000000 in
theorem rule_ranged (p : Int × Int) (w : World) (hP : Pow w) (h1 : -9223372036854775808 ≤ p.1 ∧ p.1 ≤ 9223372036854775807) (h2 : -9223372036854775808 ≤ p.2 ∧ p.2 ≤ 9223372036854775807) :
    Calls Tryz.prog 182 #[.agg #[.int .i64 p.1, .int .i64 p.2]] w fun e w' => e = .returned (.string ⟨(rangedL p).toArray⟩) ∧ Below w.heap.size w w' := by
  obtain ⟨a, b⟩ := p
  unfold rangedL
  simp only at h1 h2 ⊢
  have HP := Lib.hid hP
  have la : (Lib.itoa a).length ≤ 100 := by have := Lib.itoa_length_le a h1.1 h1.2; omega
  have lb : (Lib.itoa b).length ≤ 100 := by have := Lib.itoa_length_le b h2.1 h2.2; omega
  have KA := Lib.hid (fun W (hb : Below w.heap.size w W) => itoa_any a W h1.1 h1.2 (HP.out.below hb))
  have KB := Lib.hid (fun W (hb : Below w.heap.size w W) => itoa_any b W h2.1 h2.2 (HP.out.below hb))
  clear hP HP
  by_cases he : a = b
  · subst he
    rw [if_pos rfl]
    generalize Lib.itoa a = A at *
    go_enter Tryz.func182, Tryz.ntmps182
    go_wp2_with fail
    refine (KA.out _ belx).mono ?_
    rintro e w1 ⟨rfl, hb⟩
    go_wp2_with fail
    go_ret
    exact ⟨rfl, belx⟩
  · rw [if_neg he]
    generalize Lib.itoa a = A at *
    generalize Lib.itoa b = B at *
    have n1 : ((a : Int) == b) = false := by rw [beq_eq_false_iff_ne]; exact he
    have r1 : ∀ W : World, (Op.stringOp .add ⟨A.toArray⟩ ⟨#[46, 46]⟩).run Tryz.prog W = .ok (.string (⟨A.toArray⟩ ++ ⟨#[46, 46]⟩)) W := fun W => run_string_add_sum W _ _ (by show A.length + 2 ≤ _; omega)
    have r2 : ∀ W : World, (Op.stringOp .add (⟨A.toArray⟩ ++ ⟨#[46, 46]⟩) ⟨B.toArray⟩).run Tryz.prog W = .ok (.string (⟨A.toArray⟩ ++ ⟨#[46, 46]⟩ ++ ⟨B.toArray⟩)) W := fun W => run_string_add_sum W _ _ (by rw [ByteArray.size_append]; show A.length + 2 + B.length ≤ _; omega)
    have HT : Hid ((⟨A.toArray⟩ : ByteArray) ++ ⟨#[46, 46]⟩ ++ ⟨B.toArray⟩ = ⟨(A ++ [46, 46] ++ B).toArray⟩) := Lib.hid (by
      apply ByteArray.ext
      apply Array.ext'
      simp)
    clear la lb he
    go_enter Tryz.func182, Tryz.ntmps182
    go_wp2_with fail
    have HS : Hid (Below w.heap.size w (w.alloc (.cells #[.int .i64 a, .int .i64 b] 225))) := Lib.hid belx
    go_region_held3 (fun w' => w'.cell? ⟨w.heap.size, 0, none⟩ = some (.int .i64 a) ∧ w'.cell? ⟨w.heap.size, 1, none⟩ = some (.int .i64 b))
      (first | go_keep | (go_split_ands; refine ⟨?_, ?_⟩ <;> first | assumption | exact carry (by assumption) (by go_simp) | exact carry (by assumption) (by assumption) | exact carry (by assumption) (carry (by assumption) (by go_simp))))
      (first | (go_at_call 78; ((with_reducible refine (KA.out _ ?_).mono ?_); (first | exact HS.out | exact HS.out.drew | exact Hid.out (by assumption) | exact Below.drew (Hid.out (by assumption)) | exact bel_drewN _ (Hid.out (by assumption)))); rintro e wx ⟨rfl, hbx⟩; have HBX : Hid (Below w.heap.size w wx) := Lib.hid (by first | exact bel_call HS.out hbx (by simp) | exact bel_call HS.out.drew hbx (by simp) | exact bel_call (Hid.out (by assumption)) hbx (Below.size (Hid.out (by assumption)))); have hbz := hbx; clear hbx) | (go_at_call 78; ((with_reducible refine (KB.out _ ?_).mono ?_); (first | exact HS.out | exact HS.out.drew | exact Hid.out (by assumption) | exact Below.drew (Hid.out (by assumption)) | exact bel_drewN _ (Hid.out (by assumption)))); rintro e wx ⟨rfl, hbx⟩; have HBX : Hid (Below w.heap.size w wx) := Lib.hid (by first | exact bel_call HS.out hbx (by simp) | exact bel_call HS.out.drew hbx (by simp) | exact bel_call (Hid.out (by assumption)) hbx (Below.size (Hid.out (by assumption)))); have hbz := hbx; clear hbx))
    all_goals go_wp2_with fail
    all_goals go_ret
    all_goals rw [HT.out]
    all_goals exact ⟨rfl, Hid.out (by assumption)⟩
end Go.Proofs.YtplaohmdllindaaGreatDoor

/- rule.related of a fine rel. -/
namespace Go.Proofs.YtplaohmdllindaaGreatDoor
open Go.RowKit

theorem enc_low : ∀ c : UInt8, c.toNat < 128 → Utf8.encode (c.toNat : Int) = ⟨#[c]⟩ := all_u8 (by decide +kernel)

set_option maxRecDepth 100000 in
set_option maxHeartbeats 4000000 in
theorem rule_related (r : RelD) (w : World) (hP : Pow w) (h : r.fits w) (hf : r.c.fine = true) (hl : r.c.rs.length ≤ 7000000000000) (hJ : (Lib.join (r.c.rs.map rangedL) [44]).length ≤ 140737488355328) :
    Calls Tryz.prog 120 #[relV r.c.op r.c.md r.c.neg r.A r.c.rs.length r.n] w fun e w' => e = .returned (.string ⟨(relatedL r.c).toArray⟩) ∧ Below w.heap.size w w' := by
  obtain ⟨⟨op, md, neg, rs⟩, A, n⟩ := r
  obtain ⟨h1, h2, h3, h4, h5⟩ := h
  have hmd := fine_md hf
  have hop := fine_op hf
  simp only at h1 h2 h3 h4 h5 hmd hop hl hJ
  have KJ0 : ∀ W, Below w.heap.size w W → Calls Tryz.prog 181 #[.slice A rs.length n, .string ⟨#[44]⟩, .func (.func 182) #[] #[]] W fun e w' => e = .returned (.string ⟨(Lib.join (rs.map rangedL) [44]).toArray⟩) ∧ Below W.heap.size W w' := fun W hb =>
    joined_rng 182 #[] rangedL (enters_of Tryz.func182 (by kernel_rfl) rfl) A rs n ⟨#[44]⟩ W (fun p hp W' hb' => rule_ranged p W' ((hP.below hb).below hb') (h5 p hp).1 (h5 p hp).2) (h1.below hb) h2 hl hJ
  have KI := Lib.hid (fun W (hb : Below w.heap.size w W) => itoa_any md W (by omega) (by omega) (hP.below hb))
  have lI : (Lib.itoa md).length ≤ 100 := by have := Lib.itoa_length_le md (by omega) (by omega); omega
  have KJ := Lib.hid KJ0
  have he := enc_low op hop
  unfold relatedL
  simp only
  clear KJ0 hP h1 h5 hf
  generalize Lib.join (rs.map rangedL) [44] = J at *
  generalize Lib.itoa md = I at *
  have lJ := hJ
  clear hJ
  by_cases m0 : md = 0
  · rw [if_pos m0]
    subst m0
    cases neg
    · rw [if_neg (by decide)]
      have r0 : ∀ W : World, (Op.stringOp .add ⟨#[op]⟩ ⟨#[32, 61, 32]⟩).run Tryz.prog W = .ok (.string (⟨#[op]⟩ ++ ⟨#[32, 61, 32]⟩)) W := fun W => run_string_add_sum W _ _ (by show 1 + 3 ≤ _; omega)
      have r1 : ∀ W : World, (Op.stringOp .add (⟨#[op]⟩ ++ ⟨#[32, 61, 32]⟩) ⟨J.toArray⟩).run Tryz.prog W = .ok (.string ((⟨#[op]⟩ ++ ⟨#[32, 61, 32]⟩) ++ ⟨J.toArray⟩)) W := fun W => run_string_add_sum W _ _ (by rw [ByteArray.size_append]; show 1 + 3 + J.length ≤ _; omega)
      have HT : Hid (((⟨#[op]⟩ ++ ⟨#[32, 61, 32]⟩ ++ ⟨J.toArray⟩ : ByteArray)) = ⟨([op] ++ [] ++ [32, 61, 32] ++ J).toArray⟩) := Lib.hid (by apply ByteArray.ext; apply Array.ext'; simp)
      clear lI lJ
      go_enter Tryz.func120, Tryz.ntmps120
      go_wp2_with fail
      refine (KJ.out _ belx).mono ?_
      rintro e w2 ⟨rfl, hb2⟩
      go_wp2_with fail
      go_ret
      rw [HT.out]
      exact ⟨rfl, belx⟩
    · rw [if_pos rfl]
      have r0 : ∀ W : World, (Op.stringOp .add ⟨#[op]⟩ ⟨#[32, 33, 61, 32]⟩).run Tryz.prog W = .ok (.string (⟨#[op]⟩ ++ ⟨#[32, 33, 61, 32]⟩)) W := fun W => run_string_add_sum W _ _ (by show 1 + 4 ≤ _; omega)
      have r1 : ∀ W : World, (Op.stringOp .add (⟨#[op]⟩ ++ ⟨#[32, 33, 61, 32]⟩) ⟨J.toArray⟩).run Tryz.prog W = .ok (.string ((⟨#[op]⟩ ++ ⟨#[32, 33, 61, 32]⟩) ++ ⟨J.toArray⟩)) W := fun W => run_string_add_sum W _ _ (by rw [ByteArray.size_append]; show 1 + 4 + J.length ≤ _; omega)
      have HT : Hid (((⟨#[op]⟩ ++ ⟨#[32, 33, 61, 32]⟩ ++ ⟨J.toArray⟩ : ByteArray)) = ⟨([op] ++ [] ++ [32, 33, 61, 32] ++ J).toArray⟩) := Lib.hid (by apply ByteArray.ext; apply Array.ext'; simp)
      clear lI lJ
      go_enter Tryz.func120, Tryz.ntmps120
      go_wp2_with fail
      refine (KJ.out _ belx).mono ?_
      rintro e w2 ⟨rfl, hb2⟩
      go_wp2_with fail
      go_ret
      rw [HT.out]
      exact ⟨rfl, belx⟩
  · rw [if_neg m0]
    have m1 : ((md : Int) == 0) = false := by rw [beq_eq_false_iff_ne]; exact m0
    have m2 : ((md : Int) != 0) = true := by rw [bne_iff_ne]; exact m0
    cases neg
    · rw [if_neg (by decide)]
      have r0 : ∀ W : World, (Op.stringOp .add ⟨#[32, 37, 32]⟩ ⟨I.toArray⟩).run Tryz.prog W = .ok (.string (⟨#[32, 37, 32]⟩ ++ ⟨I.toArray⟩)) W := fun W => run_string_add_sum W _ _ (by show 3 + I.length ≤ _; omega)
      have r1 : ∀ W : World, (Op.stringOp .add ⟨#[op]⟩ (⟨#[32, 37, 32]⟩ ++ ⟨I.toArray⟩)).run Tryz.prog W = .ok (.string (⟨#[op]⟩ ++ (⟨#[32, 37, 32]⟩ ++ ⟨I.toArray⟩))) W := fun W => run_string_add_sum W _ _ (by rw [ByteArray.size_append]; show 1 + (3 + I.length) ≤ _; omega)
      have r2 : ∀ W : World, (Op.stringOp .add (⟨#[op]⟩ ++ (⟨#[32, 37, 32]⟩ ++ ⟨I.toArray⟩)) ⟨#[32, 61, 32]⟩).run Tryz.prog W = .ok (.string ((⟨#[op]⟩ ++ (⟨#[32, 37, 32]⟩ ++ ⟨I.toArray⟩)) ++ ⟨#[32, 61, 32]⟩)) W := fun W => run_string_add_sum W _ _ (by rw [ByteArray.size_append, ByteArray.size_append]; show 1 + (3 + I.length) + 3 ≤ _; omega)
      have r3 : ∀ W : World, (Op.stringOp .add (⟨#[op]⟩ ++ (⟨#[32, 37, 32]⟩ ++ ⟨I.toArray⟩) ++ ⟨#[32, 61, 32]⟩) ⟨J.toArray⟩).run Tryz.prog W = .ok (.string ((⟨#[op]⟩ ++ (⟨#[32, 37, 32]⟩ ++ ⟨I.toArray⟩) ++ ⟨#[32, 61, 32]⟩) ++ ⟨J.toArray⟩)) W := fun W => run_string_add_sum W _ _ (by rw [ByteArray.size_append, ByteArray.size_append, ByteArray.size_append]; show 1 + (3 + I.length) + 3 + J.length ≤ _; omega)
      have HT : Hid (((⟨#[op]⟩ ++ (⟨#[32, 37, 32]⟩ ++ ⟨I.toArray⟩) ++ ⟨#[32, 61, 32]⟩ ++ ⟨J.toArray⟩ : ByteArray)) = ⟨([op] ++ ([32, 37, 32] ++ I) ++ [32, 61, 32] ++ J).toArray⟩) := Lib.hid (by apply ByteArray.ext; apply Array.ext'; simp)
      clear lI lJ
      go_enter Tryz.func120, Tryz.ntmps120
      go_wp2_with fail
      refine (KI.out _ belx).mono ?_
      rintro e w1 ⟨rfl, hb1⟩
      have d2 : w1.cell? ⟨w.heap.size, 2, none⟩ = some (.bool false) := carry hb1 (by go_simp)
      have d3 : w1.cell? ⟨w.heap.size, 3, none⟩ = some (.slice A rs.length n) := carry hb1 (by go_simp)
      have hbw : Below w.heap.size w w1 := belx
      clear hb1
      go_wp2_with fail
      refine (KJ.out _ hbw).mono ?_
      rintro e w2 ⟨rfl, hb2⟩
      go_wp2_with fail
      go_ret
      rw [HT.out]
      exact ⟨rfl, hbw.trans (hb2.mono hbw.size)⟩
    · rw [if_pos rfl]
      have r0 : ∀ W : World, (Op.stringOp .add ⟨#[32, 37, 32]⟩ ⟨I.toArray⟩).run Tryz.prog W = .ok (.string (⟨#[32, 37, 32]⟩ ++ ⟨I.toArray⟩)) W := fun W => run_string_add_sum W _ _ (by show 3 + I.length ≤ _; omega)
      have r1 : ∀ W : World, (Op.stringOp .add ⟨#[op]⟩ (⟨#[32, 37, 32]⟩ ++ ⟨I.toArray⟩)).run Tryz.prog W = .ok (.string (⟨#[op]⟩ ++ (⟨#[32, 37, 32]⟩ ++ ⟨I.toArray⟩))) W := fun W => run_string_add_sum W _ _ (by rw [ByteArray.size_append]; show 1 + (3 + I.length) ≤ _; omega)
      have r2 : ∀ W : World, (Op.stringOp .add (⟨#[op]⟩ ++ (⟨#[32, 37, 32]⟩ ++ ⟨I.toArray⟩)) ⟨#[32, 33, 61, 32]⟩).run Tryz.prog W = .ok (.string ((⟨#[op]⟩ ++ (⟨#[32, 37, 32]⟩ ++ ⟨I.toArray⟩)) ++ ⟨#[32, 33, 61, 32]⟩)) W := fun W => run_string_add_sum W _ _ (by rw [ByteArray.size_append, ByteArray.size_append]; show 1 + (3 + I.length) + 4 ≤ _; omega)
      have r3 : ∀ W : World, (Op.stringOp .add (⟨#[op]⟩ ++ (⟨#[32, 37, 32]⟩ ++ ⟨I.toArray⟩) ++ ⟨#[32, 33, 61, 32]⟩) ⟨J.toArray⟩).run Tryz.prog W = .ok (.string ((⟨#[op]⟩ ++ (⟨#[32, 37, 32]⟩ ++ ⟨I.toArray⟩) ++ ⟨#[32, 33, 61, 32]⟩) ++ ⟨J.toArray⟩)) W := fun W => run_string_add_sum W _ _ (by rw [ByteArray.size_append, ByteArray.size_append, ByteArray.size_append]; show 1 + (3 + I.length) + 4 + J.length ≤ _; omega)
      have HT : Hid (((⟨#[op]⟩ ++ (⟨#[32, 37, 32]⟩ ++ ⟨I.toArray⟩) ++ ⟨#[32, 33, 61, 32]⟩ ++ ⟨J.toArray⟩ : ByteArray)) = ⟨([op] ++ ([32, 37, 32] ++ I) ++ [32, 33, 61, 32] ++ J).toArray⟩) := Lib.hid (by apply ByteArray.ext; apply Array.ext'; simp)
      clear lI lJ
      go_enter Tryz.func120, Tryz.ntmps120
      go_wp2_with fail
      refine (KI.out _ belx).mono ?_
      rintro e w1 ⟨rfl, hb1⟩
      have d2 : w1.cell? ⟨w.heap.size, 2, none⟩ = some (.bool true) := carry hb1 (by go_simp)
      have d3 : w1.cell? ⟨w.heap.size, 3, none⟩ = some (.slice A rs.length n) := carry hb1 (by go_simp)
      have hbw : Below w.heap.size w w1 := belx
      clear hb1
      go_wp2_with fail
      refine (KJ.out _ hbw).mono ?_
      rintro e w2 ⟨rfl, hb2⟩
      go_wp2_with fail
      go_ret
      rw [HT.out]
      exact ⟨rfl, hbw.trans (hb2.mono hbw.size)⟩
end Go.Proofs.YtplaohmdllindaaGreatDoor

/- rule.Text. -/
namespace Go.Proofs.YtplaohmdllindaaGreatDoor
open Go.RowKit

theorem lens_le (xs : List (List UInt8)) (B : Nat) (h : ∀ x ∈ xs, x.length ≤ B) : Lib.lens xs ≤ B * xs.length := by
  induction xs with
  | nil => simp [Lib.lens]
  | cons x r ih =>
    have h1 := h x (by simp)
    have h2 := ih (fun y hy => h y (by simp [hy]))
    have e : Lib.lens (x :: r) = x.length + Lib.lens r := by simp [Lib.lens]
    rw [e, List.length_cons, Nat.mul_add]
    omega
theorem join_le (xs : List (List UInt8)) (sep : List UInt8) (B : Nat) (h : ∀ x ∈ xs, x.length ≤ B) : (Lib.join xs sep).length ≤ (B + sep.length) * xs.length := by
  rw [join_len, Nat.add_mul]
  have h1 := lens_le xs B h
  have h2 : sep.length * (xs.length - 1) ≤ sep.length * xs.length := Nat.mul_le_mul_left _ (by omega)
  omega
theorem ranged_len (p : Int × Int) (h1 : -9223372036854775808 ≤ p.1 ∧ p.1 ≤ 9223372036854775807) (h2 : -9223372036854775808 ≤ p.2 ∧ p.2 ≤ 9223372036854775807) : (rangedL p).length ≤ 44 := by
  unfold rangedL
  have a := Lib.itoa_length_le p.1 h1.1 h1.2
  have b := Lib.itoa_length_le p.2 h2.1 h2.2
  split
  · omega
  · simp
    omega
theorem rngs_len (r : RelC) (h : ∀ p ∈ r.rs, (-9223372036854775808 ≤ p.1 ∧ p.1 ≤ 9223372036854775807) ∧ (-9223372036854775808 ≤ p.2 ∧ p.2 ≤ 9223372036854775807)) (hl : r.rs.length ≤ 4300000000) : (Lib.join (r.rs.map rangedL) [44]).length ≤ 193500000000 := by
  have := join_le (r.rs.map rangedL) [44] 44 (fun x hx => by
    obtain ⟨p, hp, rfl⟩ := List.mem_map.1 hx
    exact ranged_len p (h p hp).1 (h p hp).2)
  rw [List.length_map] at this
  simp only [List.length_cons, List.length_nil] at this
  omega
theorem related_len (r : RelC) (hm : -9223372036854775808 ≤ r.md ∧ r.md ≤ 9223372036854775807) (h : ∀ p ∈ r.rs, (-9223372036854775808 ≤ p.1 ∧ p.1 ≤ 9223372036854775807) ∧ (-9223372036854775808 ≤ p.2 ∧ p.2 ≤ 9223372036854775807)) (hl : r.rs.length ≤ 4300000000) : (relatedL r).length ≤ 194000000000 := by
  have h1 := rngs_len r h hl
  have h2 := Lib.itoa_length_le r.md hm.1 hm.2
  unfold relatedL
  simp only [List.length_append, List.length_cons, List.length_nil]
  split <;> split <;> simp <;> omega

/-- A rule whose rels have no more ranges than that. -/
def RuleSmall (ps : List PartD) : Prop := ∀ p ∈ ps, ∀ r ∈ p.rs, r.c.rs.length ≤ 4300000000

theorem part_len (p : PartD) (w : World) (h : p.fits w) (hs : ∀ r ∈ p.rs, r.c.rs.length ≤ 4300000000) : (partL p.c).length ≤ 194000000005 * p.rs.length := by
  unfold partL
  have := join_le (p.c.map relatedL) [32, 97, 110, 100, 32] 194000000000 (fun x hx => by
    obtain ⟨r, hr, rfl⟩ := List.mem_map.1 hx
    obtain ⟨d, hd, rfl⟩ := List.mem_map.1 hr
    have := h.2.2.2 d hd
    exact related_len d.c this.2.2.2.1 this.2.2.2.2 (hs d hd))
  rw [List.length_map, part_c_len] at this
  simp only [List.length_cons, List.length_nil] at this
  exact this
theorem rule_len (ps : List PartD) (w : World) (h : ∀ p ∈ ps, p.fits w) (hs : RuleSmall ps) (hn : ruleCount (ruleC ps) ≤ 20) (h0 : ∀ p ∈ ps, 0 < p.rs.length) : ps.length ≤ 20 ∧ (∀ p ∈ ps, p.rs.length ≤ 20) ∧ (ruleL (ruleC ps)).length ≤ 140737488355328 := by
  have hmem : ∀ (qs : List PartD), ∀ p ∈ qs, p.rs.length ≤ ruleCount (ruleC qs) := by
    intro qs
    induction qs with
    | nil => intro p hp; cases hp
    | cons q r ih =>
      intro p hp
      rw [show ruleC (q :: r) = q.c :: ruleC r from rfl, count_cons, part_c_len]
      rcases List.mem_cons.1 hp with rfl | hp
      · omega
      · have := ih p hp; omega
  have hlen : ∀ (qs : List PartD), (∀ p ∈ qs, 0 < p.rs.length) → qs.length ≤ ruleCount (ruleC qs) := by
    intro qs
    induction qs with
    | nil => intro _; simp
    | cons q r ih =>
      intro hq
      rw [show ruleC (q :: r) = q.c :: ruleC r from rfl, count_cons, part_c_len, List.length_cons]
      have := hq q (by simp)
      have := ih (fun p hp => hq p (by simp [hp]))
      omega
  have h20 := hlen ps h0
  have hp20 : ∀ p ∈ ps, p.rs.length ≤ 20 := fun p hp => by have := hmem ps p hp; omega
  refine ⟨by omega, hp20, ?_⟩
  unfold ruleL
  have := join_le ((ruleC ps).map partL) [32, 111, 114, 32] 3880000000100 (fun x hx => by
    obtain ⟨p, hp, rfl⟩ := List.mem_map.1 hx
    obtain ⟨d, hd, rfl⟩ := List.mem_map.1 hp
    have h1 := part_len d w (h d hd) (fun r hr => hs d hd r hr)
    have h2 := hp20 d hd
    have h3 : 194000000005 * d.rs.length ≤ 194000000005 * 20 := Nat.mul_le_mul_left _ h2
    omega)
  rw [List.length_map, show (ruleC ps).length = ps.length from List.length_map ..] at this
  simp only [List.length_cons, List.length_nil] at this

  omega

set_option maxHeartbeats 1000000 in
theorem text_part (p : PartD) (w : World) (hP : Pow w) (h : p.fits w) (hf : ∀ r ∈ p.rs, r.c.fine = true) (hs : ∀ r ∈ p.rs, r.c.rs.length ≤ 4300000000) (hl : p.rs.length ≤ 20) :
    Calls Tryz.prog 118 #[.slice p.A p.rs.length p.n] w fun e w' => e = .returned (.string ⟨(partL p.c).toArray⟩) ∧ Below w.heap.size w w' := by
  have hlen := part_len p w h hs
  have hle : 194000000005 * p.rs.length ≤ 194000000005 * 20 := Nat.mul_le_mul_left _ hl
  have em : p.rs.map (fun r => relatedL r.c) = p.c.map relatedL := by unfold PartD.c; rw [List.map_map]; rfl
  have K := joined_rel 120 #[] (fun r => relatedL r.c) (enters_of Tryz.func120 (by kernel_rfl) rfl) p.A p.rs p.n ⟨#[32, 97, 110, 100, 32]⟩ w
    (fun r hr W hb => by
      have fr := h.2.2.2 r hr
      have := rngs_len r.c fr.2.2.2.2 (hs r hr)
      exact rule_related r W (hP.below hb) (fr.below hb) (hf r hr) (by have := hs r hr; omega) (by omega)) h.1 h.2.1 (by omega)
    (by rw [em]; show (partL p.c).length ≤ _; omega)
  rw [em] at K
  replace K : Calls Tryz.prog 119 #[.slice p.A p.rs.length p.n, .string ⟨#[32, 97, 110, 100, 32]⟩, .func (.func 120) #[] #[]] w fun e w' => e = .returned (.string ⟨(partL p.c).toArray⟩) ∧ Below w.heap.size w w' := K
  have HK := Lib.hid K
  clear K em hlen hle h hf hs hP
  generalize partL p.c = T at *
  go_enter Tryz.func118, Tryz.ntmps118
  go_wp2_with fail
  refine HK.out.mono ?_
  rintro e w1 ⟨rfl, hb⟩
  go_wp2_with fail
  go_ret
  exact ⟨rfl, hb⟩

set_option maxHeartbeats 1000000 in
theorem rule_text_ok (A : Option Addr) (c : Nat) (ps : List PartD) (w : World) (hP : Pow w) (h : RuleIn w A ps) (hc : ps.length ≤ c) (hc2 : c ≤ 9223372036854775807) (hs : RuleSmall ps) (h0 : ruleErr (ruleC ps) = 0) :
    Calls Tryz.prog 59 #[.slice A ps.length c] w fun e w' => e = .returned (.tuple #[.string ⟨(ruleL (ruleC ps)).toArray⟩, .nilIface]) ∧ Below w.heap.size w w' := by
  have hok := ruleErr_ok h0
  have hfine : ∀ p ∈ ps, ∀ r ∈ p.rs, r.c.fine = true := fun p hp r hr => (hok.2.1 p.c (List.mem_map_of_mem hp)).2 r.c (List.mem_map_of_mem hr)
  obtain ⟨hl20, hp20, hlen⟩ := rule_len ps w h.2 hs hok.2.2 (fun p hp => by have := (hok.2.1 p.c (List.mem_map_of_mem hp)).1; rwa [part_c_len] at this)
  have KC := Lib.hid (fun W (hb : Below w.heap.size w W) => by
    have := rule_check A c ps W (h.below hb) hc hc2 (by omega)
    rw [h0] at this
    exact this)
  have em : ps.map (fun p => partL p.c) = (ruleC ps).map partL := by unfold ruleC; rw [List.map_map]; rfl
  have KJ := Lib.hid (fun W (hb : Below w.heap.size w W) => by
    have K := joined_part 118 #[] (fun p => partL p.c) (enters_of Tryz.func118 (by kernel_rfl) rfl) A ps c ⟨#[32, 111, 114, 32]⟩ W
      (fun p hp W' hb' => text_part p W' ((hP.below hb).below hb') (((h.below hb).below hb').2 p hp) (hfine p hp) (hs p hp) (hp20 p hp)) (h.below hb).1 hc (by omega) (by rw [em]; exact hlen)
    rw [em] at K
    exact K)
  replace KJ : Hid (∀ W, Below w.heap.size w W → Calls Tryz.prog 117 #[.slice A ps.length c, .string ⟨#[32, 111, 114, 32]⟩, .func (.func 118) #[] #[]] W fun e w' => e = .returned (.string ⟨(ruleL (ruleC ps)).toArray⟩) ∧ Below W.heap.size W w') := KJ
  clear h0 hok hfine hl20 hp20 hlen h hP hs em
  generalize ruleL (ruleC ps) = T at *
  go_enter Tryz.func59, Tryz.ntmps59
  go_wp2_with fail
  refine (KC.out _ (Below.refl _ _)).mono ?_
  rintro e w1 ⟨rfl, hb⟩
  rw [show errOf 0 = .nilIface from rfl]
  go_wp2_with fail
  refine (KJ.out _ hb).mono ?_
  rintro e w2 ⟨rfl, hb2⟩
  go_wp2_with fail
  go_ret2
  exact ⟨rfl, hb.trans (hb2.mono hb.size)⟩

theorem rule_text_no (A : Option Addr) (c : Nat) (ps : List PartD) (w : World) (h : RuleIn w A ps) (hc : ps.length ≤ c) (hc2 : c ≤ 9223372036854775807) (hn : ruleCount (ruleC ps) ≤ 9000000000000000000) (h0 : ruleErr (ruleC ps) ≠ 0) :
    Calls Tryz.prog 59 #[.slice A ps.length c] w fun e w' => e = .returned (.tuple #[.string ⟨#[]⟩, errT (ruleErr (ruleC ps))]) ∧ Below w.heap.size w w' := by
  have K := rule_check A c ps w h hc hc2 hn
  have he : errOf (ruleErr (ruleC ps)) = errT (ruleErr (ruleC ps)) := by unfold errOf; rw [if_neg h0]
  rw [he] at K
  have HK := Lib.hid K
  clear h0 he h K hn
  generalize ruleErr (ruleC ps) = E at *
  go_enter Tryz.func59, Tryz.ntmps59
  go_wp2_with fail
  refine HK.out.mono ?_
  rintro e w1 ⟨rfl, hb⟩
  go_wp2_with fail
  go_ret2
  exact ⟨rfl, hb⟩
end Go.Proofs.YtplaohmdllindaaGreatDoor
