/- ListPlain: the contract of linguisterref1.Joined, the law's walk. -/
import Derived.Test.YtbbafdhgoekdiaaList
namespace Go.Proofs.Ytbbafdhgoekdiaa
open Go.RowKit

set_option maxHeartbeats 1000000 in
theorem ref_joined (A : Option Addr) (c : Nat) (xs : List ByteArray) (sep : ByteArray) (w : World) (h : StrsIn w A xs) (hc : xs.length ≤ c) (hN : xs.length ≤ 1048576) (hsum : lensB xs ≤ 1048576) (hsep : sep.size ≤ 1048576) :
    Calls Try.prog 18 #[.slice A xs.length c, .string sep] w fun e w' => e = .returned (.string ⟨(Lib.join (strsL xs) sep.data.toList).toArray⟩) ∧ w = w' := by
  have H := Lib.hid h
  have hb : ∀ k, k ≤ xs.length → (Lib.join ((strsL xs).take k) sep.data.toList).length ≤ 4398046511104 := fun k hk => by
    rw [join_len, ← List.map_take, lens_map]
    change sep.data.toList.length * ((strsL (xs.take k)).length - 1) + _ ≤ _
    have := lensB_take_le xs k
    have e1 : (strsL (xs.take k)).length - 1 ≤ 1048576 := by simp; omega
    have e2 : sep.data.toList.length ≤ 1048576 := by simpa using hsep
    have := Nat.mul_le_mul e2 e1
    omega
  have HB := Lib.hid hb
  clear hb h
  generalize hn : xs.length = n at *
  have HN := Lib.hid hn
  clear hn
  go_enter Try.func18, Try.ntmps18
  go_wp2_with fail
  go_loop [5, 6] (fun t i => ∃ k : Nat, k ≤ n ∧ i = .int .i64 k ∧ t = .string ⟨(Lib.join ((strsL xs).take k) sep.data.toList).toArray⟩) (fun _ i => n - (intOf i).toNat)
  case atStart => exact ⟨0, Nat.zero_le _, rfl, rfl⟩
  case round =>
    obtain ⟨k, hk, rfl, rfl⟩ := hrel
    by_cases hlt : k < n
    · have hx : xs[k]? = some (xs[k]'(by rw [HN.out]; exact hlt)) := List.getElem?_eq_getElem _
      generalize xs[k]'(by rw [HN.out]; exact hlt) = x at hx
      have hxs := size_le_lensB xs k x hx
      obtain ⟨bk, o, hA, hcell⟩ : ∃ bk o, A = some ⟨bk, o, none⟩ ∧ w.cell? ⟨bk, o + k, none⟩ = some (.string x) := by
        rcases H.out with h0 | ⟨bk, o, hA, hcell⟩
        · rw [h0] at hx; simp at hx
        · exact ⟨bk, o, hA, hcell k x hx⟩
      subst hA
      have hs := join_take_succ (strsL xs) sep.data.toList k x.data.toList (by simp [hx])
      have b1 := HB.out k hk
      have i1 : (0 : Int) ≤ (k : Int) := by omega
      have i2 : (k : Int) < (n : Int) := by omega
      by_cases k0 : k = 0
      · subst k0
        rw [Nat.add_zero] at hcell
        rw [if_pos rfl] at hs
        rw [List.take_zero, Lib.join_nil]
        have HS := Lib.hid hs
        clear hs hx b1
        go_wp2_with fail
        go_round
        case rel => exact ⟨1, by omega, by go_num, by rw [HS.out, show (⟨x.data.toList.toArray⟩ : ByteArray) = x from Lib.mk_data x]; exact congrArg Value.string (ByteArray.ext (by simp))⟩
        case measure => simp [intOf]; omega
      · have k1 : (0 : Int) < (k : Int) := by omega
        generalize hJ : Lib.join ((strsL xs).take k) sep.data.toList = J at *
        have HS := Lib.hid hs
        clear hs hx hJ
        go_wp2_with fail
        go_round
        case rel => exact ⟨k + 1, by omega, by go_num, by rw [HS.out, if_neg k0, mk_append3]⟩
        case measure => simp [intOf]; omega
    · have e : (strsL xs).take k = strsL xs := List.take_of_length_le (by simp [HN.out]; omega)
      rw [e]
      clear e
      go_wp2_with fail
      go_ret
      exact ⟨rfl, rfl⟩

theorem list_fact (w : World) :
    Calls Try.prog 17 #[.slice (some ⟨w.heap.size, 0, none⟩) 3 3, .string ⟨#[38]⟩, .string ⟨#[44]⟩, .string ⟨#[59]⟩] (w.alloc (.cells #[.string ⟨#[97]⟩, .string ⟨#[98]⟩, .string ⟨#[99]⟩] 9)) fun e w' => e = .returned (.string ⟨#[97, 44, 98, 59, 99]⟩) ∧ Below w.heap.size w w' := by
  have hS : StrsIn (w.alloc (.cells #[.string ⟨#[97]⟩, .string ⟨#[98]⟩, .string ⟨#[99]⟩] 9)) (some ⟨w.heap.size, 0, none⟩) [⟨#[97]⟩, ⟨#[98]⟩, ⟨#[99]⟩] := by
    refine .inr ⟨_, _, rfl, fun j x hx => ?_⟩
    match j, hx with
    | 0, hx => simp at hx; subst hx; go_simp
    | 1, hx => simp at hx; subst hx; go_simp
    | 2, hx => simp at hx; subst hx; go_simp
  refine (list_join _ 3 [⟨#[97]⟩, ⟨#[98]⟩, ⟨#[99]⟩] ⟨#[38]⟩ ⟨#[44]⟩ ⟨#[59]⟩ _ hS (by decide) (by decide) (by decide) (by decide) (by decide) (by decide)).mono ?_
  rintro e w' ⟨rfl, hb⟩
  exact ⟨rfl, (by (repeat (first | with_reducible exact Below.refl _ _ | with_reducible refine bel_set ?_ ?_ | with_reducible refine bel_alloc ?_ ?_ | with_reducible refine Below.drew ?_ | with_reducible refine bel_drewN _ ?_ | with_reducible refine bel_call ?_ (by assumption) ?_)); all_goals (first | (simp; done) | omega | (simp; omega)))⟩

set_option maxHeartbeats 2000000 in
theorem listPlain_walk (A : Option Addr) (c : Nat) (xs : List ByteArray) (two sep last : ByteArray) (w : World) (h : StrsIn w A xs) (hc : xs.length ≤ c) (hN : xs.length ≤ 1048576) (hsum : lensB xs ≤ 1048576)
    (h2 : two.size ≤ 1048576) (hsep : sep.size ≤ 1048576) (hlast : last.size ≤ 1048576) :
    Calls Try.prog 6 #[.slice A xs.length c, .string two, .string sep, .string last] w fun e w' => e = .returned (.bool true) ∧ Below w.heap.size w w' := by
  have H := Lib.hid h
  have CP := fun (W : World) (hW : StrsIn W A xs) => list_join A c xs ⟨#[]⟩ ⟨#[]⟩ ⟨#[]⟩ W hW hc hN hsum (by decide) (by decide) (by decide)
  have CJ := fun (W : World) (hW : StrsIn W A xs) => ref_joined A c xs ⟨#[]⟩ W hW hc hN hsum (by decide)
  have CL := fun (W : World) (hW : StrsIn W A xs) => list_join A c xs two sep last W hW hc hN hsum h2 hsep hlast
  have e0 : (⟨#[]⟩ : ByteArray).data.toList = [] := rfl
  have hlen := listJoin_length (strsL xs) two.data.toList sep.data.toList last.data.toList
  rw [lens_map] at hlen
  simp only [e0, listJoin_plain] at CP CJ
  generalize Lib.join (strsL xs) [] = J at CP CJ
  generalize listJoin (strsL xs) two.data.toList sep.data.toList last.data.toList = K at CL hlen
  have hlen' : K.length = joinN xs.length (lensB xs) two.size sep.size last.size := by simpa using hlen
  have CP' := Lib.hid CP
  have CJ' := Lib.hid CJ
  have CL' := Lib.hid CL
  have HL := Lib.hid hlen'
  clear CP CJ CL hlen hlen' h e0
  generalize hn : xs.length = n at *
  have HN := Lib.hid hn
  clear hn
  go_enter Try.func6, Try.ntmps6
  go_wp2_with fail
  refine (list_fact w).mono ?_
  rintro e w1 ⟨rfl, hb1⟩
  have H1 := Lib.hid (H.out.below hb1)
  clear H
  go_wp2_with fail
  go_loop [10, 11] (fun t i => ∃ k : Nat, k ≤ n ∧ i = .int .i64 k ∧ t = .int .i64 (lensB (xs.take k))) (fun _ i => n - (intOf i).toNat)
  case atStart => exact ⟨0, Nat.zero_le _, rfl, rfl⟩
  case round =>
    obtain ⟨k, hk, rfl, rfl⟩ := hrel
    by_cases hlt : k < n
    · have hx : xs[k]? = some (xs[k]'(by rw [HN.out]; exact hlt)) := List.getElem?_eq_getElem _
      generalize xs[k]'(by rw [HN.out]; exact hlt) = x at hx
      have hxs := lensB_take_succ xs k x hx
      have hx2 := lensB_take_le xs (k + 1)
      obtain ⟨bk, o, hA, hcell⟩ : ∃ bk o, A = some ⟨bk, o, none⟩ ∧ w1.cell? ⟨bk, o + k, none⟩ = some (.string x) := by
        rcases H1.out with h0 | ⟨bk, o, hA, hcell⟩
        · rw [h0] at hx; simp at hx
        · exact ⟨bk, o, hA, hcell k x hx⟩
      subst hA
      have i1 : (0 : Int) ≤ (k : Int) := by omega
      have i2 : (k : Int) < (n : Int) := by omega
      have i3 : (lensB (xs.take k) : Int) ≤ 1048576 := by omega
      have i4 : (x.size : Int) ≤ 1048576 := by omega
      have HS := Lib.hid hxs
      clear hx hxs hx2
      go_wp2_with fail
      go_round
      case rel => exact ⟨k + 1, by omega, by go_num, by rw [HS.out]; go_num⟩
      case measure => simp [intOf]; omega
    · have e : xs.take k = xs := List.take_of_length_le (by rw [HN.out]; omega)
      rw [e]
      have hk' : k = n := by omega
      subst hk'
      clear e hlt hk
      generalize lensB xs = L at *
      by_cases n2 : k = 2
      · subst n2
        have hl : K.length = L + two.size := by rw [HL.out]; unfold joinN; simp
        have hl2 : ((K.length : Int) == (L : Int) + (two.size : Int)) = true := by rw [beq_iff_eq]; omega
        clear hl HL
        go_wp2_with fail
        refine (CP'.out _ H1.out).mono ?_
        rintro e w2 ⟨rfl, hb2⟩
        have H2 := Lib.hid (H1.out.below hb2)
        go_wp2_with fail
        refine (CJ'.out _ H2.out).mono ?_
        rintro e w2' ⟨rfl, rfl⟩
        go_wp2_with fail
        refine (CL'.out _ H2.out).mono ?_
        rintro e w3 ⟨rfl, hb3⟩
        have s1 := hb1.size
        have s2 := hb2.size
        go_wp2_with fail
        all_goals go_ret
        all_goals exact ⟨rfl, (by (repeat (first | with_reducible exact Below.refl _ _ | with_reducible refine bel_set ?_ ?_ | with_reducible refine bel_alloc ?_ ?_ | with_reducible refine Below.drew ?_ | with_reducible refine bel_drewN _ ?_ | with_reducible refine bel_call ?_ (by assumption) ?_)); all_goals (first | (simp; done) | omega | (simp; omega)))⟩
      by_cases n3 : 2 < k
      · have hl : K.length = L + ((k - 2) * sep.size + last.size) := by rw [HL.out]; unfold joinN; rw [if_neg n2, if_pos n3]; omega
        have hm : (((k - 2 : Nat) : Int)) = (k : Int) - 2 := by omega
        have hp : (((k - 2) * sep.size : Nat) : Int) = ((k : Int) - 2) * (sep.size : Int) := by rw [Int.natCast_mul, hm]
        have hp1 : (k - 2) * sep.size ≤ 1048576 * 1048576 := Nat.mul_le_mul (by omega) hsep
        have hq0 : 0 ≤ ((k : Int) - 2) * (sep.size : Int) := by omega
        have hq1 : ((k : Int) - 2) * (sep.size : Int) ≤ 1099511627776 := by omega
        have hl2 : ((K.length : Int) == (L : Int) + (((k : Int) - 2) * (sep.size : Int) + (last.size : Int))) = true := by rw [beq_iff_eq]; omega
        have n2' : ((k : Int) == 2) = false := by simp; omega
        clear hl HL hm hp hp1
        go_wp2_with fail
        refine (CP'.out _ H1.out).mono ?_
        rintro e w2 ⟨rfl, hb2⟩
        have H2 := Lib.hid (H1.out.below hb2)
        go_wp2_with fail
        refine (CJ'.out _ H2.out).mono ?_
        rintro e w2' ⟨rfl, rfl⟩
        go_wp2_with fail
        refine (CL'.out _ H2.out).mono ?_
        rintro e w3 ⟨rfl, hb3⟩
        have s1 := hb1.size
        have s2 := hb2.size
        go_wp2_with fail
        all_goals go_ret
        all_goals exact ⟨rfl, (by (repeat (first | with_reducible exact Below.refl _ _ | with_reducible refine bel_set ?_ ?_ | with_reducible refine bel_alloc ?_ ?_ | with_reducible refine Below.drew ?_ | with_reducible refine bel_drewN _ ?_ | with_reducible refine bel_call ?_ (by assumption) ?_)); all_goals (first | (simp; done) | omega | (simp; omega)))⟩
      · have hl : K.length = L := by rw [HL.out]; unfold joinN; rw [if_neg n2, if_neg n3]; omega
        have hl2 : ((K.length : Int) == (L : Int)) = true := by rw [beq_iff_eq]; omega
        have n2' : ((k : Int) == 2) = false := by simp; omega
        clear hl HL
        go_wp2_with fail
        refine (CP'.out _ H1.out).mono ?_
        rintro e w2 ⟨rfl, hb2⟩
        have H2 := Lib.hid (H1.out.below hb2)
        go_wp2_with fail
        refine (CJ'.out _ H2.out).mono ?_
        rintro e w2' ⟨rfl, rfl⟩
        go_wp2_with fail
        refine (CL'.out _ H2.out).mono ?_
        rintro e w3 ⟨rfl, hb3⟩
        have s1 := hb1.size
        have s2 := hb2.size
        go_wp2_with fail
        all_goals go_ret
        all_goals exact ⟨rfl, (by (repeat (first | with_reducible exact Below.refl _ _ | with_reducible refine bel_set ?_ ?_ | with_reducible refine bel_alloc ?_ ?_ | with_reducible refine Below.drew ?_ | with_reducible refine bel_drewN _ ?_ | with_reducible refine bel_call ?_ (by assumption) ?_)); all_goals (first | (simp; done) | omega | (simp; omega)))⟩

end Go.Proofs.Ytbbafdhgoekdiaa
