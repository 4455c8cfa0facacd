/- Contracts of strings.Join (whole), list.Join. -/
import Derived.Test.YtbbafdhgoekdiaaShelf
import Derived.Test.YtbbafdhgoekdiaaStrsPlain
import Derived.WalkLawsBesides
import Derived.Deep.RegionHeld3
import Derived.Deep.DrawnRows
namespace Go.Proofs.Ytbbafdhgoekdiaa
open Go.RowKit

abbrev strsL (xs : List ByteArray) : List (List UInt8) := xs.map (·.data.toList)

theorem strings_join (A : Option Addr) (c : Nat) (xs : List ByteArray) (sep : ByteArray) (w : World) (h : StrsIn w A xs) (hc : xs.length ≤ c) (hN : xs.length ≤ 1048576) (hlen : (Lib.join (strsL xs) sep.data.toList).length ≤ 140737488355328) :
    Calls Try.prog 24 #[.slice A xs.length c, .string sep] w fun e w' => e = .returned (.string ⟨(Lib.join (strsL xs) sep.data.toList).toArray⟩) ∧ Below w.heap.size w w' := by
  rcases h with rfl | ⟨bk, o, rfl, hcell⟩
  · refine (Try.strings_Join_none A c sep w).mono ?_
    rintro e w' ⟨rfl, rfl⟩
    exact ⟨rfl, Below.refl _ _⟩
  · by_cases h0 : xs = []
    · subst h0
      refine (Try.strings_Join_none _ c sep w).mono ?_
      rintro e w' ⟨rfl, rfl⟩
      exact ⟨rfl, Below.refl _ _⟩
    · obtain ⟨x, r, rfl⟩ := List.exists_cons_of_ne_nil h0
      exact Try.strings_Join bk o c (x :: r) sep w hcell (lt_of_cell (hcell 0 x rfl)) (by omega) hc hlen

theorem strings_join_n (A : Option Addr) (n c : Nat) (xs : List ByteArray) (sep : ByteArray) (w : World) (hn : xs.length = n) (h : StrsIn w A xs) (hc : n ≤ c) (hN : n ≤ 1048576) (hlen : (Lib.join (strsL xs) sep.data.toList).length ≤ 140737488355328) :
    Calls Try.prog 24 #[.slice A n c, .string sep] w fun e w' => e = .returned (.string ⟨(Lib.join (strsL xs) sep.data.toList).toArray⟩) ∧ Below w.heap.size w w' := by
  subst hn
  exact strings_join A c xs sep w h hc hN hlen

set_option maxHeartbeats 1000000 in
theorem list_join_few (A : Option Addr) (c : Nat) (xs : List ByteArray) (two sep last : ByteArray) (w : World) (h : StrsIn w A xs) (hc : xs.length ≤ c) (hN : xs.length < 2) (hsum : lensB xs ≤ 1048576) :
    Calls Try.prog 17 #[.slice A xs.length c, .string two, .string sep, .string last] w fun e w' => e = .returned (.string ⟨(listJoin (strsL xs) two.data.toList sep.data.toList last.data.toList).toArray⟩) ∧ Below w.heap.size w w' := by
  have hj : listJoin (strsL xs) two.data.toList sep.data.toList last.data.toList = Lib.join (strsL xs) [] := by unfold listJoin; rw [if_pos (by simpa using hN)]
  have HJ := Lib.hid hj
  have hl := join_len (strsL xs) []
  rw [lens_map] at hl
  have hl2 : (Lib.join (strsL xs) (ByteArray.mk #[]).data.toList).length ≤ 140737488355328 := by
    have e : (ByteArray.mk #[]).data.toList = [] := rfl
    rw [e, hl]; simp; omega
  have HL := Lib.hid hl2
  have H := Lib.hid h
  clear hj hl hl2 h
  go_enter Try.func17, Try.ntmps17
  go_wp2_with fail
  refine (strings_join A c xs _ _ H.out hc (by omega) HL.out).mono ?_
  rintro e w1 ⟨rfl, hb⟩
  go_wp2_with fail
  go_ret
  exact ⟨by rw [HJ.out]; rfl, hb⟩

set_option maxHeartbeats 1000000 in
theorem list_join_two (bk o c : Nat) (a b : ByteArray) (two sep last : ByteArray) (w : World) (c0 : w.cell? ⟨bk, o, none⟩ = some (.string a)) (c1 : w.cell? ⟨bk, o + 1, none⟩ = some (.string b)) (hc : 2 ≤ c)
    (ha : a.size ≤ 1048576) (hb : b.size ≤ 1048576) (ht : two.size ≤ 1048576) :
    Calls Try.prog 17 #[.slice (some ⟨bk, o, none⟩) 2 c, .string two, .string sep, .string last] w fun e w' => e = .returned (.string (a ++ two ++ b)) ∧ Below w.heap.size w w' := by
  go_enter Try.func17, Try.ntmps17
  go_wp2_with fail
  go_quiet (fail)
  go_wp2_with fail
  go_ret
  exact ⟨rfl, (by (repeat (first | with_reducible exact Below.refl _ _ | with_reducible refine bel_set ?_ ?_ | with_reducible refine bel_alloc ?_ ?_ | with_reducible refine Below.drew ?_ | with_reducible refine bel_drewN _ ?_ | with_reducible refine bel_call ?_ (by assumption) ?_)); all_goals (first | (simp; done) | omega | (simp; omega)))⟩

set_option maxHeartbeats 1000000 in
theorem list_join_many (bk o c k : Nat) (ys : List ByteArray) (z : ByteArray) (two sep last : ByteArray) (w : World) (hcell : ∀ (j : Nat) x, ys[j]? = some x → w.cell? ⟨bk, o + j, none⟩ = some (.string x)) (hz : w.cell? ⟨bk, o + k, none⟩ = some (.string z))
    (hk : ys.length = k) (hk2 : 2 ≤ k) (hk3 : k ≤ 1048576) (hc : k + 1 ≤ c) (hzs : z.size ≤ 1048576) (hl : last.size ≤ 1048576) (hlen : (Lib.join (strsL ys) sep.data.toList).length ≤ 140737488355328) :
    Calls Try.prog 17 #[.slice (some ⟨bk, o, none⟩) (k + 1 : Nat) c, .string two, .string sep, .string last] w fun e w' => e = .returned (.string (⟨(Lib.join (strsL ys) sep.data.toList).toArray⟩ ++ last ++ z)) ∧ Below w.heap.size w w' := by
  have HCJ := fun (W : World) (h : StrsIn W (some ⟨bk, o, none⟩) ys) => strings_join_n (some ⟨bk, o, none⟩) k c ys sep W hk h (by omega) hk3 hlen
  have HC := Lib.hid hcell
  have hlt := lt_of_cell hz
  generalize Lib.join (strsL ys) sep.data.toList = J at HCJ hlen ⊢
  have CJ := Lib.hid HCJ
  have i1 : (0 : Int) ≤ (k : Int) := by omega
  have i2 : (k : Int) < (k : Int) + 1 := by omega
  have i3 : (k : Int) ≤ (c : Int) := by omega
  have r1 : ∀ W : World, (Op.stringOp .add ⟨J.toArray⟩ last).run Try.prog W = .ok (.string (⟨J.toArray⟩ ++ last)) W := fun W => run_string_add_sum W _ _ (by show J.length + _ ≤ _; omega)
  have r2 : ∀ W : World, (Op.stringOp .add (⟨J.toArray⟩ ++ last) z).run Try.prog W = .ok (.string (⟨J.toArray⟩ ++ last ++ z)) W := fun W => run_string_add_sum W _ _ (by rw [ByteArray.size_append]; show J.length + _ + _ ≤ _; omega)
  clear hk hcell HCJ
  go_enter Try.func17, Try.ntmps17
  go_wp2_with fail
  go_region_held3 (fun w' => w'.cell? ⟨bk, o + k, none⟩ = some (.string z)) (first | go_keep | exact carry hb1 (by assumption)) (first | (go_at_call 24; refine (CJ.out _ (by exact .inr ⟨bk, o, rfl, HC.out⟩)).mono ?_; rintro e w1 ⟨rfl, hb1⟩))
  all_goals go_wp2_with fail
  all_goals go_ret
  all_goals exact ⟨rfl, (by (repeat (first | with_reducible exact Below.refl _ _ | with_reducible refine bel_set ?_ ?_ | with_reducible refine bel_alloc ?_ ?_ | with_reducible refine Below.drew ?_ | with_reducible refine bel_drewN _ ?_ | with_reducible refine bel_call ?_ (by assumption) ?_)); all_goals (first | (simp; done) | omega | (simp; omega)))⟩

theorem mk_append3 (a b c : ByteArray) : a ++ b ++ c = ⟨(a.data.toList ++ b.data.toList ++ c.data.toList).toArray⟩ := by
  apply ByteArray.ext
  apply Array.ext'
  simp

theorem list_join (A : Option Addr) (c : Nat) (xs : List ByteArray) (two sep last : ByteArray) (w : World) (h : StrsIn w A xs) (hc : xs.length ≤ c) (hN : xs.length ≤ 1048576) (hsum : lensB xs ≤ 1048576)
    (h2 : two.size ≤ 1048576) (hsep : sep.size ≤ 1048576) (hlast : last.size ≤ 1048576) :
    Calls Try.prog 17 #[.slice A xs.length c, .string two, .string sep, .string last] w fun e w' => e = .returned (.string ⟨(listJoin (strsL xs) two.data.toList sep.data.toList last.data.toList).toArray⟩) ∧ Below w.heap.size w w' := by
  by_cases few : xs.length < 2
  · exact list_join_few A c xs two sep last w h hc few hsum
  · rcases h with rfl | ⟨bk, o, rfl, hcell⟩
    · exact absurd (by decide : ([] : List ByteArray).length < 2) few
    · by_cases e2 : xs.length = 2
      · match xs, e2 with
        | [a, b], _ =>
          refine (list_join_two bk o c a b two sep last w (hcell 0 a rfl) (hcell 1 b rfl) hc (by have := size_le_lensB [a, b] 0 a rfl; omega) (by have := size_le_lensB [a, b] 1 b rfl; omega) h2).mono ?_
          rintro e w' ⟨rfl, hb⟩
          exact ⟨by rw [mk_append3]; rfl, hb⟩
      · have h3 : xs.length - 1 < xs.length := by omega
        have hz := List.getElem?_eq_getElem h3
        have ez := size_le_lensB xs _ _ hz
        generalize hzz : xs[xs.length - 1] = z at *
        have hlen : (Lib.join (strsL (xs.take (xs.length - 1))) sep.data.toList).length ≤ 140737488355328 := by
          rw [join_len, lens_map]
          have := lensB_take_le xs (xs.length - 1)
          have e1 : (strsL (xs.take (xs.length - 1))).length - 1 ≤ 1048576 := by simp; omega
          have e2 : sep.data.toList.length ≤ 1048576 := by simpa using hsep
          have := Nat.mul_le_mul e2 e1
          omega
        have := list_join_many bk o c (xs.length - 1) (xs.take (xs.length - 1)) z two sep last w (fun j x hx => hcell j x (by
            rw [List.getElem?_take] at hx
            split at hx
            · exact hx
            · cases hx)) (hcell _ z hz) (by simp) (by omega) (by omega) (by omega) (by omega) hlast hlen
        rw [show xs.length - 1 + 1 = xs.length by omega] at this
        refine this.mono ?_
        rintro e w' ⟨rfl, hb⟩
        refine ⟨?_, hb⟩
        rw [mk_append3]
        unfold listJoin
        rw [if_neg (by simpa using few), if_neg (by simpa using e2)]
        have eg : (strsL xs).getD ((strsL xs).length - 1) [] = z.data.toList := by
          simp [List.getD_eq_getElem?_getD, List.getElem?_map, hz]
        rw [eg]
        simp [List.map_take]

end Go.Proofs.Ytbbafdhgoekdiaa
