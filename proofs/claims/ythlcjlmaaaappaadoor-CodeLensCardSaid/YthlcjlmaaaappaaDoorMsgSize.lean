/- msg.Cases, msg.size at a node whose cases have no nodes. -/
import Derived.Test.YthlcjlmaaaappaaDoorMsgKey
namespace Go.Proofs.YthlcjlmaaaappaaDoor
open Go.RowKit

/-- cases of empty bodies lie there -/
def CasesIn (w : World) (A : Option Addr) (ks : List ByteArray) : Prop :=
  ks = [] ∨ ∃ b o, A = some ⟨b, o, none⟩ ∧ ∀ (j : Nat) x, ks[j]? = some x → w.cell? ⟨b, o + j * 2, none⟩ = some (.string x) ∧ w.cell? ⟨b, o + j * 2 + 1, none⟩ = some (.slice none 0 0)
theorem CasesIn.below {w w' : World} {A : Option Addr} {ks : List ByteArray} (h : CasesIn w A ks) (hb : Below w.heap.size w w') : CasesIn w' A ks := by
  rcases h with h | ⟨b, o, h1, h2⟩
  · exact .inl h
  · exact .inr ⟨b, o, h1, fun j x hx => ⟨carry hb (h2 j x hx).1, carry hb (h2 j x hx).2⟩⟩
theorem CasesIn.at {w : World} {A : Option Addr} {ks : List ByteArray} (h : CasesIn w A ks) (hp : 0 < ks.length) : ∃ b o, A = some ⟨b, o, none⟩ ∧ ∀ (j : Nat) x, ks[j]? = some x → w.cell? ⟨b, o + j * 2, none⟩ = some (.string x) ∧ w.cell? ⟨b, o + j * 2 + 1, none⟩ = some (.slice none 0 0) := by
  rcases h with h | h
  · rw [h] at hp; simp at hp
  · exact h
abbrev nodeV (kd : Int) (t : ByteArray) (off : Int) (A : Option Addr) (n c : Nat) : Value := .agg #[.int .i64 kd, .string t, .int .i64 off, .slice A n c]
/-- a node lies there -/
def NodeAt (w : World) (g : Nat) (kd : Int) (t : ByteArray) (off : Int) (A : Option Addr) (n c : Nat) : Prop :=
  w.cell? ⟨g, 0, none⟩ = some (.int .i64 kd) ∧ w.cell? ⟨g, 1, none⟩ = some (.string t) ∧ w.cell? ⟨g, 2, none⟩ = some (.int .i64 off) ∧ w.cell? ⟨g, 3, none⟩ = some (.slice A n c)
theorem NodeAt.below {w w' : World} {g : Nat} {kd : Int} {t : ByteArray} {off : Int} {A : Option Addr} {n c : Nat} (h : NodeAt w g kd t off A n c) (hb : Below w.heap.size w w') : NodeAt w' g kd t off A n c :=
  ⟨carry hb h.1, carry hb h.2.1, carry hb h.2.2.1, carry hb h.2.2.2⟩

theorem msg_cases (kd off : Int) (t : ByteArray) (A : Option Addr) (n c : Nat) (w : World) (hk : kd = 4 ∨ kd = 5) :
    Calls Tryd.prog 16 #[nodeV kd t off A n c] w fun e w' => e = .returned (.slice A n c) ∧ Below w.heap.size w w' := by
  unfold nodeV
  rcases hk with rfl | rfl
  · go_enter Tryd.func16, Tryd.ntmps16
    go_wp2_with fail
    go_ret
    exact ⟨rfl, (by (repeat (first | with_reducible exact Below.refl _ _ | with_reducible refine bel_set ?_ ?_ | with_reducible refine bel_alloc ?_ ?_ | with_reducible refine Below.drew ?_ | with_reducible refine bel_drewN _ ?_ | with_reducible refine bel_call ?_ (by assumption) ?_)); all_goals (first | (simp; done) | omega | (simp; omega)))⟩
  · go_enter Tryd.func16, Tryd.ntmps16
    go_wp2_with fail
    go_ret
    exact ⟨rfl, (by (repeat (first | with_reducible exact Below.refl _ _ | with_reducible refine bel_set ?_ ?_ | with_reducible refine bel_alloc ?_ ?_ | with_reducible refine Below.drew ?_ | with_reducible refine bel_drewN _ ?_ | with_reducible refine bel_call ?_ (by assumption) ?_)); all_goals (first | (simp; done) | omega | (simp; omega)))⟩

theorem size_nil (w : World) :
    Calls Tryd.prog 14 #[.slice none 0 0, .int .i64 1] w fun e w' => e = .returned (.tuple #[.int .i64 0, .bool false]) ∧ Below w.heap.size w w' := by
  go_enter Tryd.func14, Tryd.ntmps14
  go_wp2_with fail
  go_loopw [6, 24] (fun nv i wr => i = .int .i64 0 ∧ nv = .int .i64 0 ∧ w = wr) (fun _ _ _ => 0)
  case atStart => exact ⟨rfl, rfl, rfl⟩
  case round =>
    obtain ⟨rfl, rfl, rfl⟩ := hrel
    go_wp2_with fail
    go_ret2
    exact ⟨rfl, (by (repeat (first | with_reducible exact Below.refl _ _ | with_reducible refine bel_set ?_ ?_ | with_reducible refine bel_alloc ?_ ?_ | with_reducible refine Below.drew ?_ | with_reducible refine bel_drewN _ ?_ | with_reducible refine bel_call ?_ (by assumption) ?_)); all_goals (first | (simp; done) | omega | (simp; omega)))⟩

theorem size_one (g : Nat) (kd off : Int) (t : ByteArray) (A : Option Addr) (ks : List ByteArray) (c : Nat) (w : World) (hk : kd = 4 ∨ kd = 5) (hN : NodeAt w g kd t off A ks.length c) (hC : CasesIn w A ks) (hc : ks.length ≤ c) (hc2 : c ≤ 9223372036854775807) :
    Calls Tryd.prog 14 #[.slice (some ⟨g, 0, none⟩) 1 1, .int .i64 0] w fun e w' => e = .returned (.tuple #[.int .i64 1, .bool false]) ∧ Below w.heap.size w w' := by
  have HC := Lib.hid hC
  have HN := Lib.hid hN
  clear hC hN
  go_enter Tryd.func14, Tryd.ntmps14
  go_wp2_with fail
  go_loopw [6, 24] (fun nv i wr => ∃ k : Nat, k ≤ 1 ∧ i = .int .i64 k ∧ nv = .int .i64 1 ∧ Hid (Below w.heap.size w wr)) (fun _ i _ => 1 - (intOf i).toNat)
  case atStart => exact ⟨0, by omega, rfl, rfl, Lib.hid (Below.refl _ _)⟩
  case round =>
    obtain ⟨k, hk1, rfl, rfl, HB⟩ := hrel
    by_cases hlt : k < 1
    · obtain rfl : k = 0 := by omega
      obtain ⟨n0, n1, n2, n3⟩ := HN.out.below HB.out
      have sB := HB.out.size
      go_wp2_with fail
      refine (msg_cases kd off t A ks.length c _ hk).mono ?_
      rintro e w1 ⟨rfl, hb1⟩
      have HB1 : Hid (Below w.heap.size w w1) := Lib.hid (HB.out.trans (by
        refine Below.trans ?_ (hb1.mono ?_)
        · (repeat (first | with_reducible exact Below.refl _ _ | with_reducible refine bel_set ?_ ?_ | with_reducible refine bel_alloc ?_ ?_ | with_reducible refine Below.drew ?_ | with_reducible refine bel_drewN _ ?_ | with_reducible refine bel_call ?_ (by assumption) ?_)); all_goals (first | (simp; done) | omega | (simp; omega))
        · simp; omega))
      clear hb1
      go_wp2_with fail
      go_loopw [6, 31] (fun nv i wr => ∃ k : Nat, k ≤ ks.length ∧ i = .int .i64 k ∧ nv = .int .i64 1 ∧ Hid (Below w.heap.size w wr)) (fun _ i _ => ks.length - (intOf i).toNat)
      case atStart => exact ⟨0, Nat.zero_le _, rfl, rfl, HB1⟩
      case round =>
        obtain ⟨j, hj, rfl, rfl, HB2⟩ := hrel
        by_cases hjt : j < ks.length
        · obtain ⟨b, o, rfl, hcell⟩ := (HC.out.below HB2.out).at (by omega)
          obtain ⟨x, hx⟩ : ∃ x, ks[j]? = some x := ⟨ks[j], List.getElem?_eq_getElem hjt⟩
          obtain ⟨c0, c1⟩ := hcell j x hx
          have i0 : (0 : Int) ≤ (j : Int) := by omega
          have i1 : (j : Int) < (ks.length : Int) := by omega
          have i2 : (j : Int) ≤ (c : Int) := by omega
          have e1 : IntKind.i64.wrap ((j : Int) + 1) = (j : Int) + 1 := IntWalk.i64_in _ (by omega)
          have e2 : IntKind.i64.wrap ((0 : Int) + 1) = 1 := by decide
          have e3 : IntKind.i64.wrap ((1 : Int) + 0) = 1 := by decide
          have sB2 := HB2.out.size
          clear hcell hx n0 n1 n2 n3
          go_wp2_with fail
          refine (size_nil _).mono ?_
          rintro e w2 ⟨rfl, hb2⟩
          have HB3 : Hid (Below w.heap.size w w2) := Lib.hid (HB2.out.trans (by
            refine Below.trans ?_ (hb2.mono ?_)
            · (repeat (first | with_reducible exact Below.refl _ _ | with_reducible refine bel_set ?_ ?_ | with_reducible refine bel_alloc ?_ ?_ | with_reducible refine Below.drew ?_ | with_reducible refine bel_drewN _ ?_ | with_reducible refine bel_call ?_ (by assumption) ?_)); all_goals (first | (simp; done) | omega | (simp; omega))
            · simp; omega))
          clear hb2
          go_wp2_with fail
          go_roundw
          case rel => exact ⟨j + 1, by omega, by go_num, rfl, HB3⟩
          case measure => simp [intOf]; omega
        · obtain rfl : j = ks.length := by omega
          go_wp2_with fail
          go_roundw
          case rel => exact ⟨1, by omega, by go_num, rfl, HB2⟩
          case measure => simp [intOf]
    · obtain rfl : k = 1 := by omega
      go_wp2_with fail
      go_ret2
      exact ⟨rfl, HB.out⟩
end Go.Proofs.YthlcjlmaaaappaaDoor
