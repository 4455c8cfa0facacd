/- linguisterref1.Digits with no least length, linguisterref1.Size. -/
import Derived.Test.YthlcjlmaaaappaaGreatDoorBase
import Derived.Test.YthlcjlmaaaappaaGreatDoorDigitsB
import Derived.IntWalk
import Derived.Test.YthlcjlmaaaappaaGreatDoorShelf
import Derived.WalkLawsBesides
import Derived.Laws.IdiomStrings
import Derived.Lib.ItoaNum
namespace Go.Proofs.YthlcjlmaaaappaaGreatDoor
open Go.RowKit

theorem convC (w : World) (c : Nat) (hc : c < 256) : (convert 89 9 (.slice (some ⟨w.heap.size, 0, none⟩) 1 1)).run Tryz.prog (w.alloc (.cells #[.int .u8 c] 5)) = .ok (.string ⟨#[UInt8.ofNat c]⟩) (w.alloc (.cells #[.int .u8 c] 5)) := by
  refine run_convert_bytes_back _ 89 9 5 _ 1 [UInt8.ofNat c] Tryz.underlying89 Tryz.underlying5 Tryz.underlying9 (fun j hj => ?_)
  have h0 : j = 0 := by simp at hj; omega
  subst h0
  rw [Go.WideShapes.add_plain, World.cell?_alloc_at _ _ _ _ rfl]
  have : (UInt8.ofNat c).toNat = c := by simp; omega
  simp [this]

theorem digits_zero (m : Nat) (h : m < 10) (w : World) : Calls Tryz.prog 75 #[.int .i64 m, .int .i64 0] w fun e w' => e = .returned (.string ⟨(Lib.decDigits m).toArray⟩) ∧ Below w.heap.size w w' := by
  have hd : Lib.decDigits m = [UInt8.ofNat (48 + m)] := by rw [Lib.decDigits, dif_pos h]
  have hcv := convC w (48 + m) (by omega)
  rw [hd]
  clear hd
  have e1 : (m : Int).tmod 10 = m := by rw [Int.tmod_eq_emod_of_nonneg (by omega)]; omega
  obtain ⟨z, hz⟩ : ∃ z : Int, z = ((48 + m : Nat) : Int) := ⟨_, rfl⟩
  have e2 : IntKind.i64.wrap (48 + (m : Int)) = z := by rw [IntWalk.i64_in _ (by omega)]; omega
  have e3 : IntKind.u8.wrap z = z := by
    simp [IntKind.wrap, IntKind.bits, IntKind.signed]
    omega
  rw [← hz] at hcv
  generalize UInt8.ofNat (48 + m) = ch at *
  have n1 : ¬ (10 : Int) ≤ (m : Int) := by omega
  have HZ := Lib.hid hz
  clear hz
  go_enter Tryz.func75, Tryz.ntmps75
  go_wp2_with fail
  go_loop [5] (fun v => v = .string ⟨#[ch]⟩) (fun _ => 0)
  case atStart => rfl
  case round =>
    subst hrel
    go_wp2_with fail
    go_ret
    exact ⟨rfl, (by (repeat (first | with_reducible exact Below.refl _ _ | with_reducible refine bel_set ?_ ?_ | with_reducible refine bel_alloc ?_ ?_ | with_reducible refine Below.drew ?_ | with_reducible refine bel_drewN _ ?_ | with_reducible refine bel_call ?_ (by assumption) ?_)); all_goals (first | (simp; done) | omega | (simp; omega)))⟩

theorem digits_step (m : Nat) (h : 10 ≤ m) (hm : m ≤ 9223372036854775807) (w : World)
    (IH : ∀ W : World, Calls Tryz.prog 75 #[.int .i64 (m / 10 : Nat), .int .i64 0] W fun e w' => e = .returned (.string ⟨(Lib.decDigits (m / 10)).toArray⟩) ∧ Below W.heap.size W w') :
    Calls Tryz.prog 75 #[.int .i64 m, .int .i64 0] w fun e w' => e = .returned (.string ⟨(Lib.decDigits m).toArray⟩) ∧ Below w.heap.size w w' := by
  have hd : Lib.decDigits m = Lib.decDigits (m / 10) ++ [UInt8.ofNat (48 + m % 10)] := by rw [Lib.decDigits, dif_neg (by omega)]
  have hcv := convC w (48 + m % 10) (by omega)
  have hlen : (Lib.decDigits (m / 10)).length ≤ 19 := decDigits_size 19 _ (by omega) (by omega)
  have hR : (⟨(Lib.decDigits m).toArray⟩ : ByteArray) = ⟨(Lib.decDigits (m / 10)).toArray⟩ ++ ⟨#[UInt8.ofNat (48 + m % 10)]⟩ := by
    rw [hd]
    apply ByteArray.ext
    apply Array.ext'
    simp
  rw [hR]
  clear hd hR
  have e1 : (m : Int).tmod 10 = ((m % 10 : Nat) : Int) := by rw [Int.tmod_eq_emod_of_nonneg (by omega)]; omega
  have e4 : (m : Int).tdiv 10 = ((m / 10 : Nat) : Int) := by rw [Int.tdiv_eq_ediv_of_nonneg (by omega)]; omega
  have e5 : IntKind.i64.wrap ((m / 10 : Nat) : Int) = ((m / 10 : Nat) : Int) := IntWalk.i64_in _ (by omega)
  obtain ⟨z, hz⟩ : ∃ z : Int, z = ((48 + m % 10 : Nat) : Int) := ⟨_, rfl⟩
  obtain ⟨y, hy⟩ : ∃ y : Nat, y = m % 10 := ⟨_, rfl⟩
  have e2 : IntKind.i64.wrap (48 + (y : Int)) = z := by rw [IntWalk.i64_in _ (by omega)]; omega
  have e3 : IntKind.u8.wrap z = z := by
    simp [IntKind.wrap, IntKind.bits, IntKind.signed]
    omega
  rw [← hz] at hcv
  rw [← hy] at e1
  have n1 : (10 : Int) ≤ (m : Int) := by omega
  have e6 : IntKind.i64.wrap (m : Int) = m := IntWalk.i64_in _ (by omega)
  obtain ⟨u, hu⟩ : ∃ u : Nat, u = m / 10 := ⟨_, rfl⟩
  rw [← hu] at IH e4 e5 hlen ⊢
  generalize hS : (⟨(Lib.decDigits u).toArray⟩ : ByteArray) = S at *
  have hSs : S.size ≤ 19 := by rw [← hS]; exact hlen
  generalize UInt8.ofNat (48 + m % 10) = ch at *
  have r1 : ∀ W : World, (Op.stringOp .add S ⟨#[ch]⟩).run Tryz.prog W = .ok (.string (S ++ ⟨#[ch]⟩)) W := fun W => run_string_add_sum W _ _ (by show _ + 1 ≤ _; omega)
  generalize S ++ (⟨#[ch]⟩ : ByteArray) = V at *
  have KI := Lib.hid IH
  clear hz hy hu hS IH hlen hSs
  go_enter Tryz.func75, Tryz.ntmps75
  go_wp2_with fail
  refine (KI.out _).mono ?_
  rintro e w1 ⟨rfl, hb1⟩
  have s1 := hb1.size
  simp at s1
  go_wp2_with fail
  clear r1 e1 e2 e3 e4 e5 e6 n1 hm h hcv
  go_loop [5] (fun v => v = .string V) (fun _ => 0)
  case atStart => rfl
  case round =>
    subst hrel
    go_wp2_with fail
    go_ret
    exact ⟨rfl, (by (repeat (first | with_reducible exact Below.refl _ _ | with_reducible refine bel_set ?_ ?_ | with_reducible refine bel_alloc ?_ ?_ | with_reducible refine Below.drew ?_ | with_reducible refine bel_drewN _ ?_ | with_reducible refine bel_call ?_ (by assumption) ?_)); all_goals (first | (simp; done) | omega | (simp; omega)))⟩

theorem ref_digits : ∀ (k m : Nat), m ≤ k → m ≤ 9223372036854775807 → ∀ w : World,
    Calls Tryz.prog 75 #[.int .i64 m, .int .i64 0] w fun e w' => e = .returned (.string ⟨(Lib.decDigits m).toArray⟩) ∧ Below w.heap.size w w' := by
  intro k
  induction k with
  | zero => intro m h _ w; exact digits_zero m (by omega) w
  | succ k ih =>
    intro m h hm w
    by_cases h10 : m < 10
    · exact digits_zero m h10 w
    · exact digits_step m (by omega) hm w (fun W => ih (m / 10) (by omega) (by omega) W)

end Go.Proofs.YthlcjlmaaaappaaGreatDoor
