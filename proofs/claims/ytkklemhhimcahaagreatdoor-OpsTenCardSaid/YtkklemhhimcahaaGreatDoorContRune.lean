/- strings.ContainsRune("nivwft", c) at any byte. -/
import Derived.Test.YtkklemhhimcahaaGreatDoorBase
import Derived.Test.YtkklemhhimcahaaGreatDoorShelf
import Derived.Test.YtkklemhhimcahaaGreatDoorPlains
import Derived.Outline
import Derived.Laws.Runes
namespace Go.Proofs.YtkklemhhimcahaaGreatDoor
open Go.RowKit

def opsS : ByteArray := ⟨#[110, 105, 118, 119, 102, 116]⟩
theorem all_u8 {P : UInt8 → Prop} (h : ∀ n : Fin 256, P (UInt8.ofNat n.val)) : ∀ c, P c := by
  intro c
  have := h ⟨c.toNat, c.toNat_lt⟩
  simpa using this
theorem ops_low : ∀ c : UInt8, decide (0 ≤ Lib.indexByte opsS.data.toList c) = opsL.contains c := all_u8 (by decide +kernel)
theorem ops_high : ∀ c : UInt8, ¬ c.toNat < 128 → opsL.contains c = false := all_u8 (by decide +kernel)
theorem enc_high : ∀ c : UInt8, ¬ c.toNat < 128 → Utf8.encode (c.toNat : Int) = ⟨#[UInt8.ofNat (192 + c.toNat / 64), UInt8.ofNat (128 + c.toNat % 64)]⟩ := all_u8 (by decide +kernel)
theorem last_high : ∀ c : UInt8, ¬ c.toNat < 128 → ¬ ((UInt8.ofNat (128 + c.toNat % 64)).toNat < 128) := all_u8 (by decide +kernel)
theorem idx_high : ∀ b : UInt8, ¬ b.toNat < 128 → Lib.indexByte [118, 119, 102, 116] b = -1 := all_u8 (by decide +kernel)

set_option maxRecDepth 1000000 in
set_option maxHeartbeats 2000000 in
theorem idx_rune (c : UInt8) (hc : ¬ c.toNat < 128) (w : World) :
    Calls Tryz.prog 117 #[.string opsS, .int .i32 c.toNat] w fun e w' => e = .returned (.int .i64 (-1)) ∧ ∃ n, w' = w.drewN n := by
  have he := enc_high c hc
  have hb := last_high c hc
  have hv : Lib.validRune (c.toNat : Int) = true := by
    have : ∀ c : UInt8, Lib.validRune (c.toNat : Int) = true := all_u8 (by decide +kernel)
    exact this c
  generalize UInt8.ofNat (192 + c.toNat / 64) = b0 at *
  generalize UInt8.ofNat (128 + c.toNat % 64) = b1 at *
  have hi := idx_high b1 hb
  have HI := Lib.hid hi
  have HE := Lib.hid he
  clear he
  have HV := Tryz.utf8_ValidRune (c.toNat : Int)
  rw [hv] at HV
  replace HV := Lib.hid HV
  have c1 : c.toNat < 256 := c.toNat_lt
  have c2 : ¬ ((c.toNat : Int) < 128) := by omega
  have c3 : (0 : Int) ≤ (c.toNat : Int) := by omega
  have c4 : ¬ (c.toNat : Int) = 65533 := by omega
  unfold opsS
  clear hi hv
  go_enter Tryz.func117, Tryz.ntmps117
  go_wp2_with fail
  refine (HV.out _).mono ?_
  rintro e w' ⟨rfl, rfl⟩
  have hx : ∀ W, (convert 21 9 (.int .i32 c.toNat)).run Tryz.prog W = .ok (.string ⟨#[b0, b1]⟩) W := fun W => by rw [run_convert_int_string W _ _ _ _ (by kernel_rfl) Tryz.underlying9, HE.out]
  clear HE
  go_wp2_with fail
  go_step3
  go_wp2_with fail
  have hne : ((105 : Int) != (b1.toNat : Int)) = true := by rw [bne_iff_ne]; omega
  have hne2 : (((((ByteArray.mk #[110, 105, 118, 119, 102, 116])[1]'(by decide)).toNat : Nat) : Int) != (((ByteArray.mk #[b0, b1])[1]'(by show 1 < 2; omega)).toNat : Int)) = true := hne
  have KB : ∀ (T : ByteArray) W, T.data.toList = [118, 119, 102, 116] → Calls Tryz.prog 101 #[.string T, .int .u8 b1.toNat] W fun e w' => e = .returned (.int .i64 (-1)) ∧ w' = W := fun T W hT => by
    have := Tryz.strings_IndexByte T (b1.toNat : Int) W
    rw [show (b1.toNat : Int).toNat.toUInt8 = b1 by simp] at this
    rw [hT, HI.out] at this
    exact this
  have HK := Lib.hid KB
  clear KB HI hx
  go_loop [9] (fun i => i = .int .i64 1) (fun _ => 0)
  case atStart => rfl
  case round =>
    obtain rfl := hrel
    go_wp2_with fail
    go_step3
    go_wp2_with fail
    go_quiet (fail)
    have e1 : IntKind.i64.wrap (2 : Int) = 2 := by decide
    go_wp2_with fail
    go_quiet ((go_at_call 101; (first | exact Calls.quiet_add_left ((HK.out _ _ rfl).mono fun _ _ h => ⟨h.1, h.2.symm⟩) | exact Calls.quiet_left ((HK.out _ _ rfl).mono fun _ _ h => ⟨h.1, h.2.symm⟩))))
    all_goals go_wp2_with fail
    all_goals rw [Exit.noGoto_ret]
    all_goals go_wp2_with fail
    all_goals (try rw [Exit.noGoto_ret])
    all_goals go_ret
    all_goals exact ⟨rfl, _, rfl⟩

theorem cont_op (c : UInt8) (w : World) :
    Calls Tryz.prog 86 #[.string ⟨#[110, 105, 118, 119, 102, 116]⟩, .int .i32 c.toNat] w fun e w' => e = .returned (.bool (opsL.contains c)) ∧ ∃ n, w' = w.drewN n := by
  by_cases hc : c.toNat < 128
  · refine (Tryz.strings_ContainsRune_ascii opsS (c.toNat : Int) w (by omega) (by omega)).mono ?_
    rintro e w' ⟨rfl, rfl⟩
    refine ⟨?_, 0, rfl⟩
    rw [show (c.toNat : Int).toNat.toUInt8 = c by simp, ops_low c]
  · rw [ops_high c hc]
    have K := Lib.hid (idx_rune c hc w)
    go_enter Tryz.func86, Tryz.ntmps86
    go_wp2_with fail
    refine K.out.mono ?_
    rintro e w' ⟨rfl, n, rfl⟩
    go_wp2_with fail
    go_ret
    exact ⟨rfl, n, rfl⟩
end Go.Proofs.YtkklemhhimcahaaGreatDoor
