/- strings.trimRightASCII, trimLeftASCII, strings.Trim with a set of ASCII signs. -/
import Derived.Test.YthlcjlmaaaappaaDoorBase
import Derived.Test.YthlcjlmaaaappaaDoorShelf
import Derived.WalkLawsBesides
import Derived.Lib.Strings
namespace Go.Proofs.YthlcjlmaaaappaaDoor
open Go.RowKit

/-- The set at block b holds just what P tells. -/
def SetAt (w : World) (b : Nat) (P : UInt8 → Bool) : Prop := ∀ x : UInt8, w.cell? ⟨b, x.toNat, none⟩ = some (.bool (P x))

def sizeOfV : Value → Nat
  | .string t => t.size
  | _ => 0

def TrimR (s t : ByteArray) (P : UInt8 → Bool) : Prop := ∃ r : List UInt8, s.data.toList = t.data.toList ++ r ∧ r.all P = true ∧ (t.data.toList = [] ∨ ∃ l c, t.data.toList = l ++ [c] ∧ P c = false)
def HeadR (s t : ByteArray) (P : UInt8 → Bool) : Prop := ∃ r : List UInt8, s.data.toList = t.data.toList ++ r ∧ r.all P = true
theorem last_split (t : ByteArray) (h : 0 < t.size) (hi : t.size - 1 < t.size) : t.data.toList = (t.extract 0 (t.size - 1)).data.toList ++ [t[t.size - 1]] := by
  have hl : t.data.toList.length = t.size := by simp
  have e : (t.extract 0 (t.size - 1)).data.toList = t.data.toList.take (t.size - 1) := by rw [Lib.extract_data, List.drop_zero, Nat.sub_zero]
  rw [e]
  have hg : t.data.toList[t.size - 1]? = some t[t.size - 1] := by
    rw [List.getElem?_eq_getElem (by omega)]
    rfl
  have h2 := List.take_add_one (l := t.data.toList) (i := t.size - 1)
  rw [hg, show t.size - 1 + 1 = t.size by omega, List.take_of_length_le (by omega)] at h2
  exact h2

theorem trim_right (s : ByteArray) (b : Nat) (P : UInt8 → Bool) (w : World) (hS : SetAt w b P) (hs : s.size ≤ 9000000000000000000) :
    Calls Tryd.prog 36 #[.string s, .pointer (some ⟨b, 0, none⟩)] w fun e w' =>
      ∃ t : ByteArray, e = .returned (.string t) ∧ TrimR s t P ∧ w' = w := by
  have HS := Lib.hid hS
  clear hS
  go_enter Tryd.func36, Tryd.ntmps36
  go_wp2_with fail
  go_loop [0] (fun v => ∃ t : ByteArray, v = .string t ∧ t.size ≤ s.size ∧ Hid (HeadR s t P)) (fun v => sizeOfV v)
  case atStart => exact ⟨s, rfl, Nat.le_refl _, Lib.hid ⟨[], by simp, rfl⟩⟩
  case round =>
    obtain ⟨t, rfl, hle, hall⟩ := hrel
    by_cases h0 : t.size = 0
    · have he : t = ⟨#[]⟩ := by
        apply ByteArray.ext
        exact Array.eq_empty_of_size_eq_zero h0
      subst he
      go_wp2_with fail
      go_ret
      obtain ⟨r, h1, h2⟩ := hall.out
      exact ⟨⟨#[]⟩, rfl, ⟨r, h1, h2, .inl rfl⟩, rfl⟩
    · have hi : t.size - 1 < t.size := by omega
      have hc := HS.out t[t.size - 1]
      have e1 : IntKind.i64.wrap ((t.size : Int) - 1) = (t.size : Int) - 1 := IntWalk.i64_in _ (by omega)
      have e2 : ((t.size : Int) - 1).toNat = t.size - 1 := by omega
      have i0 : (0 : Int) ≤ (t.size : Int) - 1 := by omega
      have i1 : (t.size : Int) - 1 < (t.size : Int) := by omega
      have i2 : (0 : Int) < (t.size : Int) := by omega
      have hsp := Lib.hid (last_split t (by omega) hi)
      cases hp : P t[t.size - 1]
      · rw [hp] at hc
        go_wp2_with fail
        refine (Tryd.asciiSet_contains b _ false w hc).mono ?_
        rintro e w1 ⟨rfl, rfl⟩
        go_wp2_with fail
        go_ret
        obtain ⟨r, h1, h2⟩ := hall.out
        exact ⟨t, rfl, ⟨r, h1, h2, .inr ⟨_, _, hsp.out, hp⟩⟩, rfl⟩
      · rw [hp] at hc
        go_wp2_with fail
        refine (Tryd.asciiSet_contains b _ true w hc).mono ?_
        rintro e w1 ⟨rfl, rfl⟩
        go_wp2_with fail
        go_round
        case rel =>
          refine ⟨_, rfl, ?_, ?_⟩
          · simp; omega
          · obtain ⟨r, h1, h2⟩ := hall.out
            refine Lib.hid ⟨t[t.size - 1] :: r, ?_, by simp [hp]; simpa using h2⟩
            rw [h1, hsp.out, List.append_assoc]
            rfl
        case measure => simp [sizeOfV]; omega

def TrimL (s t : ByteArray) (P : UInt8 → Bool) : Prop := ∃ r : List UInt8, s.data.toList = r ++ t.data.toList ∧ r.all P = true ∧ (t.data.toList = [] ∨ ∃ c l, t.data.toList = c :: l ∧ P c = false)
def HeadL (s t : ByteArray) (P : UInt8 → Bool) : Prop := ∃ r : List UInt8, s.data.toList = r ++ t.data.toList ∧ r.all P = true
theorem first_split (t : ByteArray) (h : 0 < t.size) : t.data.toList = t[0] :: (t.extract 1 t.size).data.toList := by
  have hl : t.data.toList.length = t.size := by simp
  rw [Lib.extract_data, List.take_of_length_le (by rw [List.length_drop]; omega)]
  have hg : t.data.toList[0]? = some t[0] := by
    rw [List.getElem?_eq_getElem (by omega)]
    rfl
  generalize t.data.toList = L at *
  cases L with
  | nil => simp at hg
  | cons x L => simp at hg; simp [hg]

theorem trim_left (s : ByteArray) (b : Nat) (P : UInt8 → Bool) (w : World) (hS : SetAt w b P) (hs : s.size ≤ 9000000000000000000) :
    Calls Tryd.prog 35 #[.string s, .pointer (some ⟨b, 0, none⟩)] w fun e w' =>
      ∃ t : ByteArray, e = .returned (.string t) ∧ TrimL s t P ∧ w' = w := by
  have HS := Lib.hid hS
  clear hS
  go_enter Tryd.func35, Tryd.ntmps35
  go_wp2_with fail
  go_loop [0] (fun v => ∃ t : ByteArray, v = .string t ∧ t.size ≤ s.size ∧ Hid (HeadL s t P)) (fun v => sizeOfV v)
  case atStart => exact ⟨s, rfl, Nat.le_refl _, Lib.hid ⟨[], by simp, rfl⟩⟩
  case round =>
    obtain ⟨t, rfl, hle, hall⟩ := hrel
    by_cases h0 : t.size = 0
    · have he : t = ⟨#[]⟩ := by
        apply ByteArray.ext
        exact Array.eq_empty_of_size_eq_zero h0
      subst he
      go_wp2_with fail
      go_ret
      obtain ⟨r, h1, h2⟩ := hall.out
      exact ⟨⟨#[]⟩, rfl, ⟨r, h1, h2, .inl rfl⟩, rfl⟩
    · have hi : 0 < t.size := by omega
      have hc := HS.out t[0]
      have i2 : (0 : Int) < (t.size : Int) := by omega
      have i3 : (1 : Int) ≤ (t.size : Int) := by omega
      have hsp := Lib.hid (first_split t hi)
      cases hp : P t[0]
      · rw [hp] at hc
        go_wp2_with fail
        refine (Tryd.asciiSet_contains b _ false w hc).mono ?_
        rintro e w1 ⟨rfl, rfl⟩
        go_wp2_with fail
        go_ret
        obtain ⟨r, h1, h2⟩ := hall.out
        exact ⟨t, rfl, ⟨r, h1, h2, .inr ⟨_, _, hsp.out, hp⟩⟩, rfl⟩
      · rw [hp] at hc
        go_wp2_with fail
        refine (Tryd.asciiSet_contains b _ true w hc).mono ?_
        rintro e w1 ⟨rfl, rfl⟩
        go_wp2_with fail
        go_round
        case rel =>
          refine ⟨_, rfl, ?_, ?_⟩
          · simp; omega
          · obtain ⟨r, h1, h2⟩ := hall.out
            refine Lib.hid ⟨r ++ [t[0]], ?_, by rw [List.all_append, h2]; simp [hp]⟩
            rw [h1, hsp.out, List.append_assoc]
            rfl
        case measure => simp [sizeOfV]; omega
end Go.Proofs.YthlcjlmaaaappaaDoor
