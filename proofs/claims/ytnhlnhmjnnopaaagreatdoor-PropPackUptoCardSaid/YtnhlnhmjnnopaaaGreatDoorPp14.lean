/- Tag: texts put together. -/
import Derived.Test.YtnhlnhmjnnopaaaGreatDoorPp1
import Derived.Test.YtnhlnhmjnnopaaaGreatDoorProg
import Derived.Test.YtnhlnhmjnnopaaaGreatDoorPp2
import Derived.WalkLawsBesides
import Derived.Lib.Strings
set_option linter.unusedVariables false
set_option linter.unusedSimpArgs false
/- tag: low, high, digit, both, made, script, region. -/
namespace Go.Proofs.YtnhlnhmjnnopaaaGreatDoor
open Go.RowKit

theorem tag_low (c : UInt8) (w : World) : Calls Tryz.prog 81 #[.int .u8 c.toNat] w fun e w' => e = .returned (.bool (lowB c)) ∧ w = w' := by
  by_cases h1 : 97 ≤ (c.toNat : Int) <;> by_cases h2 : (c.toNat : Int) ≤ 122
  all_goals
    go_enter Tryz.func81, Tryz.ntmps81
    go_wp2_with fail
    go_ret
    exact ⟨ret_bool (by unfold lowB; simp; omega), rfl⟩
theorem tag_high (c : UInt8) (w : World) : Calls Tryz.prog 124 #[.int .u8 c.toNat] w fun e w' => e = .returned (.bool (highB c)) ∧ w = w' := by
  by_cases h1 : 65 ≤ (c.toNat : Int) <;> by_cases h2 : (c.toNat : Int) ≤ 90
  all_goals
    go_enter Tryz.func124, Tryz.ntmps124
    go_wp2_with fail
    go_ret
    exact ⟨ret_bool (by unfold highB; simp; omega), rfl⟩
theorem tag_digit (c : UInt8) (w : World) : Calls Tryz.prog 125 #[.int .u8 c.toNat] w fun e w' => e = .returned (.bool (numB c)) ∧ w = w' := by
  by_cases h1 : 48 ≤ (c.toNat : Int) <;> by_cases h2 : (c.toNat : Int) ≤ 57
  all_goals
    go_enter Tryz.func125, Tryz.ntmps125
    go_wp2_with fail
    go_ret
    exact ⟨ret_bool (by unfold numB; simp; omega), rfl⟩
theorem tag_both (c : UInt8) (w : World) : Calls Tryz.prog 127 #[.int .u8 c.toNat] w fun e w' => e = .returned (.bool (bothB c)) ∧ w = w' := by
  go_enter Tryz.func127, Tryz.ntmps127
  go_wp2_with fail
  refine (tag_low c _).mono ?_
  cases h : lowB c
  · rintro e w1 ⟨rfl, rfl⟩
    go_wp2_with fail
    refine (tag_digit c _).mono ?_
    rintro e w1 ⟨rfl, rfl⟩
    go_wp2_with fail
    go_ret
    exact ⟨ret_bool (by unfold bothB; rw [h]; rfl), rfl⟩
  · rintro e w1 ⟨rfl, rfl⟩
    go_wp2_with fail
    go_ret
    exact ⟨ret_bool (by unfold bothB; rw [h]; rfl), rfl⟩

def MadeOk (kv : Value) (P : UInt8 → Bool) : Prop := ∀ (s : ByteArray) (a b : Nat) (w : World), s.size ≤ 9223372036854775807 → a ≤ 100 → b ≤ 100 →
    Calls Tryz.prog 82 #[kv, .string s, .int .i64 a, .int .i64 b] w fun e w' => e = .returned (.bool (madeB P s.data.toList a b)) ∧ w = w'
theorem all_take_succ {l : List UInt8} {P : UInt8 → Bool} {k : Nat} {c : UInt8} (h : l[k]? = some c) (hp : (l.take k).all P = true) : (l.take (k + 1)).all P = P c := by
  rw [List.take_add_one, h, List.all_append, hp]; simp
theorem all_not {l : List UInt8} {P : UInt8 → Bool} {k : Nat} {c : UInt8} (h : l[k]? = some c) (hp : P c = false) : l.all P = false := by
  have hm := List.mem_of_getElem? h
  cases hh : l.all P
  · rfl
  · have := List.all_eq_true.1 hh c hm
    rw [hp] at this; cases this
theorem made_low : MadeOk (.func (.func 81) #[] #[]) lowB := by
  intro s a b w hs ha hb
  have HF := Lib.hid tag_low
  go_enter Tryz.func82, Tryz.ntmps82
  go_wp2_with fail
  go_loop [12] (fun i => ∃ k : Nat, k ≤ s.size ∧ i = .int .i64 k ∧ Hid ((s.data.toList.take k).all lowB = true)) (fun i => s.size - (intOf i).toNat)
  case atStart => exact ⟨0, Nat.zero_le _, rfl, Lib.hid rfl⟩
  case round =>
    obtain ⟨k, hk, rfl, HP⟩ := hrel
    by_cases hlt : k < s.size
    · have hg : s.data.toList[k]? = some s[k] := by
        rw [List.getElem?_eq_getElem (by simpa using hlt)]; rfl
      have HG := Lib.hid hg
      clear hg
      have i0 : (0 : Int) ≤ (k : Int) := by omega
      have i1 : (k : Int) < (s.size : Int) := by omega
      cases hp : lowB s[k]
      · have HC := Lib.hid (all_not HG.out hp)
        have HF2 := Lib.hid (fun W => by have := HF.out s[k] W; rw [hp] at this; exact this)
        clear hp
        go_wp2_with fail
        refine (HF2.out _).mono ?_
        rintro e w1 ⟨rfl, rfl⟩
        go_wp2_with fail
        go_ret
        exact ⟨ret_bool (by unfold madeB; rw [HC.out]; rfl), rfl⟩
      · have HC := Lib.hid ((all_take_succ HG.out HP.out).trans hp)
        have HF2 := Lib.hid (fun W => by have := HF.out s[k] W; rw [hp] at this; exact this)
        clear hp
        go_wp2_with fail
        refine (HF2.out _).mono ?_
        rintro e w1 ⟨rfl, rfl⟩
        go_wp2_with fail
        go_round
        case rel => exact ⟨k + 1, by omega, by go_num, HC⟩
        case measure => simp [intOf]; omega
    · have hall : s.data.toList.all lowB = true := by
        have := HP.out
        rwa [List.take_of_length_le (by simp; omega)] at this
      have HA := Lib.hid hall
      clear hall HP
      by_cases h1 : (a : Int) ≤ (s.size : Int) <;> by_cases h2 : (s.size : Int) ≤ (b : Int)
      all_goals
        go_wp2_with fail
        go_ret
        exact ⟨ret_bool (by unfold madeB; rw [HA.out]; simp; omega), rfl⟩
theorem made_high : MadeOk (.func (.func 124) #[] #[]) highB := by
  intro s a b w hs ha hb
  have HF := Lib.hid tag_high
  go_enter Tryz.func82, Tryz.ntmps82
  go_wp2_with fail
  go_loop [12] (fun i => ∃ k : Nat, k ≤ s.size ∧ i = .int .i64 k ∧ Hid ((s.data.toList.take k).all highB = true)) (fun i => s.size - (intOf i).toNat)
  case atStart => exact ⟨0, Nat.zero_le _, rfl, Lib.hid rfl⟩
  case round =>
    obtain ⟨k, hk, rfl, HP⟩ := hrel
    by_cases hlt : k < s.size
    · have hg : s.data.toList[k]? = some s[k] := by
        rw [List.getElem?_eq_getElem (by simpa using hlt)]; rfl
      have HG := Lib.hid hg
      clear hg
      have i0 : (0 : Int) ≤ (k : Int) := by omega
      have i1 : (k : Int) < (s.size : Int) := by omega
      cases hp : highB s[k]
      · have HC := Lib.hid (all_not HG.out hp)
        have HF2 := Lib.hid (fun W => by have := HF.out s[k] W; rw [hp] at this; exact this)
        clear hp
        go_wp2_with fail
        refine (HF2.out _).mono ?_
        rintro e w1 ⟨rfl, rfl⟩
        go_wp2_with fail
        go_ret
        exact ⟨ret_bool (by unfold madeB; rw [HC.out]; rfl), rfl⟩
      · have HC := Lib.hid ((all_take_succ HG.out HP.out).trans hp)
        have HF2 := Lib.hid (fun W => by have := HF.out s[k] W; rw [hp] at this; exact this)
        clear hp
        go_wp2_with fail
        refine (HF2.out _).mono ?_
        rintro e w1 ⟨rfl, rfl⟩
        go_wp2_with fail
        go_round
        case rel => exact ⟨k + 1, by omega, by go_num, HC⟩
        case measure => simp [intOf]; omega
    · have hall : s.data.toList.all highB = true := by
        have := HP.out
        rwa [List.take_of_length_le (by simp; omega)] at this
      have HA := Lib.hid hall
      clear hall HP
      by_cases h1 : (a : Int) ≤ (s.size : Int) <;> by_cases h2 : (s.size : Int) ≤ (b : Int)
      all_goals
        go_wp2_with fail
        go_ret
        exact ⟨ret_bool (by unfold madeB; rw [HA.out]; simp; omega), rfl⟩
theorem made_digit : MadeOk (.func (.func 125) #[] #[]) numB := by
  intro s a b w hs ha hb
  have HF := Lib.hid tag_digit
  go_enter Tryz.func82, Tryz.ntmps82
  go_wp2_with fail
  go_loop [12] (fun i => ∃ k : Nat, k ≤ s.size ∧ i = .int .i64 k ∧ Hid ((s.data.toList.take k).all numB = true)) (fun i => s.size - (intOf i).toNat)
  case atStart => exact ⟨0, Nat.zero_le _, rfl, Lib.hid rfl⟩
  case round =>
    obtain ⟨k, hk, rfl, HP⟩ := hrel
    by_cases hlt : k < s.size
    · have hg : s.data.toList[k]? = some s[k] := by
        rw [List.getElem?_eq_getElem (by simpa using hlt)]; rfl
      have HG := Lib.hid hg
      clear hg
      have i0 : (0 : Int) ≤ (k : Int) := by omega
      have i1 : (k : Int) < (s.size : Int) := by omega
      cases hp : numB s[k]
      · have HC := Lib.hid (all_not HG.out hp)
        have HF2 := Lib.hid (fun W => by have := HF.out s[k] W; rw [hp] at this; exact this)
        clear hp
        go_wp2_with fail
        refine (HF2.out _).mono ?_
        rintro e w1 ⟨rfl, rfl⟩
        go_wp2_with fail
        go_ret
        exact ⟨ret_bool (by unfold madeB; rw [HC.out]; rfl), rfl⟩
      · have HC := Lib.hid ((all_take_succ HG.out HP.out).trans hp)
        have HF2 := Lib.hid (fun W => by have := HF.out s[k] W; rw [hp] at this; exact this)
        clear hp
        go_wp2_with fail
        refine (HF2.out _).mono ?_
        rintro e w1 ⟨rfl, rfl⟩
        go_wp2_with fail
        go_round
        case rel => exact ⟨k + 1, by omega, by go_num, HC⟩
        case measure => simp [intOf]; omega
    · have hall : s.data.toList.all numB = true := by
        have := HP.out
        rwa [List.take_of_length_le (by simp; omega)] at this
      have HA := Lib.hid hall
      clear hall HP
      by_cases h1 : (a : Int) ≤ (s.size : Int) <;> by_cases h2 : (s.size : Int) ≤ (b : Int)
      all_goals
        go_wp2_with fail
        go_ret
        exact ⟨ret_bool (by unfold madeB; rw [HA.out]; simp; omega), rfl⟩
theorem made_both : MadeOk (.func (.func 127) #[] #[]) bothB := by
  intro s a b w hs ha hb
  have HF := Lib.hid tag_both
  go_enter Tryz.func82, Tryz.ntmps82
  go_wp2_with fail
  go_loop [12] (fun i => ∃ k : Nat, k ≤ s.size ∧ i = .int .i64 k ∧ Hid ((s.data.toList.take k).all bothB = true)) (fun i => s.size - (intOf i).toNat)
  case atStart => exact ⟨0, Nat.zero_le _, rfl, Lib.hid rfl⟩
  case round =>
    obtain ⟨k, hk, rfl, HP⟩ := hrel
    by_cases hlt : k < s.size
    · have hg : s.data.toList[k]? = some s[k] := by
        rw [List.getElem?_eq_getElem (by simpa using hlt)]; rfl
      have HG := Lib.hid hg
      clear hg
      have i0 : (0 : Int) ≤ (k : Int) := by omega
      have i1 : (k : Int) < (s.size : Int) := by omega
      cases hp : bothB s[k]
      · have HC := Lib.hid (all_not HG.out hp)
        have HF2 := Lib.hid (fun W => by have := HF.out s[k] W; rw [hp] at this; exact this)
        clear hp
        go_wp2_with fail
        refine (HF2.out _).mono ?_
        rintro e w1 ⟨rfl, rfl⟩
        go_wp2_with fail
        go_ret
        exact ⟨ret_bool (by unfold madeB; rw [HC.out]; rfl), rfl⟩
      · have HC := Lib.hid ((all_take_succ HG.out HP.out).trans hp)
        have HF2 := Lib.hid (fun W => by have := HF.out s[k] W; rw [hp] at this; exact this)
        clear hp
        go_wp2_with fail
        refine (HF2.out _).mono ?_
        rintro e w1 ⟨rfl, rfl⟩
        go_wp2_with fail
        go_round
        case rel => exact ⟨k + 1, by omega, by go_num, HC⟩
        case measure => simp [intOf]; omega
    · have hall : s.data.toList.all bothB = true := by
        have := HP.out
        rwa [List.take_of_length_le (by simp; omega)] at this
      have HA := Lib.hid hall
      clear hall HP
      by_cases h1 : (a : Int) ≤ (s.size : Int) <;> by_cases h2 : (s.size : Int) ≤ (b : Int)
      all_goals
        go_wp2_with fail
        go_ret
        exact ⟨ret_bool (by unfold madeB; rw [HA.out]; simp; omega), rfl⟩
end Go.Proofs.YtnhlnhmjnnopaaaGreatDoor
