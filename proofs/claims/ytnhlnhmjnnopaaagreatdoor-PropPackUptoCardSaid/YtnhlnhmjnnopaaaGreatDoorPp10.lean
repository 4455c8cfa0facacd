/- CmpPlain: texts put together. -/
import Derived.Lib.Bytealg
import Derived.Shelf.SlSortCmp.Insertion
set_option linter.unusedVariables false
set_option linter.unusedSimpArgs false
/- strings.Compare below nought is a strict weak order. -/
namespace Go.Proofs.YtnhlnhmjnnopaaaGreatDoor
open Go.Lib Go.Sort

theorem cmpB_irr : ∀ a : List UInt8, compareBytes a a = 0
  | [] => rfl
  | x :: a => by
    unfold compareBytes
    rw [if_neg (UInt8.lt_irrefl x), if_neg (UInt8.lt_irrefl x)]
    exact cmpB_irr a
theorem cmpB_lt : ∀ a b c : List UInt8, compareBytes a b < 0 → compareBytes b c < 0 → compareBytes a c < 0
  | [], _, [], h1, h2 => by
    rename_i b
    cases b with
    | nil => exact h1
    | cons y b => simp [compareBytes] at h2
  | [], _, _ :: _, _, _ => by simp [compareBytes]
  | x :: a, [], c, h1, _ => by simp [compareBytes] at h1
  | x :: a, y :: b, [], _, h2 => by simp [compareBytes] at h2
  | x :: a, y :: b, z :: c, h1, h2 => by
    unfold compareBytes at *
    have ih := cmpB_lt a b c
    simp only [UInt8.lt_iff_toNat_lt] at *
    split at h1
    · split at h2
      · rw [if_pos (by omega)]; decide
      · split at h2
        · omega
        · rw [if_pos (by omega)]; decide
    · split at h1
      · omega
      · split at h2
        · rw [if_pos (by omega)]; decide
        · split at h2
          · omega
          · rw [if_neg (by omega), if_neg (by omega)]
            exact ih h1 h2
theorem cmpB_ge : ∀ a b c : List UInt8, ¬ compareBytes a b < 0 → ¬ compareBytes b c < 0 → ¬ compareBytes a c < 0
  | [], [], c, _, h2 => h2
  | [], _ :: _, c, h1, _ => by simp [compareBytes] at h1
  | x :: a, b, [], _, _ => by simp [compareBytes]
  | x :: a, [], z :: c, _, h2 => by simp [compareBytes] at h2
  | x :: a, y :: b, z :: c, h1, h2 => by
    unfold compareBytes at *
    have ih := cmpB_ge a b c
    simp only [UInt8.lt_iff_toNat_lt] at *
    split at h1
    · omega
    · split at h1
      · split at h2
        · omega
        · rw [if_neg (by omega), if_pos (by omega)]; decide
      · split at h2
        · omega
        · split at h2
          · rw [if_neg (by omega), if_pos (by omega)]; decide
          · rw [if_neg (by omega), if_neg (by omega)]
            exact ih h1 h2
theorem swo_cmp {α : Type} (f : α → List UInt8) : SWO (Go.Proofs.ltOf fun x y : α => compareBytes (f x) (f y)) where
  irrefl x := by show decide (compareBytes (f x) (f x) < 0) = false; rw [cmpB_irr]; decide
  trans x y z h1 h2 := by
    unfold ltOf at *
    rw [decide_eq_true_iff] at *
    exact cmpB_lt _ _ _ h1 h2
  ntrans x y z h1 h2 := by
    unfold ltOf at *
    rw [decide_eq_false_iff_not] at *
    exact cmpB_ge _ _ _ h1 h2
end Go.Proofs.YtnhlnhmjnnopaaaGreatDoor
