/- The digits of a number as bytes; how many. No program stands here. -/
import Derived.Test.YthlcjlmaaaappaaDoorDigitsPlain
import Derived.Test.YthlcjlmaaaappaaDoorDecPlain
namespace Go.Proofs.YthlcjlmaaaappaaDoor
open Go

theorem decDigits_size : ∀ (k m : Nat), m < 10 ^ k → 1 ≤ k → (Lib.decDigits m).length ≤ k := by
  intro k
  induction k with
  | zero => intro m _ h; omega
  | succ k ih =>
    intro m h _
    rw [Lib.decDigits]
    split
    · simp
    · rename_i h10
      have hk : 1 ≤ k := by
        rcases Nat.eq_zero_or_pos k with rfl | h0
        · simp at h; omega
        · exact h0
      have := ih (m / 10) (by rw [Nat.pow_succ] at h; omega) hk
      rw [List.length_append]
      simp
      omega

/-- The digits of a number's size. -/
def ddB (n : Int) : ByteArray := ⟨(Lib.decDigits n.natAbs).toArray⟩
def itB (n : Int) : ByteArray := ⟨(Lib.itoa n).toArray⟩
theorem ddB_size (n : Int) (h : decOk n 0) : 1 ≤ (ddB n).size ∧ (ddB n).size ≤ 16 := by
  obtain ⟨_, _, h1, h2⟩ := h
  exact ⟨dd_one _, decDigits_size 16 _ (by omega) (by omega)⟩
theorem itB_neg (n : Int) (h : n < 0) : itB n = ⟨#[45]⟩ ++ ddB n := by
  unfold itB ddB
  rw [itoa_neg' n h]
  apply ByteArray.ext
  apply Array.ext'
  simp
theorem itB_pos (n : Int) (h : ¬ n < 0) : itB n = ⟨#[]⟩ ++ ddB n := by
  unfold itB ddB
  rw [itoa_pos' n h]
  apply ByteArray.ext
  apply Array.ext'
  simp
end Go.Proofs.YthlcjlmaaaappaaDoor
