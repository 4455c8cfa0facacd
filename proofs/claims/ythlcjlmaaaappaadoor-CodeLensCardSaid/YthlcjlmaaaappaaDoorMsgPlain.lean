/- A message's names, in plain terms. -/
import Derived.Test.YthlcjlmaaaappaaDoorOnlyPlain
import Derived.Lib.IndexAny
namespace Go.Proofs.YthlcjlmaaaappaaDoor

def lowS : ByteArray := ⟨#[97, 98, 99, 100, 101, 102, 103, 104, 105, 106, 107, 108, 109, 110, 111, 112, 113, 114, 115, 116, 117, 118, 119, 120, 121, 122]⟩
def namS : ByteArray := ⟨#[97, 98, 99, 100, 101, 102, 103, 104, 105, 106, 107, 108, 109, 110, 111, 112, 113, 114, 115, 116, 117, 118, 119, 120, 121, 122, 48, 49, 50, 51, 52, 53, 54, 55, 56, 57, 95]⟩
/-- Whether a text is a name. -/
def nameB (l : List UInt8) : Bool := decide (1 ≤ l.length) && decide (l.length ≤ 20) && l.all (namS.data.toList.contains ·) && lowS.data.toList.contains (l.getD 0 0)
theorem nameB_zero : nameB [] = false := rfl
theorem nameB_long {l : List UInt8} (h : ¬ l.length ≤ 20) : nameB l = false := by
  unfold nameB
  rw [decide_eq_false h, Bool.and_false, Bool.false_and, Bool.false_and]
theorem nameB_bad {l : List UInt8} (h : l.all (namS.data.toList.contains ·) = false) : nameB l = false := by
  unfold nameB
  rw [h, Bool.and_false, Bool.false_and]
theorem nameB_head {l : List UInt8} (h1 : 1 ≤ l.length) (h2 : l.length ≤ 20) (h : l.all (namS.data.toList.contains ·) = true) : nameB l = lowS.data.toList.contains (l.getD 0 0) := by
  unfold nameB
  rw [h, decide_eq_true h1, decide_eq_true h2, Bool.and_true, Bool.and_true, Bool.true_and]
theorem namS_ascii : ∀ (j : Nat) (b : UInt8), namS.data.toList[j]? = some b → b.toNat < 128 := by
  intro j b h
  have hm := List.mem_of_getElem? h
  have : ∀ x ∈ namS.data.toList, x.toNat < 128 := by decide
  exact this b hm
theorem low_idx (c : UInt8) : lowS.data.toList.contains c = true → 0 ≤ Lib.indexByte lowS.data.toList c := by
  intro h
  rw [Lib.contains_iff_indexByte] at h
  exact of_decide_eq_true h
theorem low_no (c : UInt8) : lowS.data.toList.contains c = false → ¬ 0 ≤ Lib.indexByte lowS.data.toList c := by
  intro h
  rw [Lib.contains_iff_indexByte] at h
  exact of_decide_eq_false h
theorem name_only (l : List UInt8) (h : 1 ≤ l.length) : (onlyB l namS.data.toList 1 20 && onlyB (l.take 1) lowS.data.toList 1 1) = nameB l := by
  cases l with
  | nil => simp at h
  | cons c r =>
    unfold nameB onlyB
    simp only [List.take_succ_cons, List.take_zero, List.all_cons, List.all_nil, List.length_cons, List.length_nil, List.getD_cons_zero, Bool.and_true]
    have e1 : decide ((1 : Int) ≤ ((r.length + 1 : Nat) : Int)) = true := decide_eq_true (by omega)
    have e2 : decide (1 ≤ r.length + 1) = true := decide_eq_true (by omega)
    have e3 : decide (((r.length + 1 : Nat) : Int) ≤ 20) = decide (r.length + 1 ≤ 20) := by
      rw [decide_eq_decide]; omega
    rw [e1, e2, e3]
    cases namS.data.toList.contains c <;> cases lowS.data.toList.contains c <;> cases decide (r.length + 1 ≤ 20) <;> cases r.all (namS.data.toList.contains ·) <;> rfl
end Go.Proofs.YthlcjlmaaaappaaDoor
