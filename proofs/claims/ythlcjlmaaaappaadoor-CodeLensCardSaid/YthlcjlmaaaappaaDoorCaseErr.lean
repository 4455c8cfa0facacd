/- The first fault of a node's cases, in plain terms. -/
import Derived.Test.YthlcjlmaaaappaaDoorMsgKey
namespace Go.Proofs.YthlcjlmaaaappaaDoor

def otherS : ByteArray := ⟨#[111, 116, 104, 101, 114]⟩
def caseErr (kd : Int) : List ByteArray → List ByteArray → Int
  | seen, [] => if Lib.containsS seen otherS then 0 else 2
  | seen, k :: r => if keyB kd k then (if Lib.containsS seen k then 5 else caseErr kd (seen ++ [k]) r) else 3
theorem caseErr_step (kd : Int) (ks : List ByteArray) (j : Nat) (x : ByteArray) (h : ks[j]? = some x) :
    caseErr kd (ks.take j) (ks.drop j) = if keyB kd x then (if Lib.containsS (ks.take j) x then 5 else caseErr kd (ks.take (j + 1)) (ks.drop (j + 1))) else 3 := by
  have hlt : j < ks.length := (List.getElem?_eq_some_iff.1 h).1
  have hd : ks.drop j = x :: ks.drop (j + 1) := by
    rw [List.drop_eq_getElem_cons hlt]
    congr 1
    exact (List.getElem?_eq_some_iff.1 h).2
  have ht : ks.take (j + 1) = ks.take j ++ [x] := by rw [List.take_add_one, h]; rfl
  rw [hd, ht, caseErr]
end Go.Proofs.YthlcjlmaaaappaaDoor
