/- Messages as trees: what lies in the world, how many nodes there are, the first fault. -/
import Derived.Test.YthlcjlmaaaappaaDoorCaseErr
import Derived.Test.YthlcjlmaaaappaaDoorMsgSize
namespace Go.Proofs.YthlcjlmaaaappaaDoor
open Go.RowKit

/-- a node: its kind, its text, its offset, its cases -/
inductive Nd where
  | mk (kd : Int) (t : ByteArray) (off : Int) (cs : List (ByteArray × List Nd))
namespace Nd
def kd : Nd → Int | mk k _ _ _ => k
def t : Nd → ByteArray | mk _ t _ _ => t
def off : Nd → Int | mk _ _ o _ => o
def cs : Nd → List (ByteArray × List Nd) | mk _ _ _ c => c
end Nd

/-- a row of cases lies there; P is said of each body -/
def CasesN (P : Value → List Nd → Prop) (w : World) (v : Value) (cs : List (ByteArray × List Nd)) : Prop :=
  ∃ A c, v = .slice A cs.length c ∧ cs.length ≤ c ∧ c ≤ 9223372036854775807 ∧ cs.length ≤ 3518437208800 ∧
    (cs = [] ∨ ∃ b o, A = some ⟨b, o, none⟩ ∧ ∀ (j : Nat) k, cs[j]? = some k → k.1.size ≤ 140737488355328 ∧ w.cell? ⟨b, o + j * 2, none⟩ = some (.string k.1) ∧ ∃ vb, w.cell? ⟨b, o + j * 2 + 1, none⟩ = some vb ∧ P vb k.2)
/-- what is said of a node at a place; P is said of its cases' bodies -/
def NdAt (P : Value → List Nd → Prop) (w : World) (b o : Nat) (x : Nd) : Prop :=
  x.t.size ≤ 140737488355328 ∧ (-9223372036854775808 ≤ x.off ∧ x.off ≤ 9223372036854775807) ∧ (-9223372036854775808 ≤ x.kd ∧ x.kd ≤ 9223372036854775807) ∧
  w.cell? ⟨b, o, none⟩ = some (.int .i64 x.kd) ∧ w.cell? ⟨b, o + 1, none⟩ = some (.string x.t) ∧ w.cell? ⟨b, o + 2, none⟩ = some (.int .i64 x.off) ∧ ∃ vc, w.cell? ⟨b, o + 3, none⟩ = some vc ∧ CasesN P w vc x.cs
/-- a row of nodes lies there, no higher than f -/
def NodesIn : Nat → World → Value → List Nd → Prop
  | 0, _, v, ms => ms = [] ∧ ∃ A c, v = .slice A 0 c ∧ c ≤ 9223372036854775807
  | f + 1, w, v, ms => ∃ A c, v = .slice A ms.length c ∧ ms.length ≤ c ∧ c ≤ 9223372036854775807 ∧ ms.length ≤ 3518437208800 ∧
      (ms = [] ∨ ∃ b o, A = some ⟨b, o, none⟩ ∧ ∀ (j : Nat) x, ms[j]? = some x → NdAt (NodesIn f w) w b (o + j * 4) x)

theorem CasesN.mono {P Q : Value → List Nd → Prop} {w w' : World} {v : Value} {cs : List (ByteArray × List Nd)} (h : CasesN P w v cs) (hb : Below w.heap.size w w') (hP : ∀ v ms, P v ms → Q v ms) : CasesN Q w' v cs := by
  obtain ⟨A, c, h1, h2, h3, h4, h5⟩ := h
  refine ⟨A, c, h1, h2, h3, h4, ?_⟩
  rcases h5 with h5 | ⟨b, o, h6, h7⟩
  · exact .inl h5
  · refine .inr ⟨b, o, h6, fun j k hk => ?_⟩
    obtain ⟨k1, k2, vb, k3, k4⟩ := h7 j k hk
    exact ⟨k1, carry hb k2, vb, carry hb k3, hP _ _ k4⟩
theorem NdAt.mono {P Q : Value → List Nd → Prop} {w w' : World} {b o : Nat} {x : Nd} (h : NdAt P w b o x) (hb : Below w.heap.size w w') (hP : ∀ v ms, P v ms → Q v ms) : NdAt Q w' b o x := by
  obtain ⟨h1, h2, h3, h4, h5, h6, vc, h7, h8⟩ := h
  exact ⟨h1, h2, h3, carry hb h4, carry hb h5, carry hb h6, vc, carry hb h7, h8.mono hb hP⟩
theorem NodesIn.below {w w' : World} (hb : Below w.heap.size w w') : ∀ (f : Nat) {v : Value} {ms : List Nd}, NodesIn f w v ms → NodesIn f w' v ms
  | 0, _, _, h => h
  | f + 1, v, ms, ⟨A, c, h1, h2, h3, h4, h5⟩ => by
    refine ⟨A, c, h1, h2, h3, h4, ?_⟩
    rcases h5 with h5 | ⟨b, o, h6, h7⟩
    · exact .inl h5
    · exact .inr ⟨b, o, h6, fun j x hx => (h7 j x hx).mono hb fun v ms => NodesIn.below hb f⟩
theorem NodesIn.form {w : World} : ∀ {f : Nat} {v : Value} {ms : List Nd}, NodesIn f w v ms → ∃ A c, v = .slice A ms.length c ∧ ms.length ≤ c ∧ c ≤ 9223372036854775807 ∧ ms.length ≤ 3518437208800
  | 0, _, _, ⟨h, A, c, h1, h2⟩ => ⟨A, c, by rw [h]; exact h1, by rw [h]; exact Nat.zero_le _, h2, by rw [h]; exact Nat.zero_le _⟩
  | _ + 1, _, _, ⟨A, c, h1, h2, h3, h4, _⟩ => ⟨A, c, h1, h2, h3, h4⟩
theorem NodesIn.up {w : World} : ∀ (f : Nat) {v : Value} {ms : List Nd}, NodesIn f w v ms → NodesIn (f + 1) w v ms
  | 0, v, ms, ⟨h, A, c, h1, h2⟩ => ⟨A, c, by rw [h]; exact h1, by rw [h]; exact Nat.zero_le _, h2, by rw [h]; exact Nat.zero_le _, .inl h⟩
  | f + 1, v, ms, ⟨A, c, h1, h2, h3, h4, h5⟩ => by
    refine ⟨A, c, h1, h2, h3, h4, ?_⟩
    rcases h5 with h5 | ⟨b, o, h6, h7⟩
    · exact .inl h5
    · exact .inr ⟨b, o, h6, fun j x hx => (h7 j x hx).mono (Below.refl _ _) fun v ms => NodesIn.up f⟩
theorem NodesIn.le {w : World} {f g : Nat} {v : Value} {ms : List Nd} (h : NodesIn f w v ms) (hg : f ≤ g) : NodesIn g w v ms := by
  induction hg with
  | refl => exact h
  | step _ ih => exact NodesIn.up _ ih
theorem NodesIn.at {w : World} {f : Nat} {A : Option Addr} {n c : Nat} {ms : List Nd} (h : NodesIn (f + 1) w (.slice A n c) ms) (hp : 0 < ms.length) : ∃ b o, A = some ⟨b, o, none⟩ ∧ ∀ (j : Nat) x, ms[j]? = some x → NdAt (NodesIn f w) w b (o + j * 4) x := by
  obtain ⟨A', c', h1, h2, h3, h4, h5⟩ := h
  cases h1
  rcases h5 with h5 | h5
  · rw [h5] at hp; simp at hp
  · exact h5
theorem CasesN.at {P : Value → List Nd → Prop} {w : World} {A : Option Addr} {n c : Nat} {cs : List (ByteArray × List Nd)} (h : CasesN P w (.slice A n c) cs) (hp : 0 < cs.length) :
    ∃ b o, A = some ⟨b, o, none⟩ ∧ ∀ (j : Nat) k, cs[j]? = some k → k.1.size ≤ 140737488355328 ∧ w.cell? ⟨b, o + j * 2, none⟩ = some (.string k.1) ∧ ∃ vb, w.cell? ⟨b, o + j * 2 + 1, none⟩ = some vb ∧ P vb k.2 := by
  obtain ⟨A', c', h1, h2, h3, h4, h5⟩ := h
  cases h1
  rcases h5 with h5 | h5
  · rw [h5] at hp; simp at hp
  · exact h5
theorem CasesN.form {P : Value → List Nd → Prop} {w : World} {v : Value} {cs : List (ByteArray × List Nd)} (h : CasesN P w v cs) : ∃ A c, v = .slice A cs.length c ∧ cs.length ≤ c ∧ c ≤ 9223372036854775807 ∧ cs.length ≤ 3518437208800 := by
  obtain ⟨A', c', h1, h2, h3, h4, h5⟩ := h
  exact ⟨A', c', h1, h2, h3, h4⟩

/-- the cases that msg.Cases tells -/
def casesOf (x : Nd) : List (ByteArray × List Nd) := if x.kd = 4 ∨ x.kd = 5 then x.cs else []
def flatC (ms : List Nd) : List (ByteArray × List Nd) := ms.flatMap casesOf

/-- msg.size, in plain terms -/
def runSz (g : List Nd → Nat × Bool) : Nat → List (ByteArray × List Nd) → Nat × Bool
  | n, [] => (n, decide (60 < n))
  | n, c :: r => if (g c.2).2 || decide (60 < n + (g c.2).1) then (n + (g c.2).1, true) else runSz g (n + (g c.2).1) r
def sizeP : Nat → List Nd → Nat → Nat × Bool
  | 0, _, _ => (0, false)
  | f + 1, ms, deep => if 6 ≤ deep ∧ 0 < ms.length then (0, true) else runSz (fun b => sizeP f b (deep + 1)) ms.length (flatC ms)

/-- msg.fine, in plain terms -/
def fineB (kd : Int) (t : ByteArray) (prev : Option Int) (mark : Bool) : Bool :=
  if kd = 1 then !t.toList.isEmpty && !(prev == some 1) else if kd = 2 ∨ kd = 3 ∨ kd = 4 ∨ kd = 5 then nameB t.data.toList else decide (kd = 6) && mark
/-- msg.cases, in plain terms -/
def casesP (g : List Nd → Bool → Int) (kd : Int) (mark : Bool) : List ByteArray → List (ByteArray × List Nd) → Int
  | seen, [] => if Lib.containsS seen otherS then 0 else 2
  | seen, k :: r => if keyB kd k.1 then (if Lib.containsS seen k.1 then 5 else if g k.2 (mark || decide (kd = 4)) = 0 then casesP g kd mark (seen ++ [k.1]) r else g k.2 (mark || decide (kd = 4))) else 3
def nodeP (g : List Nd → Bool → Int) (prev : Option Int) (x : Nd) (mark : Bool) : Int :=
  if fineB x.kd x.t prev mark then (if x.kd = 4 ∧ (x.off < 0 ∨ 9 < x.off) then 1 else if x.kd = 4 ∨ x.kd = 5 then casesP g x.kd mark [] x.cs else 0) else 3
/-- msg.check, in plain terms -/
def checkGo (g : List Nd → Bool → Int) (mark : Bool) : Option Int → List Nd → Int
  | _, [] => 0
  | prev, x :: r => if nodeP g prev x mark = 0 then checkGo g mark (some x.kd) r else nodeP g prev x mark
def checkP : Nat → List Nd → Bool → Int
  | 0, _, _ => 0
  | f + 1, ms, mark => checkGo (checkP f) mark none ms
/-- msg.Check, in plain terms -/
def msgP (f : Nat) (ms : List Nd) : Int := if (sizeP f ms 0).2 then 4 else checkP f ms false
end Go.Proofs.YthlcjlmaaaappaaDoor
