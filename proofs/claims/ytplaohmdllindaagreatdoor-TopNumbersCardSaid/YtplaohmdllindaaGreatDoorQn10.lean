/- MsgKey, CaseErr, MsgSize, Tree, Need, SizeT, MsgFine, FineT, CasesT, MsgCasesF: texts put together. -/
import Derived.Test.YtplaohmdllindaaGreatDoorQn3
import Derived.Test.YtplaohmdllindaaGreatDoorQn9
import Derived.Test.YtplaohmdllindaaGreatDoorQn1
set_option linter.unusedVariables false
set_option linter.unusedSimpArgs false
/- msg.key. -/
namespace Go.Proofs.YtplaohmdllindaaGreatDoor
open Go.RowKit

def kinds6 : List ByteArray := [⟨#[122, 101, 114, 111]⟩, ⟨#[111, 110, 101]⟩, ⟨#[116, 119, 111]⟩, ⟨#[102, 101, 119]⟩, ⟨#[109, 97, 110, 121]⟩, ⟨#[111, 116, 104, 101, 114]⟩]
/-- The six kinds lie in the world. -/
def MKinds (w : World) : Prop := ∃ b o c : Nat, w.cell? ⟨4, 0, none⟩ = some (.slice (some ⟨b, o, none⟩) 6 c) ∧ ∀ j, j < 6 → w.cell? ⟨b, o + j, none⟩ = some (.string (kinds6.getD j ⟨#[]⟩))
theorem MKinds.below {w w' : World} (h : MKinds w) (hb : Below w.heap.size w w') : MKinds w' := by
  obtain ⟨b, o, c, h1, h2⟩ := h
  exact ⟨b, o, c, carry hb h1, fun j hj => carry hb (h2 j hj)⟩
/-- Whether a key is right of a node of that kind. -/
def keyB (kd : Int) (k : ByteArray) : Bool := if kd = 5 then nameB k.data.toList else Lib.containsS kinds6 k || decide (0 ≤ exC k.data.toList)

theorem msg_key (kd off : Int) (t k : ByteArray) (A : Option Addr) (n c : Nat) (w : World) (hE : RuleEnv w) (hK : MKinds w) (hk : k.size ≤ 281474976710656) :
    Calls Tryz.prog 187 #[.agg #[.int .i64 kd, .string t, .int .i64 off, .slice A n c], .string k] w fun e w' => e = .returned (.bool (keyB kd k)) ∧ Below w.heap.size w w' := by
  by_cases h5 : kd = 5
  · subst h5
    have HD : Hid (keyB 5 k = nameB k.data.toList) := Lib.hid rfl
    clear hE hK
    go_enter Tryz.func187, Tryz.ntmps187
    go_wp2_with fail
    refine (name_code k _ (by omega)).mono ?_
    rintro e w1 ⟨rfl, hb1⟩
    go_wp2_with fail
    go_ret
    exact ⟨ret_bool HD.out.symm, belx⟩
  · have HD : Hid (keyB kd k = (Lib.containsS kinds6 k || decide (0 ≤ exC k.data.toList))) := Lib.hid (if_neg h5)
    obtain ⟨b, o, c6, hg, hc⟩ := hK
    have hb0 : Below w.heap.size w (w.alloc (.cells #[.int .i64 kd, .string t, .int .i64 off, .slice A n c] 51)) := belx
    have hg1 := carry hb0 hg
    have HE := Lib.hid (hE.below hb0)
    have HC := Lib.hid (fun W => Tryz.slices_Contains_string b o 6 c6 kinds6 k W (by decide) (by omega))
    have HX := Lib.hid (fun (W : World) (hW : Below w.heap.size w W) j (hj : j < kinds6.length) => (carry hW (hc j hj) : W.cell? ⟨b, o + j, none⟩ = some (.string (kinds6.getD j ByteArray.empty))))
    clear hE hc hg
    have HB0 := Lib.hid hb0
    clear hb0
    cases hin : Lib.containsS kinds6 k
    · have HI := Lib.hid hin
      rw [hin, Bool.false_or] at HD
      have hdec : Hid ((0 ≤ exC k.data.toList ∧ decide (0 ≤ exC k.data.toList) = true) ∨ (¬ 0 ≤ exC k.data.toList ∧ decide (0 ≤ exC k.data.toList) = false)) := by
        refine Lib.hid ?_
        by_cases h : 0 ≤ exC k.data.toList
        · exact .inl ⟨h, decide_eq_true h⟩
        · exact .inr ⟨h, decide_eq_false h⟩
      clear hin
      go_enter Tryz.func187, Tryz.ntmps187
      go_wp2_with fail
      refine (HC.out _ (HX.out _ HB0.out)).mono ?_
      rintro e w1 ⟨rfl, rfl⟩
      rw [show kinds6.take 6 = kinds6 from rfl, HI.out]
      go_wp2_with fail
      refine (msg_exact k _ HE.out hk).mono ?_
      rintro e w2 ⟨rfl, hb2⟩
      have hb : Below w.heap.size w w2 := HB0.out.trans (hb2.mono HB0.out.size)
      generalize exC k.data.toList = X at *
      rcases hdec.out with ⟨a1, a2⟩ | ⟨a1, a2⟩
      · rw [a2] at HD
        go_wp2_with fail
        go_ret
        exact ⟨ret_bool HD.out.symm, hb⟩
      · rw [a2] at HD
        go_wp2_with fail
        go_ret
        exact ⟨ret_bool HD.out.symm, hb⟩
    · have HI := Lib.hid hin
      rw [hin, Bool.true_or] at HD
      clear hin
      go_enter Tryz.func187, Tryz.ntmps187
      go_wp2_with fail
      refine (HC.out _ (HX.out _ HB0.out)).mono ?_
      rintro e w1 ⟨rfl, rfl⟩
      rw [show kinds6.take 6 = kinds6 from rfl, HI.out]
      go_wp2_with fail
      go_ret
      exact ⟨ret_bool HD.out.symm, HB0.out⟩
end Go.Proofs.YtplaohmdllindaaGreatDoor

/- The first fault of a node's cases, in plain terms. -/
namespace Go.Proofs.YtplaohmdllindaaGreatDoor

def otherS : ByteArray := ⟨#[111, 116, 104, 101, 114]⟩
end Go.Proofs.YtplaohmdllindaaGreatDoor

/- msg.Cases, msg.size at a node whose cases have no nodes. -/
namespace Go.Proofs.YtplaohmdllindaaGreatDoor
open Go.RowKit

abbrev nodeV (kd : Int) (t : ByteArray) (off : Int) (A : Option Addr) (n c : Nat) : Value := .agg #[.int .i64 kd, .string t, .int .i64 off, .slice A n c]
/-- a node lies there -/
def NodeAt (w : World) (g : Nat) (kd : Int) (t : ByteArray) (off : Int) (A : Option Addr) (n c : Nat) : Prop :=
  w.cell? ⟨g, 0, none⟩ = some (.int .i64 kd) ∧ w.cell? ⟨g, 1, none⟩ = some (.string t) ∧ w.cell? ⟨g, 2, none⟩ = some (.int .i64 off) ∧ w.cell? ⟨g, 3, none⟩ = some (.slice A n c)
theorem NodeAt.below {w w' : World} {g : Nat} {kd : Int} {t : ByteArray} {off : Int} {A : Option Addr} {n c : Nat} (h : NodeAt w g kd t off A n c) (hb : Below w.heap.size w w') : NodeAt w' g kd t off A n c :=
  ⟨carry hb h.1, carry hb h.2.1, carry hb h.2.2.1, carry hb h.2.2.2⟩

theorem msg_cases (kd off : Int) (t : ByteArray) (A : Option Addr) (n c : Nat) (w : World) (hk : kd = 4 ∨ kd = 5) :
    Calls Tryz.prog 134 #[nodeV kd t off A n c] w fun e w' => e = .returned (.slice A n c) ∧ Below w.heap.size w w' := by
  unfold nodeV
  rcases hk with rfl | rfl
  · go_enter Tryz.func134, Tryz.ntmps134
    go_wp2_with fail
    go_ret
    exact ⟨rfl, belx⟩
  · go_enter Tryz.func134, Tryz.ntmps134
    go_wp2_with fail
    go_ret
    exact ⟨rfl, belx⟩

end Go.Proofs.YtplaohmdllindaaGreatDoor

/- Messages as trees: what lies in the world, how many nodes there are, the first fault. -/
namespace Go.Proofs.YtplaohmdllindaaGreatDoor
open Go.RowKit

/-- a node: its kind, its text, its offset, its cases -/
inductive Nd where
  | mk (kd : Int) (t : ByteArray) (off : Int) (cs : List (ByteArray × List Nd))
namespace Nd
def kd : Nd → Int | mk k _ _ _ => k
def t : Nd → ByteArray | mk _ t _ _ => t
def off : Nd → Int | mk _ _ o _ => o
def cs : Nd → List (ByteArray × List Nd) | mk _ _ _ c => c
end Nd

/-- a row of cases lies there; P is said of each body -/
def CasesN (P : Value → List Nd → Prop) (w : World) (v : Value) (cs : List (ByteArray × List Nd)) : Prop :=
  ∃ A c, v = .slice A cs.length c ∧ cs.length ≤ c ∧ c ≤ 9223372036854775807 ∧ cs.length ≤ 3518437208800 ∧
    (cs = [] ∨ ∃ b o, A = some ⟨b, o, none⟩ ∧ ∀ (j : Nat) k, cs[j]? = some k → k.1.size ≤ 140737488355328 ∧ w.cell? ⟨b, o + j * 2, none⟩ = some (.string k.1) ∧ ∃ vb, w.cell? ⟨b, o + j * 2 + 1, none⟩ = some vb ∧ P vb k.2)
/-- what is said of a node at a place; P is said of its cases' bodies -/
def NdAt (P : Value → List Nd → Prop) (w : World) (b o : Nat) (x : Nd) : Prop :=
  x.t.size ≤ 140737488355328 ∧ (-9223372036854775808 ≤ x.off ∧ x.off ≤ 9223372036854775807) ∧ (-9223372036854775808 ≤ x.kd ∧ x.kd ≤ 9223372036854775807) ∧
  w.cell? ⟨b, o, none⟩ = some (.int .i64 x.kd) ∧ w.cell? ⟨b, o + 1, none⟩ = some (.string x.t) ∧ w.cell? ⟨b, o + 2, none⟩ = some (.int .i64 x.off) ∧ ∃ vc, w.cell? ⟨b, o + 3, none⟩ = some vc ∧ CasesN P w vc x.cs
/-- a row of nodes lies there, no higher than f -/
def NodesIn : Nat → World → Value → List Nd → Prop
  | 0, _, v, ms => ms = [] ∧ ∃ A c, v = .slice A 0 c ∧ c ≤ 9223372036854775807
  | f + 1, w, v, ms => ∃ A c, v = .slice A ms.length c ∧ ms.length ≤ c ∧ c ≤ 9223372036854775807 ∧ ms.length ≤ 3518437208800 ∧
      (ms = [] ∨ ∃ b o, A = some ⟨b, o, none⟩ ∧ ∀ (j : Nat) x, ms[j]? = some x → NdAt (NodesIn f w) w b (o + j * 4) x)

theorem CasesN.mono {P Q : Value → List Nd → Prop} {w w' : World} {v : Value} {cs : List (ByteArray × List Nd)} (h : CasesN P w v cs) (hb : Below w.heap.size w w') (hP : ∀ v ms, P v ms → Q v ms) : CasesN Q w' v cs := by
  obtain ⟨A, c, h1, h2, h3, h4, h5⟩ := h
  refine ⟨A, c, h1, h2, h3, h4, ?_⟩
  rcases h5 with h5 | ⟨b, o, h6, h7⟩
  · exact .inl h5
  · refine .inr ⟨b, o, h6, fun j k hk => ?_⟩
    obtain ⟨k1, k2, vb, k3, k4⟩ := h7 j k hk
    exact ⟨k1, carry hb k2, vb, carry hb k3, hP _ _ k4⟩
theorem NdAt.mono {P Q : Value → List Nd → Prop} {w w' : World} {b o : Nat} {x : Nd} (h : NdAt P w b o x) (hb : Below w.heap.size w w') (hP : ∀ v ms, P v ms → Q v ms) : NdAt Q w' b o x := by
  obtain ⟨h1, h2, h3, h4, h5, h6, vc, h7, h8⟩ := h
  exact ⟨h1, h2, h3, carry hb h4, carry hb h5, carry hb h6, vc, carry hb h7, h8.mono hb hP⟩
theorem NodesIn.below {w w' : World} (hb : Below w.heap.size w w') : ∀ (f : Nat) {v : Value} {ms : List Nd}, NodesIn f w v ms → NodesIn f w' v ms
  | 0, _, _, h => h
  | f + 1, v, ms, ⟨A, c, h1, h2, h3, h4, h5⟩ => by
    refine ⟨A, c, h1, h2, h3, h4, ?_⟩
    rcases h5 with h5 | ⟨b, o, h6, h7⟩
    · exact .inl h5
    · exact .inr ⟨b, o, h6, fun j x hx => (h7 j x hx).mono hb fun v ms => NodesIn.below hb f⟩
theorem NodesIn.form {w : World} : ∀ {f : Nat} {v : Value} {ms : List Nd}, NodesIn f w v ms → ∃ A c, v = .slice A ms.length c ∧ ms.length ≤ c ∧ c ≤ 9223372036854775807 ∧ ms.length ≤ 3518437208800
  | 0, _, _, ⟨h, A, c, h1, h2⟩ => ⟨A, c, by rw [h]; exact h1, by rw [h]; exact Nat.zero_le _, h2, by rw [h]; exact Nat.zero_le _⟩
  | _ + 1, _, _, ⟨A, c, h1, h2, h3, h4, _⟩ => ⟨A, c, h1, h2, h3, h4⟩
theorem NodesIn.at {w : World} {f : Nat} {A : Option Addr} {n c : Nat} {ms : List Nd} (h : NodesIn (f + 1) w (.slice A n c) ms) (hp : 0 < ms.length) : ∃ b o, A = some ⟨b, o, none⟩ ∧ ∀ (j : Nat) x, ms[j]? = some x → NdAt (NodesIn f w) w b (o + j * 4) x := by
  obtain ⟨A', c', h1, h2, h3, h4, h5⟩ := h
  cases h1
  rcases h5 with h5 | h5
  · rw [h5] at hp; simp at hp
  · exact h5
theorem CasesN.at {P : Value → List Nd → Prop} {w : World} {A : Option Addr} {n c : Nat} {cs : List (ByteArray × List Nd)} (h : CasesN P w (.slice A n c) cs) (hp : 0 < cs.length) :
    ∃ b o, A = some ⟨b, o, none⟩ ∧ ∀ (j : Nat) k, cs[j]? = some k → k.1.size ≤ 140737488355328 ∧ w.cell? ⟨b, o + j * 2, none⟩ = some (.string k.1) ∧ ∃ vb, w.cell? ⟨b, o + j * 2 + 1, none⟩ = some vb ∧ P vb k.2 := by
  obtain ⟨A', c', h1, h2, h3, h4, h5⟩ := h
  cases h1
  rcases h5 with h5 | h5
  · rw [h5] at hp; simp at hp
  · exact h5
theorem CasesN.form {P : Value → List Nd → Prop} {w : World} {v : Value} {cs : List (ByteArray × List Nd)} (h : CasesN P w v cs) : ∃ A c, v = .slice A cs.length c ∧ cs.length ≤ c ∧ c ≤ 9223372036854775807 ∧ cs.length ≤ 3518437208800 := by
  obtain ⟨A', c', h1, h2, h3, h4, h5⟩ := h
  exact ⟨A', c', h1, h2, h3, h4⟩

/-- the cases that msg.Cases tells -/
def casesOf (x : Nd) : List (ByteArray × List Nd) := if x.kd = 4 ∨ x.kd = 5 then x.cs else []
def flatC (ms : List Nd) : List (ByteArray × List Nd) := ms.flatMap casesOf

/-- msg.size, in plain terms -/
def runSz (g : List Nd → Nat × Bool) : Nat → List (ByteArray × List Nd) → Nat × Bool
  | n, [] => (n, decide (60 < n))
  | n, c :: r => if (g c.2).2 || decide (60 < n + (g c.2).1) then (n + (g c.2).1, true) else runSz g (n + (g c.2).1) r
def sizeP : Nat → List Nd → Nat → Nat × Bool
  | 0, _, _ => (0, false)
  | f + 1, ms, deep => if 6 ≤ deep ∧ 0 < ms.length then (0, true) else runSz (fun b => sizeP f b (deep + 1)) ms.length (flatC ms)

/-- msg.fine, in plain terms -/
def fineB (kd : Int) (t : ByteArray) (prev : Option Int) (mark : Bool) : Bool :=
  if kd = 1 then !t.toList.isEmpty && !(prev == some 1) else if kd = 2 ∨ kd = 3 ∨ kd = 4 ∨ kd = 5 then nameB t.data.toList else decide (kd = 6) && mark
/-- msg.cases, in plain terms -/
def casesP (g : List Nd → Bool → Int) (kd : Int) (mark : Bool) : List ByteArray → List (ByteArray × List Nd) → Int
  | seen, [] => if Lib.containsS seen otherS then 0 else 2
  | seen, k :: r => if keyB kd k.1 then (if Lib.containsS seen k.1 then 5 else if g k.2 (mark || decide (kd = 4)) = 0 then casesP g kd mark (seen ++ [k.1]) r else g k.2 (mark || decide (kd = 4))) else 3
def nodeP (g : List Nd → Bool → Int) (prev : Option Int) (x : Nd) (mark : Bool) : Int :=
  if fineB x.kd x.t prev mark then (if x.kd = 4 ∧ (x.off < 0 ∨ 9 < x.off) then 1 else if x.kd = 4 ∨ x.kd = 5 then casesP g x.kd mark [] x.cs else 0) else 3
/-- msg.check, in plain terms -/
def checkGo (g : List Nd → Bool → Int) (mark : Bool) : Option Int → List Nd → Int
  | _, [] => 0
  | prev, x :: r => if nodeP g prev x mark = 0 then checkGo g mark (some x.kd) r else nodeP g prev x mark
def checkP : Nat → List Nd → Bool → Int
  | 0, _, _ => 0
  | f + 1, ms, mark => checkGo (checkP f) mark none ms
/-- msg.Check, in plain terms -/
def msgP (f : Nat) (ms : List Nd) : Int := if (sizeP f ms 0).2 then 4 else checkP f ms false
end Go.Proofs.YtplaohmdllindaaGreatDoor

/- What a message asks for, in plain terms. -/
namespace Go.Proofs.YtplaohmdllindaaGreatDoor

structure Need where
  name : ByteArray
  num : Bool
  text : Bool
def hasN (t : ByteArray) (n : Need) : Bool := n.name.toList == t.toList
def flagN (kd : Int) (n : Need) : Need := ⟨n.name, n.num || (decide (kd = 3) || decide (kd = 4)), n.text || decide (kd = 5)⟩
/-- a place for a name -/
def growN (l : List Need) (t : ByteArray) : List Need × Nat := match l.findIdx? (hasN t) with | none => (l ++ [Need.mk t false false], l.length) | some i => (l, i)
theorem growN_lt (l : List Need) (t : ByteArray) : (growN l t).2 < (growN l t).1.length := by
  unfold growN
  cases h : l.findIdx? (hasN t) with
  | none => simp
  | some i => exact (List.findIdx?_eq_some_iff_getElem.1 h).1
theorem growN_le (l : List Need) (t : ByteArray) : (growN l t).1.length ≤ l.length + 1 := by
  unfold growN
  split
  · simp
  · exact Nat.le_succ _
/-- names.add -/
def addN (l : List Need) (kd : Int) (t : ByteArray) : List Need :=
  if kd = 1 ∨ kd = 6 then l else
  (growN l t).1.modify (growN l t).2 (flagN kd)
/-- names.all -/
def allN : Nat → List Need → List Nd → List Need
  | 0, l, _ => l
  | f + 1, l, ms => ms.foldl (fun l x => (casesOf x).foldl (fun l c => allN f l c.2) (addN l x.kd x.t)) l
/-- names.of: the fault, the names -/
def namesP (f : Nat) (ms : List Nd) : Int := if msgP f ms = 0 then (if (allN f [] ms).any (fun n => n.num && n.text) then 7 else 0) else msgP f ms

/-- how many nodes, with those in cases -/
def cntP : Nat → List Nd → Nat
  | 0, _ => 0
  | f + 1, ms => ms.length + ((flatC ms).map fun c => cntP f c.2).sum
theorem addN_length (l : List Need) (kd : Int) (t : ByteArray) : (addN l kd t).length ≤ l.length + 1 := by
  unfold addN
  split
  · omega
  · rw [List.length_modify]; exact growN_le l t
end Go.Proofs.YtplaohmdllindaaGreatDoor

/- msg.Cases, msg.size at every message. -/
namespace Go.Proofs.YtplaohmdllindaaGreatDoor
open Go.RowKit

theorem NdAt.cells {P : Value → List Nd → Prop} {w : World} {b o : Nat} {x : Nd} (h : NdAt P w b o x) : ∃ A c, x.cs.length ≤ c ∧ c ≤ 9223372036854775807 ∧ x.cs.length ≤ 3518437208800 ∧ CasesN P w (.slice A x.cs.length c) x.cs ∧
    w.cell? ⟨b, o, none⟩ = some (.int .i64 x.kd) ∧ w.cell? ⟨b, o + 1, none⟩ = some (.string x.t) ∧ w.cell? ⟨b, o + 2, none⟩ = some (.int .i64 x.off) ∧ w.cell? ⟨b, o + 3, none⟩ = some (.slice A x.cs.length c) := by
  obtain ⟨h1, h2, h3, h4, h5, h6, vc, h7, h8⟩ := h
  obtain ⟨A, c, rfl, k2, k3, k4⟩ := h8.form
  exact ⟨A, c, k2, k3, k4, h8, h4, h5, h6, h7⟩

theorem cases_yes (x : Nd) (A : Option Addr) (n c : Nat) (w : World) (hk : x.kd = 4 ∨ x.kd = 5) :
    Calls Tryz.prog 134 #[nodeV x.kd x.t x.off A n c] w fun e w' => e = .returned (.slice A n c) ∧ Below w.heap.size w w' := msg_cases x.kd x.off x.t A n c w hk
theorem cases_no (x : Nd) (A : Option Addr) (n c : Nat) (w : World) (hk : ¬ (x.kd = 4 ∨ x.kd = 5)) :
    Calls Tryz.prog 134 #[nodeV x.kd x.t x.off A n c] w fun e w' => e = .returned (.slice none 0 0) ∧ Below w.heap.size w w' := by
  unfold nodeV
  have k4 : (x.kd == 4) = false := by rw [beq_eq_false_iff_ne]; exact fun h => hk (.inl h)
  have k5 : (x.kd == 5) = false := by rw [beq_eq_false_iff_ne]; exact fun h => hk (.inr h)
  generalize x.kd = kd at *
  clear hk
  go_enter Tryz.func134, Tryz.ntmps134
  go_wp2_with fail
  go_ret
  exact ⟨rfl, belx⟩
/-- msg.Cases at a node: a row of casesOf -/
theorem cases_any {P : Value → List Nd → Prop} (W0 : World) (x : Nd) (A : Option Addr) (n c : Nat) (w : World) (h : CasesN P W0 (.slice A n c) x.cs) :
    Calls Tryz.prog 134 #[nodeV x.kd x.t x.off A n c] w fun e w' => ∃ A' c', e = .returned (.slice A' (casesOf x).length c') ∧ (casesOf x).length ≤ c' ∧ c' ≤ 9223372036854775807 ∧ (casesOf x).length ≤ 3518437208800 ∧ CasesN P W0 (.slice A' (casesOf x).length c') (casesOf x) ∧ Below w.heap.size w w' := by
  by_cases hk : x.kd = 4 ∨ x.kd = 5
  · refine (cases_yes x A n c w hk).mono ?_
    rintro e w' ⟨rfl, hb⟩
    have e1 : casesOf x = x.cs := if_pos hk
    obtain ⟨A', c', e2, h2, h3, h4⟩ := h.form
    rw [e1]
    rw [e2] at h
    exact ⟨A', c', by rw [e2], h2, h3, h4, h, hb⟩
  · refine (cases_no x A n c w hk).mono ?_
    rintro e w' ⟨rfl, hb⟩
    have e1 : casesOf x = [] := if_neg hk
    rw [e1]
    exact ⟨none, 0, rfl, Nat.le_refl _, Nat.zero_le _, Nat.zero_le _, ⟨none, 0, rfl, Nat.le_refl _, Nat.zero_le _, Nat.zero_le _, .inl rfl⟩, hb⟩

theorem runSz_le {g : List Nd → Nat × Bool} {K : Nat} : ∀ (cs : List (ByteArray × List Nd)) (n : Nat), (∀ c ∈ cs, (g c.2).1 ≤ K) → (runSz g n cs).1 ≤ max n 60 + K
  | [], n, _ => by unfold runSz; omega
  | c :: r, n, h => by
    have h1 := h c (List.mem_cons_self ..)
    unfold runSz
    split
    · show n + (g c.2).1 ≤ _; omega
    · rename_i hh
      have h2 : ¬ 60 < n + (g c.2).1 := fun hc => hh (by rw [decide_eq_true hc, Bool.or_true])
      have := runSz_le r (n + (g c.2).1) fun c hc => h c (List.mem_cons_of_mem _ hc)
      omega
theorem mem_casesOf {x : Nd} {c : ByteArray × List Nd} (h : c ∈ casesOf x) : c ∈ x.cs := by
  unfold casesOf at h
  split at h
  · exact h
  · cases h
/-- a body that is told by msg.Cases lies there too -/
theorem NodesIn.body {w : World} {f : Nat} {v : Value} {ms : List Nd} (h : NodesIn (f + 1) w v ms) {c : ByteArray × List Nd} (hc : c ∈ flatC ms) : ∃ vb, NodesIn f w vb c.2 := by
  obtain ⟨x, hx, hcx⟩ := List.mem_flatMap.1 hc
  obtain ⟨A, cc, rfl, _, _, _⟩ := h.form
  obtain ⟨b, o, rfl, hat⟩ := h.at (List.length_pos_of_mem hx)
  obtain ⟨j, hj⟩ := List.mem_iff_getElem?.1 hx
  obtain ⟨A, cc, _, _, _, hC, _⟩ := (hat j x hj).cells
  have hm := mem_casesOf hcx
  obtain ⟨b2, o2, _, hat2⟩ := hC.at (List.length_pos_of_mem hm)
  obtain ⟨i, hi⟩ := List.mem_iff_getElem?.1 hm
  obtain ⟨_, _, vb, _, hv⟩ := hat2 i c hi
  exact ⟨vb, hv⟩
theorem size_le {w : World} : ∀ (f : Nat) (v : Value) (ms : List Nd) (deep : Nat), deep ≤ 6 → NodesIn f w v ms → (sizeP f ms deep).1 ≤ 7000000000060 * (7 - deep)
  | 0, _, _, _, _, _ => Nat.zero_le _
  | f + 1, v, ms, deep, hd, h => by
    obtain ⟨_, _, _, _, _, hl⟩ := h.form
    unfold sizeP
    split
    · exact Nat.zero_le _
    · rename_i hh
      by_cases h6 : deep = 6
      · have : ms = [] := List.length_eq_zero_iff.1 (by omega)
        subst this
        simp [flatC, runSz]
      · have := runSz_le (g := fun b => sizeP f b (deep + 1)) (K := 7000000000060 * (7 - (deep + 1))) (flatC ms) ms.length fun c hc => by
          obtain ⟨vb, hv⟩ := h.body hc
          exact size_le f vb c.2 (deep + 1) (by omega) hv
        omega

theorem size_none (A : Option Addr) (c deep : Nat) (w : World) (hc : c ≤ 9223372036854775807) :
    Calls Tryz.prog 70 #[.slice A 0 c, .int .i64 deep] w fun e w' => e = .returned (.tuple #[.int .i64 0, .bool false]) ∧ Below w.heap.size w w' := by
  rcases Nat.lt_or_ge deep 6 with hd | hd
  · have i6 : ¬ (6 : Int) ≤ (deep : Int) := by omega
    clear hd
    go_enter Tryz.func70, Tryz.ntmps70
    go_wp2_with fail
    go_loopw [6, 24] (fun nv i wr => i = .int .i64 0 ∧ nv = .int .i64 0 ∧ w = wr) (fun _ _ _ => 0)
    case atStart => exact ⟨rfl, rfl, rfl⟩
    case round =>
      obtain ⟨rfl, rfl, rfl⟩ := hrel
      go_wp2_with fail
      go_ret2
      exact ⟨rfl, belx⟩
  · have i6 : (6 : Int) ≤ (deep : Int) := by omega
    clear hd
    go_enter Tryz.func70, Tryz.ntmps70
    go_wp2_with fail
    go_loopw [6, 24] (fun nv i wr => i = .int .i64 0 ∧ nv = .int .i64 0 ∧ w = wr) (fun _ _ _ => 0)
    case atStart => exact ⟨rfl, rfl, rfl⟩
    case round =>
      obtain ⟨rfl, rfl, rfl⟩ := hrel
      go_wp2_with fail
      go_ret2
      exact ⟨rfl, belx⟩

theorem flat_cons (x : Nd) (r : List Nd) : flatC (x :: r) = casesOf x ++ flatC r := by unfold flatC; simp
theorem flat_drop {ms : List Nd} {k : Nat} {x : Nd} (h : ms[k]? = some x) : flatC (ms.drop k) = casesOf x ++ flatC (ms.drop (k + 1)) := by
  have hlt : k < ms.length := (List.getElem?_eq_some_iff.1 h).1
  rw [List.drop_eq_getElem_cons hlt, show ms[k] = x from (List.getElem?_eq_some_iff.1 h).2, flat_cons]
theorem drop_at {α : Type} {l : List α} {j : Nat} {x : α} (h : l[j]? = some x) : l.drop j = x :: l.drop (j + 1) := by
  have hlt : j < l.length := (List.getElem?_eq_some_iff.1 h).1
  rw [List.drop_eq_getElem_cons hlt, show l[j] = x from (List.getElem?_eq_some_iff.1 h).2]

set_option maxHeartbeats 4000000 in
theorem size_any (f : Nat) : ∀ (v : Value) (ms : List Nd) (deep : Nat) (w : World), deep ≤ 6 → NodesIn f w v ms →
    Calls Tryz.prog 70 #[v, .int .i64 deep] w fun e w' => e = .returned (.tuple #[.int .i64 ((sizeP f ms deep).1 : Int), .bool (sizeP f ms deep).2]) ∧ Below w.heap.size w w' := by
  induction f with
  | zero =>
    intro v ms deep w _ h
    obtain ⟨rfl, A, c, rfl, hc⟩ := h
    exact size_none A c deep w hc
  | succ f ih =>
    intro v ms deep w hd hN
    by_cases h0 : ms.length = 0
    · obtain rfl := List.length_eq_zero_iff.1 h0
      obtain ⟨A, c, rfl, _, hc, _⟩ := hN.form
      have e0 : sizeP (f + 1) [] deep = (0, false) := by unfold sizeP; rw [if_neg (by simp)]; rfl
      rw [e0]
      exact size_none A c deep w hc
    · by_cases h6 : deep = 6
      · subst h6
        have e0 : sizeP (f + 1) ms 6 = (0, true) := by unfold sizeP; rw [if_pos ⟨Nat.le_refl _, by omega⟩]
        rw [e0]
        obtain ⟨A, c, rfl, _, hc, _⟩ := hN.form
        have i1 : (0 : Int) < (ms.length : Int) := by omega
        have i2 : 0 < ms.length := by omega
        clear hN e0 ih
        go_enter Tryz.func70, Tryz.ntmps70
        go_wp2_with fail
        go_ret2
        exact ⟨rfl, belx⟩
      · have e0 : sizeP (f + 1) ms deep = runSz (fun b => sizeP f b (deep + 1)) ms.length (flatC (ms.drop 0)) := by rw [List.drop_zero]; conv => { lhs; unfold sizeP }; rw [if_neg (by omega)]
        obtain ⟨A, c, rfl, hc, hc2, hl⟩ := hN.form
        have HN := Lib.hid hN
        have HR : Hid (runSz (fun b => sizeP f b (deep + 1)) ms.length (flatC (ms.drop 0)) = sizeP (f + 1) ms deep) := Lib.hid e0.symm
        have ed1 : (((deep + 1 : Nat) : Int)) = (deep : Int) + 1 := by omega
        have IH := Lib.hid (fun v ms w h => ih v ms (deep + 1) w (by omega) h)
        simp only [ed1] at IH
        have HLE := Lib.hid (fun (w : World) (v : Value) (ms : List Nd) (h : NodesIn f w v ms) => size_le f v ms (deep + 1) (by omega) h)
        have i6 : ¬ (6 : Int) ≤ (deep : Int) := by omega
        have d6 : deep < 6 := by omega
        clear ed1
        generalize sizeP (f + 1) ms deep = R at *
        generalize hg : (fun b => sizeP f b (deep + 1)) = g at *
        have IG : ∀ b, sizeP f b (deep + 1) = g b := fun b => by rw [← hg]
        have HG := Lib.hid IG
        clear hN e0 ih hg IG h0
        go_enter Tryz.func70, Tryz.ntmps70
        go_wp2_with fail
        go_loopw [6, 24] (fun nv i wr => ∃ k n : Nat, k ≤ ms.length ∧ n ≤ 7000000000060 ∧ i = .int .i64 k ∧ nv = .int .i64 n ∧ Hid (runSz g n (flatC (ms.drop k)) = R) ∧ Hid (Below w.heap.size w wr)) (fun _ i _ => ms.length - (intOf i).toNat)
        case atStart => exact ⟨0, ms.length, by omega, by omega, rfl, rfl, HR, Lib.hid (Below.refl _ _)⟩
        case round =>
          obtain ⟨k, n, hk, hn, rfl, rfl, HR, HB⟩ := hrel
          by_cases hlt : k < ms.length
          · obtain ⟨b, o, rfl, hat⟩ := (NodesIn.below HB.out _ HN.out).at (by omega)
            obtain ⟨x, hx⟩ : ∃ x, ms[k]? = some x := ⟨ms[k], List.getElem?_eq_getElem hlt⟩
            obtain ⟨A, cc, x1, x2, x3, hC, n0, n1, n2, n3⟩ := (hat k x hx).cells
            have HC := Lib.hid hC
            have HF := Lib.hid (flat_drop hx)
            have sB := HB.out.size
            have i0 : (0 : Int) ≤ (k : Int) := by omega
            have i1 : (k : Int) < (ms.length : Int) := by omega
            have i2 : (k : Int) ≤ (c : Int) := by omega
            clear hat hC hx
            go_wp2_with fail
            refine (cases_any (P := NodesIn f wr) wr x A x.cs.length cc _ HC.out).mono ?_
            rintro e w1 ⟨A1, d1, rfl, y1, y2, y3, hC1, hb1⟩
            have HB1 : Hid (Below w.heap.size w w1) := Lib.hid (HB.out.trans (by
              refine Below.trans ?_ (hb1.mono ?_)
              · exact belx
              · simp; omega))
            have HBr : Hid (Below wr.heap.size wr w1) := Lib.hid (by
              refine Below.trans ?_ (hb1.mono ?_)
              · exact belx
              · simp)
            have HC1 := Lib.hid (hC1.mono HBr.out fun _ _ h => NodesIn.below HBr.out f h)
            rw [HF.out] at HR
            generalize casesOf x = cs at *
            clear hb1 hC1 n0 n1 n2 n3 HC HBr
            go_wp2_with fail
            go_loopw [6, 31] (fun nv i wr => ∃ j n : Nat, j ≤ cs.length ∧ n ≤ 7000000000060 ∧ i = .int .i64 j ∧ nv = .int .i64 n ∧ Hid (runSz g n (cs.drop j ++ flatC (ms.drop (k + 1))) = R) ∧ Hid (Below w1.heap.size w1 wr)) (fun _ i _ => cs.length - (intOf i).toNat)
            case atStart => exact ⟨0, n, Nat.zero_le _, hn, rfl, rfl, HR, Lib.hid (Below.refl _ _)⟩
            case round =>
              obtain ⟨j, n, hj, hn, rfl, rfl, HR, HB2⟩ := hrel
              by_cases hjt : j < cs.length
              · obtain ⟨b2, o2, rfl, hcell⟩ := (HC1.out.mono HB2.out fun v ms => NodesIn.below HB2.out f).at (by omega)
                obtain ⟨xb, hx⟩ : ∃ x, cs[j]? = some x := ⟨cs[j], List.getElem?_eq_getElem hjt⟩
                obtain ⟨hxz, c0, vb, c1, hvb⟩ := hcell j xb hx
                obtain ⟨xk, body⟩ := xb
                simp only at c0 c1 hxz hvb
                obtain ⟨A2, cc2, rfl, b1, b2, b3⟩ := hvb.form
                have hle := HLE.out _ _ _ hvb
                have hstep := HR.out
                rw [drop_at hx, List.cons_append, runSz] at hstep
                simp only at hstep
                rw [← HG.out body] at hstep
                have HVB := Lib.hid (fun (W : World) (hb : Below wr.heap.size wr W) => IH.out _ _ W (NodesIn.below hb f hvb))
                obtain ⟨K, T, hKT⟩ : ∃ K T, sizeP f body (deep + 1) = (K, T) := ⟨_, _, rfl⟩
                rw [hKT] at hstep hle
                simp only [hKT] at HVB
                simp only at hstep hle
                have i0 : (0 : Int) ≤ (j : Int) := by omega
                have i1 : (j : Int) < (cs.length : Int) := by omega
                have i2 : (j : Int) ≤ (d1 : Int) := by omega
                have e1 : IntKind.i64.wrap ((j : Int) + 1) = (j : Int) + 1 := IntWalk.i64_in _ (by omega)
                have e3 : IntKind.i64.wrap ((n : Int) + (K : Int)) = ((n + K : Nat) : Int) := by rw [IntWalk.i64_in _ (by omega)]; rfl
                have HS := Lib.hid hstep
                have sB1 := HB1.out.size
                have sB2 := HB2.out.size
                clear hcell hx hvb hstep hKT
                go_wp2_with fail
                refine (HVB.out _ ((Below.refl _ _).alloc (Nat.le_refl _) _)).mono ?_
                rintro e w2 ⟨rfl, hb2⟩
                have HB3 : Hid (Below w1.heap.size w1 w2) := Lib.hid (HB2.out.trans (by
                  refine Below.trans ?_ (hb2.mono ?_)
                  · exact belx
                  · simp; omega))
                clear hb2 c0 c1
                cases T
                · have hs := HS.out
                  rw [Bool.false_or] at hs
                  by_cases h60 : 60 < n + K
                  · rw [decide_eq_true h60, if_pos rfl] at hs
                    have HS2 := Lib.hid hs
                    have i60 : (60 : Int) < (n : Int) + (K : Int) := by omega
                    clear hs HS
                    go_wp2_with fail
                    go_ret2
                    rw [← HS2.out]
                    exact ⟨by simp, HB1.out.trans (HB3.out.mono sB1)⟩
                  · rw [decide_eq_false h60, if_neg (by decide)] at hs
                    have HS2 := Lib.hid hs
                    have i60 : ¬ (60 : Int) < (n : Int) + (K : Int) := by omega
                    clear hs HS
                    go_wp2_with fail
                    go_roundw
                    case rel => exact ⟨j + 1, n + K, by omega, by omega, by go_num, by go_num, HS2, HB3⟩
                    case measure => simp [intOf]; omega
                · have hs := HS.out
                  rw [Bool.true_or, if_pos rfl] at hs
                  have HS2 := Lib.hid hs
                  clear hs HS
                  go_wp2_with fail
                  go_ret2
                  rw [← HS2.out]
                  exact ⟨by simp, HB1.out.trans (HB3.out.mono sB1)⟩
              · obtain rfl : j = cs.length := by omega
                have hr := HR.out
                rw [List.drop_of_length_le (Nat.le_refl _), List.nil_append] at hr
                have HR2 := Lib.hid hr
                have sB1 := HB1.out.size
                clear hr
                go_wp2_with fail
                go_roundw
                case rel => exact ⟨k + 1, n, by omega, hn, by go_num, rfl, HR2, Lib.hid (HB1.out.trans (HB2.out.mono sB1))⟩
                case measure => simp [intOf]; omega
          · obtain rfl : k = ms.length := by omega
            have hr := HR.out
            rw [List.drop_of_length_le (Nat.le_refl _)] at hr
            have HR2 : Hid (R = (n, decide (60 < n))) := Lib.hid (by rw [← hr]; rfl)
            clear hr
            by_cases h60 : 60 < n
            · have i60 : (60 : Int) < (n : Int) := by omega
              rw [decide_eq_true h60] at HR2
              go_wp2_with fail
              go_ret2
              rw [HR2.out]
              exact ⟨rfl, HB.out⟩
            · have i60 : ¬ (60 : Int) < (n : Int) := by omega
              rw [decide_eq_false h60] at HR2
              go_wp2_with fail
              go_ret2
              rw [HR2.out]
              exact ⟨rfl, HB.out⟩
end Go.Proofs.YtplaohmdllindaaGreatDoor

/- msg.fine at a name, msg.check at no nodes, slices.Contains at a row of texts. -/
namespace Go.Proofs.YtplaohmdllindaaGreatDoor
open Go.RowKit

theorem contains_in (A : Option Addr) (xs : List ByteArray) (d : Nat) (x : ByteArray) (W : World) (h : StrsIn W A xs) (hl : xs.length ≤ 9223372036854775807) :
    Calls Tryz.prog 188 #[.slice A xs.length d, .string x] W fun e w' => e = .returned (.bool (Lib.containsS xs x)) ∧ w' = W := by
  rcases h with rfl | ⟨bk, o, rfl, hc⟩
  · exact Tryz.slices_Contains_string_empty A d x W
  · have := Tryz.slices_Contains_string bk o xs.length d xs x W (Nat.le_refl _) hl (fun j hj => by
      refine hc j _ ?_
      rw [List.getD_eq_getElem?_getD, List.getElem?_eq_getElem hj]
      rfl)
    rw [List.take_length] at this
    exact this
end Go.Proofs.YtplaohmdllindaaGreatDoor

/- msg.fine at every node. -/
namespace Go.Proofs.YtplaohmdllindaaGreatDoor
open Go.RowKit

/-- the kind of the node ahead lies there -/
def PrevAt (w : World) (B : Option Addr) (n c : Nat) (prev : Option Int) : Prop :=
  (n = 0 ∧ prev = none) ∨ ∃ b o j k, n = j + 1 ∧ n ≤ c ∧ c ≤ 9223372036854775807 ∧ B = some ⟨b, o, none⟩ ∧ prev = some k ∧ w.cell? ⟨b, o + j * 4, none⟩ = some (.int .i64 k)
theorem PrevAt.below {w w' : World} {B : Option Addr} {n c : Nat} {prev : Option Int} (h : PrevAt w B n c prev) (hb : Below w.heap.size w w') : PrevAt w' B n c prev := by
  rcases h with h | ⟨b, o, j, k, h1, h2, h3, h4, h5, h6⟩
  · exact .inl h
  · exact .inr ⟨b, o, j, k, h1, h2, h3, h4, h5, carry hb h6⟩

theorem fine_words (t : ByteArray) (off : Int) (A B : Option Addr) (n c n2 c2 : Nat) (prev : Option Int) (m : Bool) (w : World) (hp : PrevAt w B n2 c2 prev) :
    Calls Tryz.prog 135 #[nodeV 1 t off A n c, .slice B n2 c2, .bool m] w fun e w' => e = .returned (.bool (!t.toList.isEmpty && !(prev == some 1))) ∧ Below w.heap.size w w' := by
  unfold nodeV
  cases hT : t.toList.isEmpty
  · have n1 : ¬ t.toList = [] := by intro h; rw [h] at hT; cases hT
    rcases hp with ⟨rfl, rfl⟩ | ⟨b, o, j, k, rfl, hc, hc2, rfl, rfl, hcell⟩
    · go_enter Tryz.func135, Tryz.ntmps135
      go_wp2_with fail
      go_ret
      exact ⟨rfl, belx⟩
    · have hcl := carry ((Below.refl w.heap.size w).alloc (Nat.le_refl _) (.cells #[.int .i64 1, .string t, .int .i64 off, .slice A n c] 51)) hcell
      have i0 : (0 : Int) ≤ (j : Int) := by omega
      have i1 : (j : Int) < ((j + 1 : Nat) : Int) := by omega
      have i2 : ((j + 1 : Nat) : Int) ≤ (c2 : Int) := by omega
      have i3 : ¬ ((j + 1 : Nat) : Int) = 0 := by omega
      have e1 : IntKind.i64.wrap (((j + 1 : Nat) : Int) - 1) = (j : Int) := by rw [IntWalk.i64_in _ (by omega)]; omega
      by_cases hk : k = 1
      · subst hk
        clear hcell
        go_enter Tryz.func135, Tryz.ntmps135
        go_wp2_with fail
        go_ret
        exact ⟨rfl, belx⟩
      · have k1 : (k == 1) = false := by rw [beq_eq_false_iff_ne]; exact hk
        have HD : Hid ((!((some k : Option Int) == some 1)) = true) := Lib.hid (by simp [hk])
        clear hcell
        go_enter Tryz.func135, Tryz.ntmps135
        go_wp2_with fail
        go_ret
        exact ⟨ret_bool (by rw [HD.out]; simp [bne, k1]), belx⟩
  · have n1 : t.toList = [] := by simpa using hT
    go_enter Tryz.func135, Tryz.ntmps135
    go_wp2_with fail
    go_ret
    exact ⟨rfl, belx⟩

theorem fine_names (kd off : Int) (t : ByteArray) (A B : Option Addr) (n c n2 c2 : Nat) (m : Bool) (w : World) (hk : kd = 2 ∨ kd = 3 ∨ kd = 4 ∨ kd = 5) (ht : t.size ≤ 9223372036854775807) :
    Calls Tryz.prog 135 #[nodeV kd t off A n c, .slice B n2 c2, .bool m] w fun e w' => e = .returned (.bool (nameB t.data.toList)) ∧ Below w.heap.size w w' := by
  unfold nodeV
  rcases hk with rfl | rfl | rfl | rfl
  all_goals
    go_enter Tryz.func135, Tryz.ntmps135
    go_wp2_with fail
    refine (name_code t _ ht).mono ?_
    rintro e w1 ⟨rfl, hb1⟩
    go_wp2_with fail
    go_ret
    exact ⟨rfl, belx⟩

theorem fine_mark (kd off : Int) (t : ByteArray) (A B : Option Addr) (n c n2 c2 : Nat) (m : Bool) (w : World) (h1 : kd ≠ 1) (h2 : kd ≠ 2) (h3 : kd ≠ 3) (h4 : kd ≠ 4) (h5 : kd ≠ 5) :
    Calls Tryz.prog 135 #[nodeV kd t off A n c, .slice B n2 c2, .bool m] w fun e w' => e = .returned (.bool (decide (kd = 6) && m)) ∧ Below w.heap.size w w' := by
  unfold nodeV
  have k1 : (kd == 1) = false := by rw [beq_eq_false_iff_ne]; exact h1
  have k2 : (kd == 2) = false := by rw [beq_eq_false_iff_ne]; exact h2
  have k3 : (kd == 3) = false := by rw [beq_eq_false_iff_ne]; exact h3
  have k4 : (kd == 4) = false := by rw [beq_eq_false_iff_ne]; exact h4
  have k5 : (kd == 5) = false := by rw [beq_eq_false_iff_ne]; exact h5
  clear h1 h2 h3 h4 h5
  by_cases h6 : kd = 6
  · subst h6
    clear k1 k2 k3 k4 k5
    cases m
    all_goals
      go_enter Tryz.func135, Tryz.ntmps135
      go_wp2_with fail
      go_ret
      exact ⟨rfl, belx⟩
  · have k6 : (kd == 6) = false := by rw [beq_eq_false_iff_ne]; exact h6
    have HD : Hid ((decide (kd = 6) && m) = false) := Lib.hid (by rw [decide_eq_false h6]; rfl)
    clear h6
    go_enter Tryz.func135, Tryz.ntmps135
    go_wp2_with fail
    go_ret
    exact ⟨ret_bool HD.out.symm, belx⟩

theorem fine_any (kd off : Int) (t : ByteArray) (A B : Option Addr) (n c n2 c2 : Nat) (prev : Option Int) (m : Bool) (w : World) (ht : t.size ≤ 9223372036854775807) (hp : PrevAt w B n2 c2 prev) :
    Calls Tryz.prog 135 #[nodeV kd t off A n c, .slice B n2 c2, .bool m] w fun e w' => e = .returned (.bool (fineB kd t prev m)) ∧ Below w.heap.size w w' := by
  by_cases h1 : kd = 1
  · subst h1
    exact fine_words t off A B n c n2 c2 prev m w hp
  · by_cases hk : kd = 2 ∨ kd = 3 ∨ kd = 4 ∨ kd = 5
    · have e : fineB kd t prev m = nameB t.data.toList := by unfold fineB; rw [if_neg h1, if_pos hk]
      rw [e]
      exact fine_names kd off t A B n c n2 c2 m w hk ht
    · have e : fineB kd t prev m = (decide (kd = 6) && m) := by unfold fineB; rw [if_neg h1, if_neg hk]
      rw [e]
      exact fine_mark kd off t A B n c n2 c2 m w h1 (fun h => hk (.inl h)) (fun h => hk (.inr (.inl h))) (fun h => hk (.inr (.inr (.inl h)))) (fun h => hk (.inr (.inr (.inr h))))
end Go.Proofs.YtplaohmdllindaaGreatDoor

/- msg.cases at every row of cases. -/
namespace Go.Proofs.YtplaohmdllindaaGreatDoor
open Go.RowKit

theorem casesP_step {g : List Nd → Bool → Int} {kd : Int} {m : Bool} {seen : List ByteArray} {cs : List (ByteArray × List Nd)} {j : Nat} {x : ByteArray × List Nd} (h : cs[j]? = some x) :
    casesP g kd m seen (cs.drop j) = if keyB kd x.1 then (if Lib.containsS seen x.1 then 5 else if g x.2 (m || decide (kd = 4)) = 0 then casesP g kd m (seen ++ [x.1]) (cs.drop (j + 1)) else g x.2 (m || decide (kd = 4))) else 3 := by
  rw [drop_at h, casesP]

set_option maxHeartbeats 4000000 in
theorem cases_gen (f : Nat) (ih : ∀ (v : Value) (ms : List Nd) (m : Bool) (w : World), RuleEnv w → MKinds w → NodesIn f w v ms →
      Calls Tryz.prog 71 #[v, .bool m] w fun e w' => e = .returned (errOf (checkP f ms m)) ∧ Below w.heap.size w w')
    (kd off : Int) (t : ByteArray) (A : Option Addr) (cs : List (ByteArray × List Nd)) (c : Nat) (m : Bool) (w : World) (hk : kd = 4 ∨ kd = 5) (hE : RuleEnv w) (hK : MKinds w) (hC : CasesN (NodesIn f w) w (.slice A cs.length c) cs) :
    Calls Tryz.prog 136 #[nodeV kd t off A cs.length c, .bool m] w fun e w' => e = .returned (errOf (casesP (checkP f) kd m [] cs)) ∧ Below w.heap.size w w' := by
  obtain ⟨A', c', he, hc, hc2, hn⟩ := hC.form
  cases he
  have hb0 : Below w.heap.size w (w.alloc (.cells #[.int .i64 kd, .string t, .int .i64 off, .slice A cs.length c] 51)) := belx
  have hN : NodeAt (w.alloc (.cells #[.int .i64 kd, .string t, .int .i64 off, .slice A cs.length c] 51)) w.heap.size kd t off A cs.length c := ⟨by go_simp, by go_simp, by go_simp, by go_simp⟩
  have hsz : (w.alloc (.cells #[.int .i64 kd, .string t, .int .i64 off, .slice A cs.length c] 51)).heap.size = w.heap.size + 1 := by simp
  obtain ⟨W0, hW⟩ : ∃ W0, W0 = w.alloc (.cells #[.int .i64 kd, .string t, .int .i64 off, .slice A cs.length c] 51) := ⟨_, rfl⟩
  rw [← hW] at hb0 hN hsz
  have HW := Lib.hid hW
  have HN := Lib.hid hN
  have HC := Lib.hid (hC.mono hb0 fun v ms => NodesIn.below hb0 f)
  have HE := Lib.hid (hE.below hb0)
  have HK := Lib.hid (hK.below hb0)
  have HB0 := Lib.hid hb0
  have HSZ := Lib.hid hsz
  have IH := Lib.hid ih
  have HX : Hid (casesP (checkP f) kd m [] (cs.drop 0) = casesP (checkP f) kd m [] cs) := Lib.hid rfl
  generalize casesP (checkP f) kd m [] cs = R at *
  clear hW hC hN hE hK hb0 hsz ih
  unfold nodeV
  go_enter Tryz.func136, Tryz.ntmps136
  go_wp2_with fail
  rw [← HW.out]
  go_loopw [5, 12] (fun p i wr => ∃ (j : Nat) (B : Option Addr) (d : Nat) (xs : List ByteArray), j ≤ cs.length ∧ i = .int .i64 j ∧ p = .slice B xs.length d ∧ xs.length ≤ j ∧ Hid (OwnsS wr W0.heap.size (.slice B xs.length d) xs) ∧ Hid (casesP (checkP f) kd m xs (cs.drop j) = R) ∧ Hid (Below W0.heap.size W0 wr)) (fun _ i _ => cs.length - (intOf i).toNat)
  case atStart => exact ⟨0, none, 0, [], Nat.zero_le _, rfl, rfl, Nat.le_refl _, Lib.hid (OwnsS.nil _ _), HX, Lib.hid (Below.refl _ _)⟩
  case round =>
    obtain ⟨j, B, d, xs, hj, rfl, rfl, hxs, HO, HV, HB⟩ := hrel
    have sB := HB.out.size
    have sB0 := HSZ.out
    by_cases hlt : j < cs.length
    · obtain ⟨b, o, rfl, hcell⟩ := HC.out.at (by omega)
      obtain ⟨xb, hx⟩ : ∃ x, cs[j]? = some x := ⟨cs[j], List.getElem?_eq_getElem hlt⟩
      have hst := casesP_step (g := checkP f) (kd := kd) (m := m) (seen := xs) hx
      rw [HV.out] at hst
      obtain ⟨hxz, c0, vb, c1, hvb⟩ := hcell j xb hx
      obtain ⟨x, body⟩ := xb
      simp only at hst c0 c1 hxz hvb
      obtain ⟨A2, c2, rfl, b1, b2, b3⟩ := hvb.form
      have HVB := Lib.hid (fun (mm : Bool) (W : World) (hb : Below W0.heap.size W0 W) => IH.out _ _ mm W (HE.out.below hb) (HK.out.below hb) (NodesIn.below hb f hvb))
      replace c0 := carry HB.out c0
      replace c1 := carry HB.out c1
      obtain ⟨n0, n1, n2, n3⟩ := HN.out.below HB.out
      have i0 : (0 : Int) ≤ (j : Int) := by omega
      have i1 : (j : Int) < (cs.length : Int) := by omega
      have i2 : (j : Int) ≤ (c : Int) := by omega
      have KK := Lib.hid (fun W (hb : Below wr.heap.size wr W) => msg_key kd off t x (some ⟨b, o, none⟩) cs.length c W ((HE.out.below HB.out).below hb) ((HK.out.below HB.out).below hb) (by omega))
      have KN := Lib.hid (fun W (hb : Below wr.heap.size wr W) => contains_in B xs d x W (by
        obtain ⟨A', c', h1, _, h2, _⟩ := HO.out.form
        injection h1 with h1 _ _
        rw [h1]
        exact h2.below hb) (by omega))
      have hB1 : Below wr.heap.size wr (wr.alloc (.cells #[.string x, .slice A2 body.length c2] 246)) := (Below.refl _ _).alloc (Nat.le_refl _) _
      have HB1 := Lib.hid hB1
      obtain ⟨p0, p1, p2, p3⟩ := (HN.out.below HB.out).below hB1
      clear hB1 hvb
      cases hq : keyB kd x
      · rw [hq] at hst KK
        simp only [Bool.false_eq_true, if_false] at hst
        have HR := Lib.hid hst
        clear hst hcell hx hq
        go_wp2_with fail
        refine (KK.out _ HB1.out).mono ?_
        rintro e w1 ⟨rfl, hb⟩
        have s1 := HB1.out.size
        go_wp2_with fail
        go_ret
        rw [HR.out]
        exact ⟨rfl, HB0.out.trans ((HB.out.trans ((HB1.out.trans (hb.mono s1)).mono sB)).mono (by omega))⟩
      · rw [hq] at hst KK
        simp only [if_true] at hst
        have s1 := HB1.out.size
        cases hq2 : Lib.containsS xs x
        · rw [hq2] at hst KN
          simp only [Bool.false_eq_true, if_false] at hst
          have HR := Lib.hid hst
          have e1 : IntKind.i64.wrap ((j : Int) + 1) = (j : Int) + 1 := IntWalk.i64_in _ (by omega)
          clear hst hcell hx hq hq2
          go_wp2_with fail
          refine (KK.out _ HB1.out).mono ?_
          rintro e w1 ⟨rfl, hb⟩
          have hB2 : Below wr.heap.size wr w1 := HB1.out.trans (hb.mono s1)
          have b0 : w1.cell? ⟨wr.heap.size, 0, none⟩ = some (.string x) := carry hb (by go_simp)
          have b1x : w1.cell? ⟨wr.heap.size, 1, none⟩ = some (.slice A2 body.length c2) := carry hb (by go_simp)
          have s2 := hb.size
          simp at s2
          have HO2 := Lib.hid (HO.out.below hB2)
          have HB2 := Lib.hid hB2
          obtain ⟨q0, q1, q2, q3⟩ := (HN.out.below HB.out).below hB2
          clear hb hB2 n0 n1 n2 n3 p0 p1 p2 p3 c0 c1
          go_wp2_with fail
          refine (KN.out _ HB2.out).mono ?_
          rintro e w2 ⟨rfl, rfl⟩
          have hni : wr.heap.size ∉ (Value.slice B xs.length d).ownBlock.toList := fun hm => by
            obtain ⟨_, _, _, _, _, hl⟩ := HO.out.form
            have := (hl _ (by simpa using hm)).2
            omega
          have HNI := Lib.hid hni
          clear hni
          have hb1x := carry ((Below.refl w2.heap.size w2).alloc (Nat.le_refl _) (.cells #[.string x] 9)) b1x
          have HQ := Lib.hid hb1x
          clear hb1x
          have HA := Lib.hid ((HB.out.trans (HB2.out.mono sB)).alloc (by omega) (.cells #[.string x] 9))
          clear q0 q1 q2 q3 b1x
          obtain ⟨mm, hmm⟩ : ∃ mm, mm = (m || decide (kd = 4)) := ⟨_, rfl⟩
          rw [← hmm] at HR
          have HVM := Lib.hid (HVB.out mm)
          generalize checkP f body mm = E at *
          cases m
          all_goals
            rcases hk with rfl | rfl
            all_goals
              simp only [Bool.true_or, Bool.false_or, Int.reduceEq, decide_true, decide_false, Bool.or_false] at hmm
              subst hmm
              go_wp2_with (at_builtin; refine wpList_append_one rfl _ _ rfl x rfl rfl (HO2.out.alloc _) (by go_simp) (by simp; omega) (by omega) ?_; intro v' w' ho hoff; have hbl := OwnsS.grown (HO2.out.alloc (.cells #[.string x] 9)) hoff (by simp; omega); have r1 := hoff.cell HQ.out HNI.out; have hB3 := HA.out.trans hbl; have HB3 := Lib.hid hB3; obtain ⟨t0, t1, t2, t3⟩ := HN.out.below hB3; have s3 := hB3.size; obtain ⟨A', d', rfl, _⟩ := ho.form; have HO3 := Lib.hid ho; clear ho hoff hbl hB3)
              refine (HVM.out _ HB3.out).mono ?_
              rintro e w3 ⟨rfl, hb3⟩
              have HO4 := Lib.hid (HO3.out.below hb3)
              have HB4 := Lib.hid (HB3.out.trans (hb3.mono s3))
              have hl3 : (xs ++ [x]).length ≤ j + 1 := by simp; omega
              clear hb3
              by_cases hE0 : E = 0
              · have e0 : errOf E = .nilIface := if_pos hE0
                have hr := HR.out
                rw [if_pos hE0] at hr
                have HR2 := Lib.hid hr.symm
                rw [e0]
                clear hr HR e0 hE0
                go_wp2_with fail
                go_roundw
                case rel => exact ⟨j + 1, A', d', _, by omega, by go_num, by simp, hl3, HO4, HR2, HB4⟩
                case measure => simp [intOf]; omega
              · have e0 : errOf E = errT E := if_neg hE0
                have hr := HR.out
                rw [if_neg hE0] at hr
                have HR2 := Lib.hid hr
                have E0 := Lib.hid e0
                rw [e0]
                clear hr HR e0 hE0
                go_wp2_with fail
                go_ret
                rw [HR2.out, E0.out]
                exact ⟨rfl, HB0.out.trans (HB4.out.mono (by omega))⟩
        · rw [hq2] at hst KN
          simp only [if_true] at hst
          have HR := Lib.hid hst
          clear hst hcell hx hq hq2
          go_wp2_with fail
          refine (KK.out _ HB1.out).mono ?_
          rintro e w1 ⟨rfl, hb⟩
          have hB2 : Below wr.heap.size wr w1 := HB1.out.trans (hb.mono s1)
          have b0 : w1.cell? ⟨wr.heap.size, 0, none⟩ = some (.string x) := carry hb (by go_simp)
          have HB2 := Lib.hid hB2
          clear hb hB2
          go_wp2_with fail
          refine (KN.out _ HB2.out).mono ?_
          rintro e w2 ⟨rfl, rfl⟩
          go_wp2_with fail
          go_ret
          rw [HR.out]
          exact ⟨rfl, HB0.out.trans ((HB.out.trans (HB2.out.mono sB)).mono (by omega))⟩
    · obtain rfl : j = cs.length := by omega
      have hv := HV.out
      rw [List.drop_of_length_le (Nat.le_refl _)] at hv
      have KN := Lib.hid (fun W (hb : Below wr.heap.size wr W) => contains_in B xs d otherS W (by
        obtain ⟨A', c', h1, _, h2, _⟩ := HO.out.form
        injection h1 with h1 _ _
        rw [h1]
        exact h2.below hb) (by omega))
      cases hq : Lib.containsS xs otherS
      · rw [hq] at KN
        have HR : Hid (R = 2) := Lib.hid (by rw [← hv]; unfold casesP; rw [hq]; rfl)
        clear hv hq
        go_wp2_with fail
        refine (KN.out _ (Below.refl _ _)).mono ?_
        rintro e w2 ⟨rfl, rfl⟩
        go_wp2_with fail
        go_ret
        rw [HR.out]
        exact ⟨rfl, HB0.out.trans (HB.out.mono (by omega))⟩
      · rw [hq] at KN
        have HR : Hid (R = 0) := Lib.hid (by rw [← hv]; unfold casesP; rw [hq]; rfl)
        clear hv hq
        go_wp2_with fail
        refine (KN.out _ (Below.refl _ _)).mono ?_
        rintro e w2 ⟨rfl, rfl⟩
        go_wp2_with fail
        go_ret
        rw [HR.out]
        exact ⟨rfl, HB0.out.trans (HB.out.mono (by omega))⟩
end Go.Proofs.YtplaohmdllindaaGreatDoor

/- msg.cases at a node whose cases have no nodes. -/
namespace Go.Proofs.YtplaohmdllindaaGreatDoor
open Go.RowKit

end Go.Proofs.YtplaohmdllindaaGreatDoor
