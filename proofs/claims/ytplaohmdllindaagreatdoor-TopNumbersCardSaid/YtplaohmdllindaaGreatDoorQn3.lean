/- Trim, TrimCut, NameCode, StrsPlain, RowsS, JoinW, RevBase, Rev, GroupP, NoutP, TrimSet, PatCheck, TrimDigits, Group, NoutCut, HeldMapW, Clock, ClockSet, TagPlain, TagSpec, TagRefPlain, BundlePlain, EntIn, PropKey, AddLet, EntryAt, ChainPlain, FindPlain, TextIn, RefCut, RefJoined, RefIn, ReadPlain, FixPlain: texts put together. -/
import Derived.Test.YtplaohmdllindaaGreatDoorQn1
import Derived.Test.YtplaohmdllindaaGreatDoorQn2
import Derived.WalkLawsBesides
import Derived.Lib.Strings
import Derived.Deep.WholeRow
import Derived.Lib.Join
import Derived.Laws.AppendOwn
import Derived.Laws.OwnMore
import Derived.OwnWalk
import Derived.WideShapes
import Derived.Laws.IdiomCopy
import Derived.Lib.RowBridge
import Derived.Carry
import Derived.Laws.MakeOwn
import Derived.Lib.SplitLaws
import Derived.Test.YtplaohmdllindaaGreatDoorProg
import Derived.Lib.Split
import Derived.Laws.IdiomStrings
import Derived.Lib.Replace
import Derived.Lib.TrimByte
import Derived.Lib.AtoiTie
set_option linter.unusedVariables false
set_option linter.unusedSimpArgs false
/- strings.trimRightASCII, trimLeftASCII, strings.Trim with a set of ASCII signs. -/
namespace Go.Proofs.YtplaohmdllindaaGreatDoor
open Go.RowKit

/-- The set at block b holds just what P tells. -/
def SetAt (w : World) (b : Nat) (P : UInt8 → Bool) : Prop := ∀ x : UInt8, w.cell? ⟨b, x.toNat, none⟩ = some (.bool (P x))

def sizeOfV : Value → Nat
  | .string t => t.size
  | _ => 0

def TrimR (s t : ByteArray) (P : UInt8 → Bool) : Prop := ∃ r : List UInt8, s.data.toList = t.data.toList ++ r ∧ r.all P = true ∧ (t.data.toList = [] ∨ ∃ l c, t.data.toList = l ++ [c] ∧ P c = false)
def HeadR (s t : ByteArray) (P : UInt8 → Bool) : Prop := ∃ r : List UInt8, s.data.toList = t.data.toList ++ r ∧ r.all P = true
theorem last_split (t : ByteArray) (h : 0 < t.size) (hi : t.size - 1 < t.size) : t.data.toList = (t.extract 0 (t.size - 1)).data.toList ++ [t[t.size - 1]] := by
  have hl : t.data.toList.length = t.size := by simp
  have e : (t.extract 0 (t.size - 1)).data.toList = t.data.toList.take (t.size - 1) := by rw [Lib.extract_data, List.drop_zero, Nat.sub_zero]
  rw [e]
  have hg : t.data.toList[t.size - 1]? = some t[t.size - 1] := by
    rw [List.getElem?_eq_getElem (by omega)]
    rfl
  have h2 := List.take_add_one (l := t.data.toList) (i := t.size - 1)
  rw [hg, show t.size - 1 + 1 = t.size by omega, List.take_of_length_le (by omega)] at h2
  exact h2

theorem trim_right (s : ByteArray) (b : Nat) (P : UInt8 → Bool) (w : World) (hS : SetAt w b P) (hs : s.size ≤ 9000000000000000000) :
    Calls Tryz.prog 97 #[.string s, .pointer (some ⟨b, 0, none⟩)] w fun e w' =>
      ∃ t : ByteArray, e = .returned (.string t) ∧ TrimR s t P ∧ w' = w := by
  have HS := Lib.hid hS
  clear hS
  go_enter Tryz.func97, Tryz.ntmps97
  go_wp2_with fail
  go_loop [0] (fun v => ∃ t : ByteArray, v = .string t ∧ t.size ≤ s.size ∧ Hid (HeadR s t P)) (fun v => sizeOfV v)
  case atStart => exact ⟨s, rfl, Nat.le_refl _, Lib.hid ⟨[], by simp, rfl⟩⟩
  case round =>
    obtain ⟨t, rfl, hle, hall⟩ := hrel
    by_cases h0 : t.size = 0
    · have he : t = ⟨#[]⟩ := by
        apply ByteArray.ext
        exact Array.eq_empty_of_size_eq_zero h0
      subst he
      go_wp2_with fail
      go_ret
      obtain ⟨r, h1, h2⟩ := hall.out
      exact ⟨⟨#[]⟩, rfl, ⟨r, h1, h2, .inl rfl⟩, rfl⟩
    · have hi : t.size - 1 < t.size := by omega
      have hc := HS.out t[t.size - 1]
      have e1 : IntKind.i64.wrap ((t.size : Int) - 1) = (t.size : Int) - 1 := IntWalk.i64_in _ (by omega)
      have e2 : ((t.size : Int) - 1).toNat = t.size - 1 := by omega
      have i0 : (0 : Int) ≤ (t.size : Int) - 1 := by omega
      have i1 : (t.size : Int) - 1 < (t.size : Int) := by omega
      have i2 : (0 : Int) < (t.size : Int) := by omega
      have hsp := Lib.hid (last_split t (by omega) hi)
      cases hp : P t[t.size - 1]
      · rw [hp] at hc
        go_wp2_with fail
        refine (Tryz.asciiSet_contains b _ false w hc).mono ?_
        rintro e w1 ⟨rfl, rfl⟩
        go_wp2_with fail
        go_ret
        obtain ⟨r, h1, h2⟩ := hall.out
        exact ⟨t, rfl, ⟨r, h1, h2, .inr ⟨_, _, hsp.out, hp⟩⟩, rfl⟩
      · rw [hp] at hc
        go_wp2_with fail
        refine (Tryz.asciiSet_contains b _ true w hc).mono ?_
        rintro e w1 ⟨rfl, rfl⟩
        go_wp2_with fail
        go_round
        case rel =>
          refine ⟨_, rfl, ?_, ?_⟩
          · simp; omega
          · obtain ⟨r, h1, h2⟩ := hall.out
            refine Lib.hid ⟨t[t.size - 1] :: r, ?_, by simp [hp]; simpa using h2⟩
            rw [h1, hsp.out, List.append_assoc]
            rfl
        case measure => simp [sizeOfV]; omega

def TrimL (s t : ByteArray) (P : UInt8 → Bool) : Prop := ∃ r : List UInt8, s.data.toList = r ++ t.data.toList ∧ r.all P = true ∧ (t.data.toList = [] ∨ ∃ c l, t.data.toList = c :: l ∧ P c = false)
def HeadL (s t : ByteArray) (P : UInt8 → Bool) : Prop := ∃ r : List UInt8, s.data.toList = r ++ t.data.toList ∧ r.all P = true
theorem first_split (t : ByteArray) (h : 0 < t.size) : t.data.toList = t[0] :: (t.extract 1 t.size).data.toList := by
  have hl : t.data.toList.length = t.size := by simp
  rw [Lib.extract_data, List.take_of_length_le (by rw [List.length_drop]; omega)]
  have hg : t.data.toList[0]? = some t[0] := by
    rw [List.getElem?_eq_getElem (by omega)]
    rfl
  generalize t.data.toList = L at *
  cases L with
  | nil => simp at hg
  | cons x L => simp at hg; simp [hg]

theorem trim_left (s : ByteArray) (b : Nat) (P : UInt8 → Bool) (w : World) (hS : SetAt w b P) (hs : s.size ≤ 9000000000000000000) :
    Calls Tryz.prog 93 #[.string s, .pointer (some ⟨b, 0, none⟩)] w fun e w' =>
      ∃ t : ByteArray, e = .returned (.string t) ∧ TrimL s t P ∧ w' = w := by
  have HS := Lib.hid hS
  clear hS
  go_enter Tryz.func93, Tryz.ntmps93
  go_wp2_with fail
  go_loop [0] (fun v => ∃ t : ByteArray, v = .string t ∧ t.size ≤ s.size ∧ Hid (HeadL s t P)) (fun v => sizeOfV v)
  case atStart => exact ⟨s, rfl, Nat.le_refl _, Lib.hid ⟨[], by simp, rfl⟩⟩
  case round =>
    obtain ⟨t, rfl, hle, hall⟩ := hrel
    by_cases h0 : t.size = 0
    · have he : t = ⟨#[]⟩ := by
        apply ByteArray.ext
        exact Array.eq_empty_of_size_eq_zero h0
      subst he
      go_wp2_with fail
      go_ret
      obtain ⟨r, h1, h2⟩ := hall.out
      exact ⟨⟨#[]⟩, rfl, ⟨r, h1, h2, .inl rfl⟩, rfl⟩
    · have hi : 0 < t.size := by omega
      have hc := HS.out t[0]
      have i2 : (0 : Int) < (t.size : Int) := by omega
      have i3 : (1 : Int) ≤ (t.size : Int) := by omega
      have hsp := Lib.hid (first_split t hi)
      cases hp : P t[0]
      · rw [hp] at hc
        go_wp2_with fail
        refine (Tryz.asciiSet_contains b _ false w hc).mono ?_
        rintro e w1 ⟨rfl, rfl⟩
        go_wp2_with fail
        go_ret
        obtain ⟨r, h1, h2⟩ := hall.out
        exact ⟨t, rfl, ⟨r, h1, h2, .inr ⟨_, _, hsp.out, hp⟩⟩, rfl⟩
      · rw [hp] at hc
        go_wp2_with fail
        refine (Tryz.asciiSet_contains b _ true w hc).mono ?_
        rintro e w1 ⟨rfl, rfl⟩
        go_wp2_with fail
        go_round
        case rel =>
          refine ⟨_, rfl, ?_, ?_⟩
          · simp; omega
          · obtain ⟨r, h1, h2⟩ := hall.out
            refine Lib.hid ⟨r ++ [t[0]], ?_, by rw [List.all_append, h2]; simp [hp]⟩
            rw [h1, hsp.out, List.append_assoc]
            rfl
        case measure => simp [sizeOfV]; omega
end Go.Proofs.YtplaohmdllindaaGreatDoor

/- strings.Trim with a set of ASCII signs, two or more. -/
namespace Go.Proofs.YtplaohmdllindaaGreatDoor
open Go.RowKit

theorem trim_set (cs : ByteArray) (ha : ∀ (j : Nat) (b : UInt8), cs.data.toList[j]? = some b → b.toNat < 128) (hl : 2 ≤ cs.size) (hl2 : cs.size ≤ 100) (s : ByteArray) (w : World) (h0 : 0 < s.size) (hs : s.size ≤ 9000000000000000000) :
    Calls Tryz.prog 140 #[.string s, .string cs] w fun e w' => ∃ t u : ByteArray, e = .returned (.string u) ∧ TrimR s t (cs.data.toList.contains ·) ∧ TrimL t u (cs.data.toList.contains ·) ∧ Below w.heap.size w w' := by
  have hv : ∀ w, (zeroValue 182).run Tryz.prog w = .ok (.agg (Array.replicate 256 (.bool false))) w := fun _ => by kernel_rfl
  have hmk := fun w => Tryz.strings_makeASCIISet hv cs w (by omega) ha
  have ne : ∀ t : ByteArray, 0 < t.size → ¬ t.toList = [] := fun t ht => by
    rw [Lib.toList_data]
    intro h
    have : t.data.toList.length = t.size := by simp
    rw [h] at this
    simp at this
    omega
  have n1 : ¬ s.toList = [] := ne s h0
  have n2 : s.toList.isEmpty = false := by cases h : s.toList with | nil => exact absurd h n1 | cons x l => rfl
  have m1 : ¬ cs.toList = [] := ne cs (by omega)
  have n3 : cs.toList.isEmpty = false := by cases h : cs.toList with | nil => exact absurd h m1 | cons x l => rfl
  have n4 : ¬ ((cs.size : Int) = 1) := by omega
  have HM := Lib.hid hmk
  have hz : (Lib.setCells cs.data.toList).size = 256 := Lib.setCells_size _
  have hone : (Lib.setCells cs.data.toList).all (·.oneCell') = true := Lib.setCells_one _
  have hat := Lib.hid (fun x => Lib.setCells_at cs.data.toList x)
  clear hmk ha ne
  go_enter Tryz.func140, Tryz.ntmps140
  go_wp2_with fail
  refine (HM.out w).mono ?_
  rintro e w1 ⟨rfl, hw1⟩
  generalize Lib.setCells cs.data.toList = Z at *
  have hin : (Tryz.prog.info? 182).map (·.size) = some Z.size := by rw [hz]; kernel_rfl
  have hst := run_storeCells_new (P := Tryz.prog) w1 182 (Array.replicate 256 (.bool false)) Z hin (by rw [hz]; simp) hone
  subst hw1
  have hsz : (w.alloc (.cells Z 182)).heap.size = w.heap.size + 1 := by simp
  rw [hsz] at hst
  have hS : SetAt ((w.alloc (.cells Z 182)).alloc (.cells Z 182)) (w.heap.size + 1) (cs.data.toList.contains ·) := fun x => by
    have h := heap_alloc_new (w.alloc (.cells Z 182)) (.cells Z 182)
    have h2 := hat.out x
    rw [hsz] at h
    unfold World.cell?
    rw [h]
    exact h2
  have HS := Lib.hid hS
  clear hS hin hone
  go_wp2_with fail
  refine (trim_right s _ _ _ HS.out hs).mono ?_
  rintro e w2 ⟨t, rfl, hR, rfl⟩
  have hts : t.size ≤ s.size := by
    obtain ⟨r, h1, _⟩ := hR
    have := congrArg List.length h1
    simp at this
    omega
  have HR := Lib.hid hR
  clear hR
  go_wp2_with fail
  refine (trim_left t _ _ _ HS.out (by omega)).mono ?_
  rintro e w3 ⟨u, rfl, hL, rfl⟩
  have HL := Lib.hid hL
  clear hL
  go_wp2_with fail
  go_ret
  exact ⟨t, u, rfl, HR.out, HL.out, belx⟩

theorem trim_none (P : UInt8 → Bool) {s t u : ByteArray} (h1 : TrimR s t P) (h2 : TrimL t u P) : (u.data.toList = [] ↔ s.data.toList.all P = true) := by
  obtain ⟨r, e1, r1, c1⟩ := h1
  obtain ⟨q, e2, q1, c2⟩ := h2
  rw [e1, e2]
  constructor
  · intro hu
    rw [hu, List.append_nil, List.all_append, q1, r1]; rfl
  · intro hall
    rcases c2 with h | ⟨c, l, h, hc⟩
    · exact h
    · rw [h] at hall
      simp only [List.all_append, List.all_cons, hc, Bool.false_and, Bool.and_false] at hall
      cases hall
end Go.Proofs.YtplaohmdllindaaGreatDoor

/- msg.Name. -/
namespace Go.Proofs.YtplaohmdllindaaGreatDoor
open Go.RowKit

theorem name_code (s : ByteArray) (w : World) (hs : s.size ≤ 9223372036854775807) :
    Calls Tryz.prog 73 #[.string s] w fun e w' => e = .returned (.bool (nameB s.data.toList)) ∧ Below w.heap.size w w' := by
  have hlen : s.data.toList.length = s.size := by simp
  by_cases h0 : s.size = 0
  · have he : s = ⟨#[]⟩ := ByteArray.ext (Array.eq_empty_of_size_eq_zero h0)
    subst he
    have HD : Hid (nameB (⟨#[]⟩ : ByteArray).data.toList = false) := Lib.hid rfl
    go_enter Tryz.func73, Tryz.ntmps73
    go_wp2_with fail
    go_ret
    exact ⟨ret_bool HD.out.symm, belx⟩
  · have n1 : ¬ s.toList = [] := by
      rw [Lib.toList_data]
      intro h
      rw [h] at hlen
      simp at hlen
      omega
    have n2 : s.toList.isEmpty = false := by cases h : s.toList with | nil => exact absurd h n1 | cons x l => rfl
    by_cases h20 : s.size ≤ 20
    · have i20 : (s.size : Int) ≤ 20 := by omega
      cases hA : s.data.toList.all (namS.data.toList.contains ·)
      · have HD := Lib.hid (nameB_bad hA)
        clear hlen
        go_enter Tryz.func73, Tryz.ntmps73
        go_wp2_with fail
        refine (trim_set namS namS_ascii (by decide) (by decide) s _ (by omega) (by omega)).mono ?_
        rintro e w1 ⟨t, u, rfl, hR, hL, hb1⟩
        have hiff := trim_none _ hR hL
        have m1 : ¬ u.toList = [] := by
          rw [Lib.toList_data]
          intro h
          rw [hiff.1 h] at hA
          cases hA
        have m2 : u.toList.isEmpty = false := by cases h : u.toList with | nil => exact absurd h m1 | cons x l => rfl
        clear hR hL hiff hA
        go_wp2_with fail
        go_ret
        exact ⟨ret_bool HD.out.symm, belx⟩
      · have hh := nameB_head (l := s.data.toList) (by omega) (by omega) hA
        have h1 : 0 < s.size := by omega
        have hg : s.data.toList.getD 0 0 = s[0] := by
          rw [List.getD_eq_getElem?_getD, List.getElem?_eq_getElem (by omega)]
          rfl
        rw [hg] at hh
        have hc : (s[0].toNat : Int).toNat.toUInt8 = s[0] := by simp
        have HC := Lib.hid hc
        have HD := Lib.hid hh
        have hI : Hid ((lowS.data.toList.contains s[0] = true ∧ 0 ≤ Lib.indexByte lowS.data.toList s[0]) ∨ (lowS.data.toList.contains s[0] = false ∧ ¬ 0 ≤ Lib.indexByte lowS.data.toList s[0])) := by
          refine Lib.hid ?_
          cases h : lowS.data.toList.contains s[0]
          · exact .inr ⟨rfl, low_no _ h⟩
          · exact .inl ⟨rfl, low_idx _ h⟩
        clear hlen hg hh hc
        go_enter Tryz.func73, Tryz.ntmps73
        go_wp2_with fail
        refine (trim_set namS namS_ascii (by decide) (by decide) s _ (by omega) (by omega)).mono ?_
        rintro e w1 ⟨t, u, rfl, hR, hL, hb1⟩
        have hiff := trim_none _ hR hL
        have m1 : u.toList = [] := by rw [Lib.toList_data]; exact hiff.2 hA
        clear hR hL hiff hA
        go_wp2_with fail
        refine (Tryz.strings_IndexByte lowS _ _).mono ?_
        rintro e w2 ⟨rfl, rfl⟩
        rw [HC.out]
        rcases hI.out with ⟨a1, a2⟩ | ⟨a1, a2⟩
        · rw [a1] at HD
          go_wp2_with fail
          go_ret
          exact ⟨ret_bool ((decide_eq_true a2).trans HD.out.symm), belx⟩
        · rw [a1] at HD
          go_wp2_with fail
          go_ret
          exact ⟨ret_bool ((decide_eq_false (by omega)).trans HD.out.symm), belx⟩
    · have i20 : ¬ (s.size : Int) ≤ 20 := by omega
      have HD := Lib.hid (nameB_long (l := s.data.toList) (by omega))
      clear hlen
      go_enter Tryz.func73, Tryz.ntmps73
      go_wp2_with fail
      go_ret
      exact ⟨ret_bool HD.out.symm, belx⟩
end Go.Proofs.YtplaohmdllindaaGreatDoor

/- Lists of texts in memory, and what joining makes of them. -/
namespace Go.Proofs.YtplaohmdllindaaGreatDoor
open Go.RowKit

/-- The slice at A reads as these texts. -/
def StrsIn (w : World) (A : Option Addr) (xs : List ByteArray) : Prop :=
  xs = [] ∨ ∃ bk o, A = some ⟨bk, o, none⟩ ∧ ∀ (j : Nat) x, xs[j]? = some x → w.cell? ⟨bk, o + j, none⟩ = some (.string x)
theorem StrsIn.below {w w' : World} {A : Option Addr} {xs : List ByteArray} (h : StrsIn w A xs) (hb : Below w.heap.size w w') : StrsIn w' A xs := by
  rcases h with h | ⟨bk, o, hA, hc⟩
  · exact .inl h
  · exact .inr ⟨bk, o, hA, fun j x hx => carry hb (hc j x hx)⟩
theorem join_len (xs : List (List UInt8)) (sep : List UInt8) : (Lib.join xs sep).length = sep.length * (xs.length - 1) + Lib.lens xs := by
  cases xs with
  | nil => rfl
  | cons x r => rw [Lib.join_length]; simp

end Go.Proofs.YtplaohmdllindaaGreatDoor

/- Rows of texts that are the call's own; 'append' to them. -/
namespace Go.Proofs.YtplaohmdllindaaGreatDoor
open Go.RowKit

theorem infoStr : ∃ i, Tryz.prog.info? 9 = some i ∧ i.zero = some (.string ⟨#[]⟩) ∧ i.size = 1 ∧ i.bytes = 16 := by
  have h : (Tryz.prog.info? 9).map (fun i => (i.zero, i.size, i.bytes)) = some (some (.string ⟨#[]⟩), 1, 16) := by kernel_rfl
  obtain ⟨i, hi, h2⟩ := Option.map_eq_some_iff.1 h
  simp only [Prod.mk.injEq] at h2
  exact ⟨i, hi, h2.1, h2.2.1, h2.2.2⟩

/-- A row of texts that is the call's own. -/
def OwnsS (w : World) (base : Nat) (v : Value) (xs : List ByteArray) : Prop := w.ownsRow base 9 1 v xs.length (xs.map .string)

theorem OwnsS.nil (w : World) (base : Nat) : OwnsS w base (.slice none 0 0) [] := World.ownsRow_nil w base _ 1
theorem OwnsS.alloc {w : World} {base : Nat} {v : Value} {xs : List ByteArray} (h : OwnsS w base v xs) (o : Obj) : OwnsS (w.alloc o) base v xs := World.ownsRow.alloc h o
theorem OwnsS.off {w w' : World} {base : Nat} {v : Value} {xs : List ByteArray} {l : List Nat} (h : OwnsS w base v xs) (hb : Off l w w') (hl : ∀ k, v.ownBlock = some k → k ∉ l) : OwnsS w' base v xs := by
  refine ⟨h.1, ?_⟩
  rcases h.2 with h2 | ⟨g, cap, cur, rfl, h3, h4, h5⟩
  · exact .inl h2
  · refine .inr ⟨g, cap, cur, rfl, h3, ?_, h5⟩
    rw [hb.block g (by have := (Array.getElem?_eq_some_iff.1 h4).1; omega) (hl g rfl)]
    exact h4
theorem OwnsS.below {w w' : World} {base : Nat} {v : Value} {xs : List ByteArray} (h : OwnsS w base v xs) (hb : Below w.heap.size w w') : OwnsS w' base v xs :=
  h.off ((Off.refl [] w).below hb (Nat.le_refl _)) (fun k _ => by simp)
/-- Its form, and its texts to be read. -/
theorem OwnsS.form {w : World} {base : Nat} {v : Value} {xs : List ByteArray} (h : OwnsS w base v xs) : ∃ A c, v = .slice A xs.length c ∧ (A = none → c = 0) ∧ StrsIn w A xs ∧ (∀ g, v.ownBlock = some g → base ≤ g ∧ g < w.heap.size) := by
  refine h.2.elim (fun ⟨h1, h2⟩ => ?_) (fun ⟨g, cap, cur, h1, h3, h4, h5⟩ => ?_)
  · obtain rfl : xs = [] := List.length_eq_zero_iff.1 h2
    exact ⟨none, 0, h1, fun _ => rfl, .inl rfl, fun g hg => by rw [h1] at hg; cases hg⟩
  · refine ⟨some ⟨g, 0, none⟩, cap, h1, (fun h => by cases h), .inr ⟨g, 0, rfl, fun j x hx => ?_⟩, fun g' hg => ?_⟩
    · have := World.ownsRow.cells h (g := g) (by rw [h1]; rfl) j (.string x) (by rw [List.getElem?_map, hx]; rfl)
      rw [Go.WideShapes.add_plain] at this
      exact this
    · rw [h1] at hg
      cases hg
      exact ⟨h3, (Array.getElem?_eq_some_iff.1 h4).1⟩

theorem OwnsS.strs {w : World} {base : Nat} {A : Option Addr} {n c : Nat} {xs : List ByteArray} (h : OwnsS w base (.slice A n c) xs) : StrsIn w A xs := by
  obtain ⟨A', c', h1, _, h2, _⟩ := h.form
  cases h1
  exact h2
theorem OwnsS.lit (w : World) {base : Nat} (hb : base ≤ w.heap.size) : OwnsS (w.alloc (.cells #[] 9)) base (.slice (some ⟨w.heap.size, 0, none⟩) 0 0) [] :=
  World.ownsRow_lit w #[] 0 hb (by simp [maxLen]) rfl

theorem grown_off {w w' : World} {row : Option Nat} {l : List Nat} (h : w.grownBy w' row) (hl : ∀ k, row = some k → k ∈ l) : Off l w w' :=
  ⟨h.os, h.tape, h.output, h.size, fun k hk hn => h.block k hk (fun e => hn (hl k e.symm))⟩

theorem StrsIn.one {w : World} {b : Nat} {x : ByteArray} (h : w.cell? ⟨b, 0, none⟩ = some (.string x)) : StrsIn w (some ⟨b, 0, none⟩) [x] :=
  .inr ⟨b, 0, rfl, fun j y hj => by
    cases j with
    | zero => simp at hj; subst hj; exact h
    | succ j => simp at hj⟩

/-- A row of texts behind them. -/
theorem append_many {w : World} {base : Nat} {v : Value} {xs ys : List ByteArray} {A : Option Addr} {c : Nat} (h : OwnsS w base v xs) (hy : StrsIn w A ys) (hA : A = none → c = 0) (ty : TypeId) (hb : base ≤ w.heap.size) (hn : xs.length + ys.length ≤ 8000000000000) :
    ∃ v' w', (Builtin.append_ #[177, 177] ty #[v, .slice A ys.length c]).run Tryz.prog w = .ok v' w' ∧
      OwnsS w' base v' (xs ++ ys) ∧ Off v.ownBlock.toList w w' := by
  obtain ⟨i, hi, hz, hsz, hby⟩ := infoStr
  cases A with
  | none =>
    obtain rfl := hA rfl
    obtain rfl : ys = [] := by
      rcases hy with h1 | ⟨b, o, h1, _⟩
      · exact h1
      · cases h1
    exact ⟨v, w, run_append_owned_none w base 177 ty 9 i 1 Tryz.underlying177 hi v xs.length _ h, by rw [List.append_nil]; exact h, Off.refl _ _⟩
  | some a =>
    obtain ⟨v', w', h1, h2, h3, _⟩ := run_append_own (P := Tryz.prog) w base 177 ty 9 i (.string ⟨#[]⟩) 1 16 Tryz.underlying177 hi hz hsz hby rfl (by omega) v xs.length _ h
      a ys.length c (ys.map .string) (by simp) (fun j u hj => by
        rcases hy with h1 | ⟨b, o, h1, h2⟩
        · subst h1; simp at hj
        · cases h1
          rw [List.getElem?_map, Option.map_eq_some_iff] at hj
          obtain ⟨x, hx, rfl⟩ := hj
          rw [Go.WideShapes.add_plain]
          exact h2 j x hx) (by simp [Value.oneCell']) (by simp [maxLen]; omega) (by omega) hb
    refine ⟨v', w', h1, ?_, grown_off h3 fun k hk => by simp [hk]⟩
    unfold OwnsS
    rw [List.map_append, List.length_append]
    exact h2

theorem OwnsS.grown {wa wb : World} {base : Nat} {v : Value} {xs : List ByteArray} (h : OwnsS wa base v xs) (hoff : Off v.ownBlock.toList wa wb) (hb : base ≤ wa.heap.size) : Below base wa wb := by
  obtain ⟨A, c, _, _, _, hl⟩ := h.form
  exact hoff.toBelow (fun k hk => (hl k (by simpa using hk)).1) hb

/-- An 'append' of a row of texts, in a walk. -/
theorem wpList_append_many {w : World} {ops : Array Oper} {rest : List Oper} {o : Oper} {a : Act} {Q : Exit → Act → World → Prop} (hgd : o.guard = none) (s x : Operand)
    (ho : o.op = .call { callee := .builtin .append, args := #[s, x], argTypes := #[177, 177] }) {base : Nat} {v : Value} {xs ys : List ByteArray} {A : Option Addr} {c : Nat}
    (hs : a.eval s = v) (hx : a.eval x = .slice A ys.length c) (hown : OwnsS w base v xs) (hy : StrsIn w A ys) (hA : A = none → c = 0) (hb : base ≤ w.heap.size) (hn : xs.length + ys.length ≤ 8000000000000)
    (h : ∀ v' w', OwnsS w' base v' (xs ++ ys) → Off v.ownBlock.toList w w' → wpList Tryz.prog ops Q rest (a.put o.dst v') w') : wpList Tryz.prog ops Q (o :: rest) a w := by
  refine wpList_plain hgd fun K hK => ?_
  obtain ⟨v', w', hr, h2, h3⟩ := append_many hown hy hA o.type hb hn
  unfold Oper.wp execOp
  simp only [ho, resolve, invoke, builtin, Sem.run_bind, Sem.run_pure, Result.andThen_ok, List.map_toArray, List.map_cons, List.map_nil, hs, hx, hr]
  exact hK _ _ (h v' w' h2 h3)
theorem wpList_append_one {w : World} {ops : Array Oper} {rest : List Oper} {o : Oper} {a : Act} {Q : Exit → Act → World → Prop} (hgd : o.guard = none) (s x : Operand)
    (ho : o.op = .call { callee := .builtin .append, args := #[s, x], argTypes := #[177, 177] }) {base : Nat} {v : Value} {xs : List ByteArray} {b : Nat} (y : ByteArray)
    (hs : a.eval s = v) (hx : a.eval x = .slice (some ⟨b, 0, none⟩) 1 1) (hown : OwnsS w base v xs) (hy : w.cell? ⟨b, 0, none⟩ = some (.string y)) (hb : base ≤ w.heap.size) (hn : xs.length ≤ 7000000000000)
    (h : ∀ v' w', OwnsS w' base v' (xs ++ [y]) → Off v.ownBlock.toList w w' → wpList Tryz.prog ops Q rest (a.put o.dst v') w') : wpList Tryz.prog ops Q (o :: rest) a w :=
  wpList_append_many hgd s x ho (ys := [y]) hs hx hown (StrsIn.one hy) (fun h => by cases h) hb (by simp; omega) h

end Go.Proofs.YtplaohmdllindaaGreatDoor

/- strings.Join of a row of texts that lie there. -/
namespace Go.Proofs.YtplaohmdllindaaGreatDoor
open Go.RowKit

theorem OwnsS.cap {w : World} {base : Nat} {A : Option Addr} {n c : Nat} {xs : List ByteArray} (h : OwnsS w base (.slice A n c) xs) : n = xs.length ∧ n ≤ c := by
  rcases h.2 with ⟨h1, h2⟩ | ⟨g, cap, cur, h1, h3, h4, h5, _⟩
  · cases h1
    exact ⟨h2.symm, Nat.le_refl _⟩
  · cases h1
    exact ⟨rfl, h5⟩
theorem strings_joinW {A : Option Addr} {c : Nat} {xs : List ByteArray} (n : Nat) (sep : ByteArray) (w : World) (hn : xs.length = n) (h : StrsIn w A xs) (hc : n ≤ c) (hN : n ≤ 140737488355328) (hlen : (Lib.join (xs.map (·.data.toList)) sep.data.toList).length ≤ 140737488355328) :
    Calls Tryz.prog 88 #[.slice A n c, .string sep] w fun e w' => e = .returned (.string ⟨(Lib.join (xs.map (·.data.toList)) sep.data.toList).toArray⟩) ∧ Below w.heap.size w w' := by
  subst hn
  by_cases h0 : xs = []
  · subst h0
    refine (Tryz.strings_Join_none _ c sep w).mono ?_
    rintro e w' ⟨rfl, rfl⟩
    exact ⟨rfl, Below.refl _ _⟩
  · rcases h with h | ⟨bk, o, rfl, hcell⟩
    · exact absurd h h0
    · obtain ⟨x, r, rfl⟩ := List.exists_cons_of_ne_nil h0
      exact Tryz.strings_Join bk o c (x :: r) sep w hcell (lt_of_cell (hcell 0 x rfl)) (by omega) hc hlen
end Go.Proofs.YtplaohmdllindaaGreatDoor

/- What walks over rows of texts share. -/
namespace Go.Proofs.YtplaohmdllindaaGreatDoor
open Go.RowKit

theorem below_setCells {B : Nat} {a : World} {b : Nat} (hb : B ≤ b) : ∀ (vs : List Value) (o : Nat) (w : World), Below B a w → Below B a (w.setCells b o vs)
  | [], _, _, h => h
  | v :: r, o, w, h => below_setCells hb r (o + 1) _ (bel_set h hb)
end Go.Proofs.YtplaohmdllindaaGreatDoor

/- slices.Reverse of a row of texts of one's own; strings.Join of a row of texts. -/
namespace Go.Proofs.YtplaohmdllindaaGreatDoor
open Go.RowKit

theorem strsOf_eq (xs : List ByteArray) : Lib.strsOf (fun i => xs.getD i ⟨#[]⟩) xs.length = xs.map (·.data.toList) := by
  unfold Lib.strsOf
  apply List.ext_getElem?
  intro i
  rw [List.getElem?_map, List.getElem?_map]
  by_cases h : i < xs.length
  · simp [h]
  · simp [h]

theorem rev_strs {A : Option Addr} {c base : Nat} {xs : List ByteArray} (n : Nat) (w : World) (hn : n = xs.length) (h : OwnsS w base (.slice A n c) xs) (hB : base ≤ w.heap.size) (hN : n ≤ 9223372036854775807) :
    Calls Tryz.prog 87 #[.slice A n c] w fun e w' => e = .returned (.tuple #[]) ∧ StrsIn w' A xs.reverse ∧ Below base w w' := by
  subst hn
  by_cases h0 : xs = []
  · subst h0
    refine (Tryz.slices_Reverse_string_empty A c w).mono ?_
    rintro e w' ⟨rfl, rfl⟩
    exact ⟨rfl, .inl rfl, Below.refl _ _⟩
  · have h' := h
    rcases h.2 with ⟨h1, h2⟩ | ⟨g, cap, cur, h1, h3, h4, _⟩
    · exact absurd (List.length_eq_zero_iff.1 h2) h0
    · cases h1
      have hs := h'.strs
      have hcell : ∀ i, i < xs.length → w.cell? ⟨g, 0 + i, none⟩ = some (.string (xs.getD i ⟨#[]⟩)) := fun i hi => by
        rcases hs with h | ⟨bk, o, e, hc⟩
        · exact absurd h h0
        · cases e
          refine hc i _ ?_
          rw [List.getElem?_eq_getElem hi, List.getD_eq_getElem?_getD, List.getElem?_eq_getElem hi]; rfl
      have hf : ∀ j, j < xs.length → w.frozen? ⟨g, 0 + j, none⟩ = false := fun j _ => by simp [World.frozen?, h4]
      refine (Tryz.slices_Reverse_string_cells g 0 xs.length c (fun i => xs.getD i ⟨#[]⟩) w hN hcell hf).mono ?_
      rintro e w' ⟨rfl, q, rfl⟩
      rw [strsOf_eq]
      refine ⟨rfl, .inr ⟨g, 0, rfl, fun j x hx => ?_⟩, below_setCells h3 _ _ _ (bel_drewN q (Below.refl _ _))⟩
      have hj : j < xs.length := by simpa using (List.getElem?_eq_some_iff.1 hx).1
      rw [World.cell?_setCells_in g _ 0 _ (fun i hi => by
        have : (w.drewN q).cell? ⟨g, 0 + i, none⟩ = w.cell? ⟨g, 0 + i, none⟩ := rfl
        rw [this, hcell i (by simpa using hi)]; rfl) j (by simpa using hj)]
      congr 1
      have hx2 := (List.getElem?_eq_some_iff.1 hx).2
      simp only [List.getElem_map, List.getElem_reverse, List.length_map] at hx2 ⊢
      rw [← hx2]
end Go.Proofs.YtplaohmdllindaaGreatDoor

/- Digits in groups, in plain terms. No program stands here. -/
namespace Go.Proofs.YtplaohmdllindaaGreatDoor
open Go.RowKit

/-- The pieces from the right: one of a signs, then each of b. -/
def pcsF : Nat → Nat → Nat → List UInt8 → List (List UInt8)
  | 0, _, _, l => [l]
  | k + 1, a, b, l => if l.length ≤ a then [l] else l.drop (l.length - a) :: pcsF k b b (l.take (l.length - a))
theorem pcsF_small (k a b : Nat) (l : List UInt8) (h : l.length ≤ a) : pcsF k a b l = [l] := by
  cases k with
  | zero => rfl
  | succ k => rw [pcsF, if_pos h]
theorem pcsF_big (k a b : Nat) (l : List UInt8) (h : ¬ l.length ≤ a) : pcsF (k + 1) a b l = l.drop (l.length - a) :: pcsF k b b (l.take (l.length - a)) := by rw [pcsF, if_neg h]
theorem pcsF_lens : ∀ (k a b : Nat) (l : List UInt8), Lib.lens (pcsF k a b l) = l.length ∧ (pcsF k a b l).length ≤ k + 1 ∧ pcsF k a b l ≠ [] := by
  intro k
  induction k with
  | zero => intro a b l; simp [pcsF, Lib.lens]
  | succ k ih =>
    intro a b l
    by_cases h : l.length ≤ a
    · rw [pcsF_small _ _ _ _ h]; simp [Lib.lens]
    · obtain ⟨h1, h2, _⟩ := ih b b (l.take (l.length - a))
      rw [pcsF_big _ _ _ _ h]
      refine ⟨?_, by simp; omega, by simp⟩
      have e : Lib.lens (l.drop (l.length - a) :: pcsF k b b (l.take (l.length - a))) = (l.drop (l.length - a)).length + Lib.lens (pcsF k b b (l.take (l.length - a))) := by simp [Lib.lens]
      rw [e, h1, List.length_drop, List.length_take]
      omega
/-- The text with its groups. -/
def grpC (cm : UInt8) (a b : Nat) (s : ByteArray) : ByteArray := ⟨(Lib.join (pcsF s.size a b s.data.toList).reverse [cm]).toArray⟩
theorem grpC_size (cm : UInt8) (a b : Nat) (s : ByteArray) : (grpC cm a b s).size ≤ 2 * s.size := by
  obtain ⟨h1, h2, h3⟩ := pcsF_lens s.size a b s.data.toList
  show (Lib.join (pcsF s.size a b s.data.toList).reverse [cm]).length ≤ _
  rw [join_len]
  have hr : Lib.lens (pcsF s.size a b s.data.toList).reverse = Lib.lens (pcsF s.size a b s.data.toList) := by
    unfold Lib.lens
    rw [List.map_reverse, List.sum_reverse]
  have hs : s.data.toList.length = s.size := by simp
  rw [hr, h1, List.length_reverse]
  simp only [List.length_cons, List.length_nil]
  omega

/-- What group.Put tells of digits. -/
def putC (cm : UInt8) (g g2 : Nat) (s : ByteArray) : ByteArray := if g = 0 then s else grpC cm g (if g2 = 0 then g else g2) s
theorem putC_size (cm : UInt8) (g g2 : Nat) (s : ByteArray) : (putC cm g g2 s).size ≤ 2 * s.size := by
  unfold putC
  split
  · omega
  · exact grpC_size _ _ _ _
end Go.Proofs.YtplaohmdllindaaGreatDoor

/- nout.Format, in plain terms. No program stands here. -/
namespace Go.Proofs.YtplaohmdllindaaGreatDoor

/-- nout.trimmed -/
def trimP : Int → Nat → Int × Nat
  | c, 0 => (c, 0)
  | c, s + 1 => if c.tmod 10 = 0 then trimP (c.tdiv 10) s else (c, s + 1)
theorem trimP_ok : ∀ (s : Nat) (c : Int), decOk c s → decOk (trimP c s).1 (trimP c s).2 ∧ (trimP c s).2 ≤ s
  | 0, c, h => ⟨h, Nat.le_refl _⟩
  | s + 1, c, h => by
    unfold trimP
    split
    · have h2 : decOk (c.tdiv 10) s := by
        obtain ⟨h1, h2, h3, h4⟩ := h
        obtain ⟨q1, q2, _⟩ := tdiv_facts c 10 (by omega) h3 h4
        exact ⟨by omega, by omega, q1, q2⟩
      obtain ⟨a, b⟩ := trimP_ok s _ h2
      exact ⟨a, by omega⟩
    · exact ⟨h, Nat.le_refl _⟩
theorem round_ok {c : Int} {s xf : Nat} (h : decOk c s) (hlt : xf < s) : decOk (rnd c s xf 5) xf := by
  obtain ⟨h1, h2, h3, h4⟩ := h
  have hu : 10 ≤ ten ((s : Int) - (xf : Int)).toNat := by
    obtain ⟨n, hn⟩ : ∃ n, ((s : Int) - (xf : Int)).toNat = n + 1 := ⟨((s : Int) - (xf : Int)).toNat - 1, by omega⟩
    rw [hn, ten_succ]
    have := (ten_bd9 n (by omega)).1
    omega
  have key : ∀ m u : Int, 10 ≤ u → 0 ≤ m → m ≤ 1000000000000000 → 0 ≤ m / u ∧ m / u ≤ 100000000000000 := fun m u hu hm hb => by
    have q0 : 0 ≤ m / u := Int.ediv_nonneg hm (by omega)
    have q1 : u * (m / u) ≤ m := Int.mul_ediv_self_le (by omega)
    have q2 : 10 * (m / u) ≤ u * (m / u) := Int.mul_le_mul_of_nonneg_right hu q0
    omega
  unfold rnd
  rw [if_neg (by omega)]
  split
  · obtain ⟨a, b⟩ := key (-c) _ hu (by omega) (by omega)
    split <;> exact ⟨by omega, by omega, by omega, by omega⟩
  · obtain ⟨a, b⟩ := key c _ hu (by omega) (by omega)
    split <;> exact ⟨by omega, by omega, by omega, by omega⟩
/-- the number that is shown -/
def fixP (xf : Nat) (c : Int) (s : Nat) : Int × Nat := if xf < (trimP c s).2 then trimP (rnd (trimP c s).1 (trimP c s).2 xf 5) xf else trimP c s
theorem fixP_le {xf : Nat} {c : Int} {s : Nat} (h : decOk c s) : decOk (fixP xf c s).1 (fixP xf c s).2 ∧ (fixP xf c s).2 ≤ s := by
  obtain ⟨a, b⟩ := trimP_ok s c h
  unfold fixP
  split
  · rename_i h1
    obtain ⟨a2, b2⟩ := trimP_ok xf _ (round_ok a h1)
    exact ⟨a2, by omega⟩
  · exact ⟨a, b⟩
/-- the digits ahead of the point, and those behind it -/
def wholeB (c : Int) (s : Nat) : ByteArray := (padB c s).extract 0 ((padB c s).size - s)
def behindB (c : Int) (s : Nat) : ByteArray := (padB c s).extract ((padB c s).size - s) (padB c s).size
def zeroB (k : Nat) : ByteArray := ⟨(Lib.repeatL [48] k).toArray⟩
def noutB (neg : Bool) (p T B q : ByteArray) (pt : UInt8) : ByteArray :=
  ⟨((if neg = true then [45] else []) ++ p.data.toList ++ T.data.toList ++ (if B.toList.isEmpty then [] else pt :: B.data.toList) ++ q.data.toList).toArray⟩
/-- nout.Format of what is right -/
def fmtT (p q : ByteArray) (mi mf xf g g2 : Nat) (pt cm : UInt8) (c : Int) (s : Nat) : ByteArray :=
  noutB (decide ((fixP xf c s).1 < 0)) p (putC cm g g2 (zeroB (mi - (wholeB (fixP xf c s).1 (fixP xf c s).2).size) ++ wholeB (fixP xf c s).1 (fixP xf c s).2)) (behindB (fixP xf c s).1 (fixP xf c s).2 ++ zeroB (mf - (behindB (fixP xf c s).1 (fixP xf c s).2).size)) q pt
/-- eval.Numeral of what is right -/
def numT (c : Int) (s : Nat) : ByteArray := fmtT ⟨#[]⟩ ⟨#[]⟩ 1 0 3 3 0 46 44 c s
theorem padB_le {c : Int} {s : Nat} (h : decOk c s) : 1 + s ≤ (padB c s).size ∧ (padB c s).size ≤ 26 := by
  obtain ⟨h1, h2, h3, h4⟩ := h
  have hds := ddB_size c ⟨by omega, by omega, h3, h4⟩
  have hps := padB_size c s
  omega
theorem parts_size {c : Int} {s : Nat} (h : decOk c s) : 1 ≤ (wholeB c s).size ∧ (wholeB c s).size ≤ 26 ∧ (behindB c s).size ≤ 26 := by
  have := padB_le h
  unfold wholeB behindB
  rw [ByteArray.size_extract, ByteArray.size_extract]
  omega
theorem fmtT_size (p q : ByteArray) (mi mf xf g g2 : Nat) (pt cm : UInt8) {c : Int} {s : Nat} (h : decOk c s) : (fmtT p q mi mf xf g g2 pt cm c s).size ≤ p.size + q.size + 2 * mi + mf + 90 := by
  obtain ⟨h1, _⟩ := fixP_le (xf := xf) h
  unfold fmtT
  generalize fixP xf c s = r at *
  obtain ⟨a, b, c'⟩ := parts_size h1
  have hz : ∀ k, (zeroB k).size = k := fun k => by show (Lib.repeatL [48] k).length = k; rw [Lib.repeatL_length]; simp
  have hp := putC_size cm g g2 (zeroB (mi - (wholeB r.1 r.2).size) ++ wholeB r.1 r.2)
  rw [ByteArray.size_append, hz] at hp
  have hB : (behindB r.1 r.2 ++ zeroB (mf - (behindB r.1 r.2).size)).size = (behindB r.1 r.2).size + (mf - (behindB r.1 r.2).size) := by rw [ByteArray.size_append, hz]
  generalize putC cm g g2 (zeroB (mi - (wholeB r.1 r.2).size) ++ wholeB r.1 r.2) = T at *
  generalize behindB r.1 r.2 ++ zeroB (mf - (behindB r.1 r.2).size) = B at *
  show (((if decide (r.1 < 0) = true then [45] else []) ++ p.data.toList ++ T.data.toList ++ (if B.toList.isEmpty then [] else pt :: B.data.toList) ++ q.data.toList).length) ≤ _
  rw [List.length_append, List.length_append, List.length_append, List.length_append, bsize, bsize, bsize]
  have k1 : (if decide (r.1 < 0) = true then ([45] : List UInt8) else []).length ≤ 1 := by split <;> simp
  have k2 : (if B.toList.isEmpty then ([] : List UInt8) else pt :: B.data.toList).length ≤ 1 + B.size := by
    split
    · simp
    · rw [List.length_cons, bsize]; omega
  omega
theorem numT_size (c : Int) (s : Nat) (h : decOk c s) : (numT c s).size ≤ 200 := by
  have := fmtT_size ⟨#[]⟩ ⟨#[]⟩ 1 0 3 3 0 46 44 h
  have e : (⟨#[]⟩ : ByteArray).size = 0 := rfl
  unfold numT
  omega
end Go.Proofs.YtplaohmdllindaaGreatDoor

/- npat.affix. -/
namespace Go.Proofs.YtplaohmdllindaaGreatDoor
open Go.RowKit

def lets : ByteArray := ⟨#[97, 98, 99, 100, 101, 102, 103, 104, 105, 106, 107, 108, 109, 110, 111, 112, 113, 114, 115, 116, 117, 118, 119, 120, 121, 122, 65, 66, 67, 68, 69, 70, 71, 72, 73, 74, 75, 76, 77, 78, 79, 80, 81, 82, 83, 84, 85, 86, 87, 88, 89, 90, 32, 36, 37]⟩
theorem lets_ascii : ∀ (j : Nat) (b : UInt8), lets.data.toList[j]? = some b → b.toNat < 128 := by
  intro j b h
  have hm := List.mem_of_getElem? h
  have : ∀ x ∈ lets.data.toList, x.toNat < 128 := by decide
  exact this b hm

/-- Whether a text may stand ahead of or behind a number. -/
def affB (s : ByteArray) : Bool := decide (s.size ≤ 5) && s.data.toList.all (lets.data.toList.contains ·)

theorem npat_affix (s : ByteArray) (w : World) (hs : s.size ≤ 9223372036854775807) :
    Calls Tryz.prog 142 #[.string s] w fun e w' => e = .returned (.bool (affB s)) ∧ Below w.heap.size w w' := by
  go_enter Tryz.func142, Tryz.ntmps142
  by_cases h5 : s.size ≤ 5
  · have i5 : (s.size : Int) ≤ 5 := by omega
    by_cases h0 : s.size = 0
    · have he : s = ⟨#[]⟩ := ByteArray.ext (Array.eq_empty_of_size_eq_zero h0)
      subst he
      have HD : Hid (affB ⟨#[]⟩ = true) := Lib.hid (by decide)
      have hv : ∀ w, Calls Tryz.prog 140 #[.string ⟨#[]⟩, .string lets] w fun e w' => e = .returned (.string ⟨#[]⟩) ∧ w' = w := by
        intro w
        go_enter Tryz.func140, Tryz.ntmps140
        go_wp2_with fail
        go_ret
        exact ⟨rfl, rfl⟩
      go_wp2_with fail
      refine (hv w).mono ?_
      rintro e w1 ⟨rfl, rfl⟩
      go_wp2_with fail
      go_ret
      exact ⟨ret_bool HD.out.symm, belx⟩
    · go_wp2_with fail
      refine (trim_set lets lets_ascii (by decide) (by decide) s w (by omega) (by omega)).mono ?_
      rintro e w1 ⟨t, u, rfl, hR, hL, hb1⟩
      have hiff := trim_none _ hR hL
      have hd : affB s = s.data.toList.all (lets.data.toList.contains ·) := by
        unfold affB
        rw [decide_eq_true h5, Bool.true_and]
      cases hA : s.data.toList.all (lets.data.toList.contains ·)
      · have m1 : ¬ u.toList = [] := by
          rw [Lib.toList_data]
          intro h
          rw [hiff.1 h] at hA
          cases hA
        have m2 : u.toList.isEmpty = false := by cases h : u.toList with | nil => exact absurd h m1 | cons x l => rfl
        have HD := Lib.hid (hd.trans hA)
        clear hR hL hiff hA hd
        go_wp2_with fail
        go_ret
        exact ⟨ret_bool HD.out.symm, belx⟩
      · have m1 : u.toList = [] := by rw [Lib.toList_data]; exact hiff.2 hA
        have HD := Lib.hid (hd.trans hA)
        clear hR hL hiff hA hd
        go_wp2_with fail
        go_ret
        exact ⟨ret_bool HD.out.symm, belx⟩
  · have i5 : ¬ (s.size : Int) ≤ 5 := by omega
    have HD : Hid (affB s = false) := Lib.hid (by unfold affB; rw [decide_eq_false h5, Bool.false_and])
    go_wp2_with fail
    go_ret
    exact ⟨ret_bool HD.out.symm, belx⟩
end Go.Proofs.YtplaohmdllindaaGreatDoor

/- npat.Check. -/
namespace Go.Proofs.YtplaohmdllindaaGreatDoor
open Go.RowKit

abbrev patV (p q : ByteArray) (mi mf xf g g2 : Int) : Value := .agg #[.string p, .string q, .int .i64 mi, .int .i64 mf, .int .i64 xf, .int .i64 g, .int .i64 g2]
def PatIn (mi mf xf g g2 : Int) : Prop := 1 ≤ mi ∧ mi ≤ 9 ∧ 0 ≤ xf ∧ xf ≤ 6 ∧ 0 ≤ mf ∧ mf ≤ xf ∧ 0 ≤ g ∧ g ≤ 4 ∧ 0 ≤ g2 ∧ g2 ≤ 4
instance (mi mf xf g g2 : Int) : Decidable (PatIn mi mf xf g g2) := by unfold PatIn; exact inferInstance
def patErr (p q : ByteArray) (mi mf xf g g2 : Int) : Int :=
  if affB p = false ∨ affB q = false then 3 else if ¬ PatIn mi mf xf g g2 then 1 else if g2 ≠ 0 ∧ g = 0 then 3 else 0

set_option maxHeartbeats 2000000 in
theorem pat_check_a (p q : ByteArray) (mi mf xf g g2 : Int) (w : World) (hp : p.size ≤ 9223372036854775807) (hq : q.size ≤ 9223372036854775807) (h : affB p = false ∨ affB q = false) :
    Calls Tryz.prog 75 #[patV p q mi mf xf g g2] w fun e w' => e = .returned (errT 3) ∧ Below w.heap.size w w' := by
  have KP := Lib.hid (fun W => npat_affix p W hp)
  have KQ := Lib.hid (fun W => npat_affix q W hq)
  cases h1 : affB p
  · rw [h1] at KP
    clear h KQ
    go_enter Tryz.func75, Tryz.ntmps75
    go_wp2_with fail
    refine (KP.out _).mono ?_
    rintro e w1 ⟨rfl, hb1⟩
    have s1 := hb1.size
    simp at s1
    go_wp2_with fail
    go_ret
    exact ⟨rfl, belx⟩
  · have h2 : affB q = false := by rcases h with h | h; (rw [h1] at h; cases h); exact h
    rw [h1] at KP
    rw [h2] at KQ
    clear h h1 h2
    go_enter Tryz.func75, Tryz.ntmps75
    go_wp2_with fail
    refine (KP.out _).mono ?_
    rintro e w1 ⟨rfl, hb1⟩
    have s1 := hb1.size
    simp at s1
    have c1 : w1.cell? ⟨w.heap.size, 1, none⟩ = some (.string q) := carry hb1 (by rw [World.cell?_alloc_at _ _ _ _ rfl]; rfl)
    go_wp2_with fail
    refine (KQ.out _).mono ?_
    rintro e w2 ⟨rfl, hb2⟩
    have s2 := hb2.size
    go_wp2_with fail
    go_ret
    exact ⟨rfl, belx⟩

set_option maxHeartbeats 4000000 in
theorem pat_check_b (p q : ByteArray) (mi mf xf g g2 : Int) (w : World) (hp : p.size ≤ 9223372036854775807) (hq : q.size ≤ 9223372036854775807) (h1 : affB p = true) (h2 : affB q = true) (E : Int)
    (hE : ¬ PatIn mi mf xf g g2 ∧ E = 1 ∨ PatIn mi mf xf g g2 ∧ g2 ≠ 0 ∧ g = 0 ∧ E = 3 ∨ PatIn mi mf xf g g2 ∧ ¬ (g2 ≠ 0 ∧ g = 0) ∧ E = 0) :
    Calls Tryz.prog 75 #[patV p q mi mf xf g g2] w fun e w' => e = .returned (errOf E) ∧ Below w.heap.size w w' := by
  have KP := Lib.hid (fun W => npat_affix p W hp)
  have KQ := Lib.hid (fun W => npat_affix q W hq)
  rw [h1] at KP
  rw [h2] at KQ
  clear h1 h2
  have HE := Lib.hid hE
  clear hE
  go_enter Tryz.func75, Tryz.ntmps75
  go_wp2_with fail
  refine (KP.out _).mono ?_
  rintro e w1 ⟨rfl, hb1⟩
  have s1 := hb1.size
  simp at s1
  have c1 : w1.cell? ⟨w.heap.size, 1, none⟩ = some (.string q) := carry hb1 (by rw [World.cell?_alloc_at _ _ _ _ rfl]; rfl)
  have d2 : w1.cell? ⟨w.heap.size, 2, none⟩ = some (.int .i64 mi) := carry hb1 (by rw [World.cell?_alloc_at _ _ _ _ rfl]; rfl)
  have d3 : w1.cell? ⟨w.heap.size, 3, none⟩ = some (.int .i64 mf) := carry hb1 (by rw [World.cell?_alloc_at _ _ _ _ rfl]; rfl)
  have d4 : w1.cell? ⟨w.heap.size, 4, none⟩ = some (.int .i64 xf) := carry hb1 (by rw [World.cell?_alloc_at _ _ _ _ rfl]; rfl)
  have d5 : w1.cell? ⟨w.heap.size, 5, none⟩ = some (.int .i64 g) := carry hb1 (by rw [World.cell?_alloc_at _ _ _ _ rfl]; rfl)
  have d6 : w1.cell? ⟨w.heap.size, 6, none⟩ = some (.int .i64 g2) := carry hb1 (by rw [World.cell?_alloc_at _ _ _ _ rfl]; rfl)
  go_wp2_with fail
  refine (KQ.out _).mono ?_
  rintro e w2 ⟨rfl, hb2⟩
  have s2 := hb2.size
  have e2 : w2.cell? ⟨w.heap.size, 2, none⟩ = some (.int .i64 mi) := carry hb2 d2
  have e3 : w2.cell? ⟨w.heap.size, 3, none⟩ = some (.int .i64 mf) := carry hb2 d3
  have e4 : w2.cell? ⟨w.heap.size, 4, none⟩ = some (.int .i64 xf) := carry hb2 d4
  have e5 : w2.cell? ⟨w.heap.size, 5, none⟩ = some (.int .i64 g) := carry hb2 d5
  have e6 : w2.cell? ⟨w.heap.size, 6, none⟩ = some (.int .i64 g2) := carry hb2 d6
  rcases HE.out with ⟨h, rfl⟩ | ⟨⟨a1, a2, a3, a4, a5, a6, a7, a8, a9, a10⟩, b1, b2, rfl⟩ | ⟨⟨a1, a2, a3, a4, a5, a6, a7, a8, a9, a10⟩, b1, rfl⟩
  · have HN := Lib.hid h
    clear h HE
    go_wp2_with fail
    all_goals (try (exfalso; exact HN.out ⟨by omega, by omega, by omega, by omega, by omega, by omega, by omega, by omega, by omega, by omega⟩))
    all_goals go_ret
    all_goals exact ⟨rfl, belx⟩
  · clear HE
    have m1 : ¬ mi < 1 := by omega
    have m2 : ¬ 9 < mi := by omega
    have m3 : ¬ xf < 0 := by omega
    have m4 : ¬ 6 < xf := by omega
    have m5 : ¬ mf < 0 := by omega
    have m6 : ¬ xf < mf := by omega
    have m7 : ¬ g < 0 := by omega
    have m8 : ¬ 4 < g := by omega
    have m9 : ¬ g2 < 0 := by omega
    have m10 : ¬ 4 < g2 := by omega
    go_wp2_with fail
    go_ret
    exact ⟨rfl, belx⟩
  · clear HE
    have m1 : ¬ mi < 1 := by omega
    have m2 : ¬ 9 < mi := by omega
    have m3 : ¬ xf < 0 := by omega
    have m4 : ¬ 6 < xf := by omega
    have m5 : ¬ mf < 0 := by omega
    have m6 : ¬ xf < mf := by omega
    have m7 : ¬ g < 0 := by omega
    have m8 : ¬ 4 < g := by omega
    have m9 : ¬ g2 < 0 := by omega
    have m10 : ¬ 4 < g2 := by omega
    clear a1 a2 a3 a4 a5 a6 a7 a8 a9 a10
    by_cases hz : g2 = 0
    · subst hz
      clear b1
      go_wp2_with fail
      go_ret
      exact ⟨rfl, belx⟩
    · have hg : ¬ g = 0 := fun hg => b1 ⟨hz, hg⟩
      clear b1
      go_wp2_with fail
      all_goals (first | (rename_i hh; exfalso; simp at hh; omega) | skip)
      go_ret
      exact ⟨rfl, belx⟩

theorem pat_check (p q : ByteArray) (mi mf xf g g2 : Int) (w : World) (hp : p.size ≤ 9223372036854775807) (hq : q.size ≤ 9223372036854775807) :
    Calls Tryz.prog 75 #[patV p q mi mf xf g g2] w fun e w' => e = .returned (errOf (patErr p q mi mf xf g g2)) ∧ Below w.heap.size w w' := by
  unfold patErr
  by_cases h : affB p = false ∨ affB q = false
  · rw [if_pos h]
    exact pat_check_a p q mi mf xf g g2 w hp hq h
  · rw [if_neg h]
    have h1 : affB p = true := by cases hh : affB p; exact absurd (.inl hh) h; rfl
    have h2 : affB q = true := by cases hh : affB q; exact absurd (.inr hh) h; rfl
    apply pat_check_b p q mi mf xf g g2 w hp hq h1 h2
    by_cases hi : PatIn mi mf xf g g2
    · rw [if_neg (by simpa using hi)]
      by_cases hg : g2 ≠ 0 ∧ g = 0
      · rw [if_pos hg]; exact .inr (.inl ⟨hi, hg.1, hg.2, rfl⟩)
      · rw [if_neg hg]; exact .inr (.inr ⟨hi, hg, rfl⟩)
    · rw [if_pos hi]; exact .inl ⟨hi, rfl⟩
end Go.Proofs.YtplaohmdllindaaGreatDoor

/- strings.Trim with the ten digits; group.digits. -/
namespace Go.Proofs.YtplaohmdllindaaGreatDoor
open Go.RowKit

def digs : ByteArray := ⟨#[48, 49, 50, 51, 52, 53, 54, 55, 56, 57]⟩
theorem digs_ascii : ∀ (j : Nat) (b : UInt8), digs.data.toList[j]? = some b → b.toNat < 128 := by
  intro j b h
  have hm := List.mem_of_getElem? h
  have : ∀ x ∈ digs.data.toList, x.toNat < 128 := by decide
  exact this b hm
theorem trim_digits (s : ByteArray) (w : World) (h0 : 0 < s.size) (hs : s.size ≤ 9000000000000000000) :
    Calls Tryz.prog 140 #[.string s, .string digs] w fun e w' => ∃ t u : ByteArray, e = .returned (.string u) ∧ TrimR s t (digs.data.toList.contains ·) ∧ TrimL t u (digs.data.toList.contains ·) ∧ Below w.heap.size w w' := by
  have hv : ∀ w, (zeroValue 182).run Tryz.prog w = .ok (.agg (Array.replicate 256 (.bool false))) w := fun _ => by kernel_rfl
  have hmk := fun w => Tryz.strings_makeASCIISet hv digs w (by decide) digs_ascii
  have n1 : ¬ s.toList = [] := by
    rw [Lib.toList_data]
    intro h
    have : s.data.toList.length = s.size := by simp
    rw [h] at this
    simp at this
    omega
  have n2 : s.toList.isEmpty = false := by cases h : s.toList with | nil => exact absurd h n1 | cons x l => rfl
  have n3 : digs.toList.isEmpty = false := by rw [Lib.toList_data]; rfl
  have n4 : ¬ ((digs.size : Int) = 1) := by decide
  have HM := Lib.hid hmk
  have hz : (Lib.setCells digs.data.toList).size = 256 := Lib.setCells_size _
  have hone : (Lib.setCells digs.data.toList).all (·.oneCell') = true := Lib.setCells_one _
  have hat := Lib.hid (fun x => Lib.setCells_at digs.data.toList x)
  clear hmk
  go_enter Tryz.func140, Tryz.ntmps140
  go_wp2_with fail
  refine (HM.out w).mono ?_
  rintro e w1 ⟨rfl, hw1⟩
  generalize Lib.setCells digs.data.toList = Z at *
  have hin : (Tryz.prog.info? 182).map (·.size) = some Z.size := by rw [hz]; kernel_rfl
  have hst := run_storeCells_new (P := Tryz.prog) w1 182 (Array.replicate 256 (.bool false)) Z hin (by rw [hz]; simp) hone
  subst hw1
  have hsz : (w.alloc (.cells Z 182)).heap.size = w.heap.size + 1 := by simp
  rw [hsz] at hst
  have hS : SetAt ((w.alloc (.cells Z 182)).alloc (.cells Z 182)) (w.heap.size + 1) (digs.data.toList.contains ·) := fun x => by
    have h := heap_alloc_new (w.alloc (.cells Z 182)) (.cells Z 182)
    have h2 := hat.out x
    rw [hsz] at h
    unfold World.cell?
    rw [h]
    exact h2
  have HS := Lib.hid hS
  clear hS hin hone
  go_wp2_with fail
  refine (trim_right s _ _ _ HS.out hs).mono ?_
  rintro e w2 ⟨t, rfl, hR, rfl⟩
  have hts : t.size ≤ s.size := by
    obtain ⟨r, h1, _⟩ := hR
    have := congrArg List.length h1
    simp at this
    omega
  have HR := Lib.hid hR
  clear hR
  go_wp2_with fail
  refine (trim_left t _ _ _ HS.out (by omega)).mono ?_
  rintro e w3 ⟨u, rfl, hL, rfl⟩
  have HL := Lib.hid hL
  clear hL
  go_wp2_with fail
  go_ret
  exact ⟨t, u, rfl, HR.out, HL.out, belx⟩
end Go.Proofs.YtplaohmdllindaaGreatDoor

/- group.digits, group.check. -/
namespace Go.Proofs.YtplaohmdllindaaGreatDoor
open Go.RowKit

def digitsB (s : ByteArray) : Bool := !(s.toList == []) && s.data.toList.all (digs.data.toList.contains ·)

theorem trim_empty {s t u : ByteArray} {P : UInt8 → Bool} (h1 : TrimR s t P) (h2 : TrimL t u P) : (u.data.toList = [] ↔ s.data.toList.all P = true) := by
  obtain ⟨r, e1, r1, c1⟩ := h1
  obtain ⟨q, e2, q1, c2⟩ := h2
  rw [e1, e2]
  constructor
  · intro hu
    rw [hu, List.append_nil, List.all_append, q1, r1]; rfl
  · intro hall
    rcases c2 with h | ⟨c, l, h, hc⟩
    · exact h
    · rw [h] at hall
      simp only [List.all_append, List.all_cons, hc, Bool.false_and, Bool.and_false] at hall
      cases hall

theorem group_digits (s : ByteArray) (w : World) (hs : s.size ≤ 9000000000000000000) :
    Calls Tryz.prog 85 #[.string s] w fun e w' => e = .returned (.bool (digitsB s)) ∧ Below w.heap.size w w' := by
  go_enter Tryz.func85, Tryz.ntmps85
  by_cases h0 : s.size = 0
  · have he : s = ⟨#[]⟩ := by
      apply ByteArray.ext
      exact Array.eq_empty_of_size_eq_zero h0
    subst he
    have hd : digitsB ⟨#[]⟩ = false := by unfold digitsB; rw [Lib.toList_data]; rfl
    have HD := Lib.hid hd
    clear hd
    go_wp2_with fail
    go_ret
    exact ⟨ret_bool HD.out.symm, belx⟩
  · have n1 : ¬ s.toList = [] := by
      rw [Lib.toList_data]
      intro h
      have : s.data.toList.length = s.size := by simp
      rw [h] at this
      simp at this
      omega
    have n2 : s.toList.isEmpty = false := by cases h : s.toList with | nil => exact absurd h n1 | cons x l => rfl
    go_wp2_with fail
    refine (trim_digits s w (by omega) hs).mono ?_
    rintro e w1 ⟨t, u, rfl, hR, hL, hb1⟩
    have hiff := trim_empty hR hL
    have hd : digitsB s = s.data.toList.all (digs.data.toList.contains ·) := by
      unfold digitsB
      have : (s.toList == []) = false := by simp [n1]
      rw [this]; rfl
    cases hA : s.data.toList.all (digs.data.toList.contains ·)
    · have m1 : ¬ u.toList = [] := by
        rw [Lib.toList_data]
        intro h
        rw [hiff.1 h] at hA
        cases hA
      have m2 : u.toList.isEmpty = false := by cases h : u.toList with | nil => exact absurd h m1 | cons x l => rfl
      have HD := Lib.hid (hd.trans hA)
      clear hR hL hiff hA hd
      go_wp2_with fail
      go_ret
      exact ⟨ret_bool HD.out.symm, belx⟩
    · have m1 : u.toList = [] := by rw [Lib.toList_data]; exact hiff.2 hA
      have HD := Lib.hid (hd.trans hA)
      clear hR hL hiff hA hd
      go_wp2_with fail
      go_ret
      exact ⟨ret_bool HD.out.symm, belx⟩
end Go.Proofs.YtplaohmdllindaaGreatDoor

/- What Cut and CutPrefix tell of a number's text. No program stands here. -/
namespace Go.Proofs.YtplaohmdllindaaGreatDoor
open Go.RowKit

theorem indexByte_at : ∀ (a b : List UInt8) (c : UInt8), c ∉ a → Lib.indexByte (a ++ c :: b) c = a.length
  | [], b, c, _ => by
    show Lib.indexByte (c :: b) c = 0
    rw [Lib.indexByte, beq_self_eq_true]
    rfl
  | x :: a, b, c, h => by
    have h1 : (x == c) = false := by
      rw [beq_eq_false_iff_ne]
      intro e
      exact h (by simp [e])
    have h2 := indexByte_at a b c (fun hc => h (List.mem_cons_of_mem _ hc))
    show Lib.indexByte (x :: (a ++ c :: b)) c = _
    rw [Lib.indexByte, h1, h2, List.length_cons]
    simp
theorem cut_at (a b : List UInt8) (c : UInt8) (h : c ∉ a) : Lib.cut (a ++ c :: b) [c] = (a, b, true) := by
  unfold Lib.cut
  rw [Lib.index_one, indexByte_at a b c h, if_pos (by omega)]
  simp
/-- digits alone -/
def allD (l : List UInt8) : Prop := ∀ x ∈ l, 48 ≤ x.toNat ∧ x.toNat ≤ 57
theorem allD_not {l : List UInt8} (h : allD l) (c : UInt8) (hc : ¬ (48 ≤ c.toNat ∧ c.toNat ≤ 57)) : c ∉ l := fun hm => hc (h c hm)
theorem digs_mem (x : UInt8) (h : 48 ≤ x.toNat ∧ x.toNat ≤ 57) : digs.data.toList.contains x = true := by
  have hk : x.toNat = 48 ∨ x.toNat = 49 ∨ x.toNat = 50 ∨ x.toNat = 51 ∨ x.toNat = 52 ∨ x.toNat = 53 ∨ x.toNat = 54 ∨ x.toNat = 55 ∨ x.toNat = 56 ∨ x.toNat = 57 := by omega
  have he : ∀ c : UInt8, x.toNat = c.toNat → x = c := fun c h => UInt8.toNat_inj.1 h
  rcases hk with h | h | h | h | h | h | h | h | h | h
  · rw [he 48 h]; rfl
  · rw [he 49 h]; rfl
  · rw [he 50 h]; rfl
  · rw [he 51 h]; rfl
  · rw [he 52 h]; rfl
  · rw [he 53 h]; rfl
  · rw [he 54 h]; rfl
  · rw [he 55 h]; rfl
  · rw [he 56 h]; rfl
  · rw [he 57 h]; rfl
theorem digitsB_of {s : ByteArray} (h1 : 1 ≤ s.size) (h : allD s.data.toList) : digitsB s = true := by
  unfold digitsB
  rw [Lib.toList_data, Bool.and_eq_true]
  constructor
  · cases hs : s.data.toList with
    | nil => have := bsize s; rw [hs] at this; simp at this; omega
    | cons x l => rfl
  · rw [List.all_eq_true]
    exact fun x hx => digs_mem x (h x hx)
theorem rep_allD (k : Nat) : allD (Lib.repeatL [48] k) := by
  induction k with
  | zero => intro x hx; simp [Lib.repeatL] at hx
  | succ k ih =>
    intro x hx
    rw [rep_snoc] at hx
    rcases List.mem_append.1 hx with hx | hx
    · exact ih x hx
    · simp at hx; subst hx; decide
theorem padB_allD (c : Int) (s : Nat) : allD (padB c s).data.toList := by
  intro x hx
  have : x ∈ Lib.repeatL [48] (s + 1 - (ddB c).size) ++ (ddB c).data.toList := by simpa [padB] using hx
  rcases List.mem_append.1 this with h | h
  · exact rep_allD _ x h
  · exact dd_signs _ _ (Nat.le_refl _) x (by simpa [ddB] using h)
theorem whole_allD (c : Int) (s : Nat) : allD (wholeB c s).data.toList := fun x hx => by
  unfold wholeB at hx
  rw [Lib.extract_data] at hx
  exact padB_allD c s x (List.mem_of_mem_drop (List.mem_of_mem_take hx))
theorem behind_allD (c : Int) (s : Nat) : allD (behindB c s).data.toList := fun x hx => by
  unfold behindB at hx
  rw [Lib.extract_data] at hx
  exact padB_allD c s x (List.mem_of_mem_drop (List.mem_of_mem_take hx))
/-- the sign and the digits ahead of the point -/
def swB (c : Int) (s : Nat) : ByteArray := signB c ++ wholeB c s
theorem decT_parts (c : Int) (s : Nat) : decT c s = if s = 0 then swB c s else swB c s ++ ⟨#[46]⟩ ++ behindB c s := by
  unfold decT swB wholeB behindB
  split
  · rename_i h
    subst h
    rw [padB_zero, Nat.sub_zero]
    congr 1
    apply ByteArray.ext
    apply Array.ext'
    rw [Lib.extract_data, List.drop_zero, Nat.sub_zero, List.take_of_length_le (by rw [bsize]; exact Nat.le_refl _)]
  · rfl
theorem behind_zero (c : Int) : behindB c 0 = ⟨#[]⟩ := by
  unfold behindB
  apply ByteArray.ext
  apply Array.ext'
  rw [Lib.extract_data, Nat.sub_zero, Nat.sub_self, List.take_zero]
theorem sign_list (c : Int) : (signB c).data.toList = if c < 0 then [45] else [] := by
  unfold signB
  split <;> rfl
theorem sw_list (c : Int) (s : Nat) : (swB c s).data.toList = (if c < 0 then [45] else []) ++ (wholeB c s).data.toList := by
  unfold swB
  rw [← sign_list]
  simp
theorem sw_not (c : Int) (s : Nat) : (46 : UInt8) ∉ (swB c s).data.toList := by
  rw [sw_list]
  intro h
  rcases List.mem_append.1 h with h | h
  · split at h
    · simp at h
    · simp at h
  · exact allD_not (whole_allD c s) 46 (by decide) h
theorem decT_cut (c : Int) (s : Nat) : Lib.cut (decT c s).data.toList [46] = ((swB c s).data.toList, (behindB c s).data.toList, decide (s ≠ 0)) := by
  rw [decT_parts]
  split
  · rename_i h
    subst h
    rw [cut_none _ _ (sw_not c 0), behind_zero]
    rfl
  · rename_i h
    have e : (swB c s ++ ⟨#[46]⟩ ++ behindB c s).data.toList = (swB c s).data.toList ++ 46 :: (behindB c s).data.toList := by simp
    rw [e, cut_at _ _ _ (sw_not c s), decide_eq_true h]
theorem sw_prefix {c : Int} {s : Nat} (h : decOk c s) : Lib.trimPrefix (swB c s).data.toList [45] = (wholeB c s).data.toList ∧ Lib.hasPrefix (swB c s).data.toList [45] = decide (c < 0) := by
  rw [sw_list]
  obtain ⟨h1, _⟩ := parts_size h
  by_cases hc : c < 0
  · rw [if_pos hc, decide_eq_true hc]
    have h1 : Lib.hasPrefix ([45] ++ (wholeB c s).data.toList) [45] = true := by simp [Lib.hasPrefix, List.isPrefixOf]
    refine ⟨?_, h1⟩
    unfold Lib.trimPrefix
    rw [if_pos h1]
    rfl
  · rw [if_neg hc, decide_eq_false hc, List.nil_append]
    have h1 : Lib.hasPrefix (wholeB c s).data.toList [45] = false := by
      cases hd : (wholeB c s).data.toList with
      | nil => rfl
      | cons x l =>
        have hx : (45 : UInt8) ≠ x := fun e => allD_not (whole_allD c s) 45 (by decide) (by rw [hd, e]; simp)
        simp [Lib.hasPrefix, List.isPrefixOf, hx]
    refine ⟨?_, h1⟩
    unfold Lib.trimPrefix
    rw [if_neg (by rw [h1]; decide)]
theorem put_digits {c : Int} {s : Nat} (h : decOk c s) (k : Nat) : digitsB (zeroB k ++ wholeB c s) = true := by
  obtain ⟨h1, _⟩ := parts_size h
  refine digitsB_of (by rw [ByteArray.size_append]; omega) fun x hx => ?_
  have : x ∈ Lib.repeatL [48] k ++ (wholeB c s).data.toList := by simpa [zeroB] using hx
  rcases List.mem_append.1 this with h | h
  · exact rep_allD _ x h
  · exact whole_allD c s x h
end Go.Proofs.YtplaohmdllindaaGreatDoor

/- Maps from texts to values, in a walk. -/
namespace Go.Proofs.YtplaohmdllindaaGreatDoor
open Go.RowKit Go.Maps

section
variable {W : World} {mb n : Nat} {l : HL} {s : ByteArray} {v z : Value} {t e : TypeId}
/-- a map of the call's own -/
abbrev HMap (W : World) (mb n : Nat) (l : HL) : Prop := W.ownsMap Tryz.prog 9 heldE mb n (hmap l)
theorem HMap.off {W' : World} {L : List Nat} (h : HMap W mb n l) (hf : Off L W W') (hm : mb ∉ L) : HMap W' mb n l := by
  obtain ⟨es, clock, h1, h2, h3, h4⟩ := h
  exact ⟨es, clock, (hf.block mb (Array.getElem?_eq_some_iff.1 h1).1 hm).trans h1, h2, h3, h4⟩
theorem HMap.below {W' : World} (h : HMap W mb n l) (hb : Below W.heap.size W W') : HMap W' mb n l := h.off ((Off.refl [] W).below hb (Nat.le_refl _)) (by simp)
theorem HMap.kept {W' : World} (h : HMap W mb n l) (hk : ∀ (k : Nat) es c, W.heap[k]? = some (Obj.map es c) → W'.heap[k]? = W.heap[k]?) : HMap W' mb n l := by
  obtain ⟨es, clock, h1, h2, h3, h4⟩ := h
  exact ⟨es, clock, (hk _ _ _ h1).trans h1, h2, h3, h4⟩
theorem hm_some (h : HMap W mb n l) (ht : Tryz.prog.underlying t = some (.map 9 e)) (hz : (zeroValue e).run Tryz.prog W = .ok z W) (hs : s.size ≤ maxLen) (hn : (l.map (·.1)).Nodup) (hk : hlook l s.data.toList = some v) :
    (Instr.lookup t (.map (some mb)) (.string s) true).run Tryz.prog W = .ok (.tuple #[v, .bool true]) W := by
  obtain ⟨u, ps, hr, hu⟩ := World.ownsMap.look_ok h (string_keyed Tryz.underlying9) ht hz (show heldE z = some (.held z, []) from rfl) (strK s hs)
  obtain ⟨h1, h2⟩ := hmap_some hn hk (.held z)
  rw [h2] at hr
  rw [h1] at hu
  simp only [heldE, Option.some.injEq, Prod.mk.injEq, DataW.held.injEq] at hu
  obtain ⟨rfl, _⟩ := hu
  exact hr
theorem hm_none (h : HMap W mb n l) (ht : Tryz.prog.underlying t = some (.map 9 e)) (hz : (zeroValue e).run Tryz.prog W = .ok z W) (hs : s.size ≤ maxLen) (hk : hlook l s.data.toList = none) :
    (Instr.lookup t (.map (some mb)) (.string s) true).run Tryz.prog W = .ok (.tuple #[z, .bool false]) W := by
  obtain ⟨u, ps, hr, hu⟩ := World.ownsMap.look_ok h (string_keyed Tryz.underlying9) ht hz (show heldE z = some (.held z, []) from rfl) (strK s hs)
  obtain ⟨h1, h2⟩ := hmap_none hk (.held z)
  rw [h2] at hr
  rw [h1] at hu
  simp only [heldE, Option.some.injEq, Prod.mk.injEq, DataW.held.injEq] at hu
  obtain ⟨rfl, _⟩ := hu
  exact hr
theorem hm_some1 (h : HMap W mb n l) (ht : Tryz.prog.underlying t = some (.map 9 e)) (hz : (zeroValue e).run Tryz.prog W = .ok z W) (hs : s.size ≤ maxLen) (hn : (l.map (·.1)).Nodup) (hk : hlook l s.data.toList = some v) :
    (Instr.lookup t (.map (some mb)) (.string s) false).run Tryz.prog W = .ok v W := by
  obtain ⟨u, ps, hr, hu⟩ := World.ownsMap.lookup h (string_keyed Tryz.underlying9) ht hz (show heldE z = some (.held z, []) from rfl) (strK s hs)
  obtain ⟨h1, h2⟩ := hmap_some hn hk (.held z)
  rw [h1] at hu
  simp only [heldE, Option.some.injEq, Prod.mk.injEq, DataW.held.injEq] at hu
  obtain ⟨rfl, _⟩ := hu
  exact hr
theorem hm_none1 (h : HMap W mb n l) (ht : Tryz.prog.underlying t = some (.map 9 e)) (hz : (zeroValue e).run Tryz.prog W = .ok z W) (hs : s.size ≤ maxLen) (hk : hlook l s.data.toList = none) :
    (Instr.lookup t (.map (some mb)) (.string s) false).run Tryz.prog W = .ok z W := by
  obtain ⟨u, ps, hr, hu⟩ := World.ownsMap.lookup h (string_keyed Tryz.underlying9) ht hz (show heldE z = some (.held z, []) from rfl) (strK s hs)
  obtain ⟨h1, h2⟩ := hmap_none hk (.held z)
  rw [h1] at hu
  simp only [heldE, Option.some.injEq, Prod.mk.injEq, DataW.held.injEq] at hu
  obtain ⟨rfl, _⟩ := hu
  exact hr
theorem hm_put (h : HMap W mb n l) (ht : Tryz.prog.underlying t = some (.map 9 e)) (hn : n < maxLen) (hs : s.size ≤ maxLen) (v : Value) :
    ∃ W', (Instr.mapUpdate t (.map (some mb)) (.string s) v).run Tryz.prog W = .ok () W' ∧ HMap W' mb (n + 1) (l ++ [(s.data.toList, v)]) ∧ Off [mb] W W' := by
  obtain ⟨W', h1, h2, h3⟩ := World.ownsMap.update h (string_keyed Tryz.underlying9) ht hn (strK s hs) (show heldE v = some (.held v, []) from rfl)
  rw [hmap_snoc] at h2
  exact ⟨W', h1, h2, grown_off h3 (fun k hk => by cases hk; simp)⟩
theorem hm_made (W : World) : HMap (W.alloc (.map #[] 0)) W.heap.size 0 [] := World.ownsMap_made W Tryz.prog 9 heldE
end
end Go.Proofs.YtplaohmdllindaaGreatDoor

/- clock.Cache. -/
namespace Go.Proofs.YtplaohmdllindaaGreatDoor
open Go.RowKit

/-- The places of a cache. -/
structure Cch where
  K : Nat → ByteArray
  V : Nat → ByteArray
  U : Nat → Bool
  M : Nat → Bool

/-- A cache at block cb, its places at block pb. -/
structure CacheAt (w : World) (cb pb n : Nat) (S : Cch) (h : Nat) : Prop where
  n0 : 1 ≤ n
  n1 : n ≤ 50
  hh : h < n
  ne : cb ≠ pb
  head : w.cell? ⟨cb, 0, none⟩ = some (.slice (some ⟨pb, 0, none⟩) n n)
  hand : w.cell? ⟨cb, 1, none⟩ = some (.int .i64 h)
  k : ∀ i, i < n → w.cell? ⟨pb, i * 4, none⟩ = some (.string (S.K i))
  v : ∀ i, i < n → w.cell? ⟨pb, i * 4 + 1, none⟩ = some (.string (S.V i))
  u : ∀ i, i < n → w.cell? ⟨pb, i * 4 + 2, none⟩ = some (.bool (S.U i))
  m : ∀ i, i < n → w.cell? ⟨pb, i * 4 + 3, none⟩ = some (.bool (S.M i))
  fc : ∀ o, w.frozen? ⟨cb, o, none⟩ = false
  fp : ∀ o, w.frozen? ⟨pb, o, none⟩ = false

theorem CacheAt.below {w w1 : World} {cb pb n h : Nat} {S : Cch} (c : CacheAt w cb pb n S h) (hb : Below w.heap.size w w1) : CacheAt w1 cb pb n S h :=
  ⟨c.n0, c.n1, c.hh, c.ne, carry hb c.head, carry hb c.hand, fun i hi => carry hb (c.k i hi), fun i hi => carry hb (c.v i hi), fun i hi => carry hb (c.u i hi), fun i hi => carry hb (c.m i hi),
    fun o => carryF hb (lt_of_cell c.head) (c.fc o), fun o => carryF hb (lt_of_cell (c.k 0 c.n0)) (c.fp o)⟩
theorem CacheAt.lcb {w : World} {cb pb n h : Nat} {S : Cch} (c : CacheAt w cb pb n S h) : cb < w.heap.size := lt_of_cell c.head
theorem CacheAt.lpb {w : World} {cb pb n h : Nat} {S : Cch} (c : CacheAt w cb pb n S h) : pb < w.heap.size := lt_of_cell (c.k 0 c.n0)

/-- What 'at' finds. -/
def isAt (S : Cch) (key : ByteArray) (i : Nat) : Bool := S.U i && ((S.K i).toList == key.toList)

theorem at_gen (r : Int) (key : ByteArray) (cb pb n h : Nat) (S : Cch) (w : World) (hc : CacheAt w cb pb n S h)
    (hr : (∃ i : Nat, i < n ∧ r = i ∧ isAt S key i = true ∧ ∀ j, j < i → isAt S key j = false) ∨ (r = -1 ∧ ∀ j, j < n → isAt S key j = false)) :
    Calls Tryz.prog 174 #[.pointer (some ⟨cb, 0, none⟩), .string key] w fun e w' => e = .returned (.int .i64 r) ∧ Below w.heap.size w w' := by
  have H := Lib.hid hc
  have n0 := hc.n0
  have n1 := hc.n1
  have c0 := hc.head
  have lc := hc.lcb
  have lp := hc.lpb
  have HR := Lib.hid hr
  clear hc hr
  go_enter Tryz.func174, Tryz.ntmps174
  go_wp2_with fail
  go_loopw [5, 6, 12] (fun _ _ i wr => ∃ k : Nat, k ≤ n ∧ i = .int .i64 k ∧ Hid (∀ j, j < k → isAt S key j = false) ∧ Below w.heap.size w wr) (fun _ _ i _ => 100 - (intOf i).toNat)
  case atStart => exact ⟨0, by omega, rfl, Lib.hid fun j hj => absurd hj (by omega), Below.refl _ _⟩
  case round =>
    obtain ⟨k, hk, rfl, hno, hbr⟩ := hrel
    have sr := hbr.size
    by_cases hlt : k < n
    · have ck : wr.cell? ⟨pb, k * 4, none⟩ = some (.string (S.K k)) := carry hbr (H.out.k k hlt)
      have cv : wr.cell? ⟨pb, k * 4 + 1, none⟩ = some (.string (S.V k)) := carry hbr (H.out.v k hlt)
      have cu : wr.cell? ⟨pb, k * 4 + 2, none⟩ = some (.bool (S.U k)) := carry hbr (H.out.u k hlt)
      have cm : wr.cell? ⟨pb, k * 4 + 3, none⟩ = some (.bool (S.M k)) := carry hbr (H.out.m k hlt)
      have i1 : (0 : Int) ≤ (k : Int) := by omega
      have i2 : (k : Int) < (n : Int) := by omega
      have hne := h
      cases hU : S.U k
      · have hat : isAt S key k = false := by simp [isAt, hU]
        rw [hU] at cu
        go_wp2_with fail
        go_roundw
        case rel => exact ⟨k + 1, by omega, by go_num, Lib.hid fun j hj => by rcases (show j < k ∨ j = k by omega) with h1 | rfl <;> first | exact hno.out j h1 | exact hat, belx⟩
        case measure => simp [intOf]; omega
      · rw [hU] at cu
        cases he : ((S.K k).toList == key.toList)
        · have hat : isAt S key k = false := by simp [isAt, hU, he]
          have HE := Lib.hid he
          go_wp2_with fail
          go_roundw
          case rel => exact ⟨k + 1, by omega, by go_num, Lib.hid fun j hj => by rcases (show j < k ∨ j = k by omega) with h1 | rfl <;> first | exact hno.out j h1 | exact hat, belx⟩
          case measure => simp [intOf]; omega
        · have hat : isAt S key k = true := by simp [isAt, hU, he]
          have hrk : r = (k : Int) := by
            rcases HR.out with ⟨i, hi, rfl, h1, h2⟩ | ⟨_, h2⟩
            · rcases Nat.lt_trichotomy i k with h3 | h3 | h3
              · rw [hno.out i h3] at h1; cases h1
              · rw [h3]
              · rw [h2 k h3] at hat; cases hat
            · rw [h2 k hlt] at hat; cases hat
          go_wp2_with fail
          go_ret
          exact ⟨ret_int hrk.symm, belx⟩
    · obtain rfl : k = n := by omega
      have hrk : r = -1 := by
        rcases HR.out with ⟨i, hi, rfl, h1, h2⟩ | ⟨h2, _⟩
        · rw [hno.out i hi] at h1; cases h1
        · exact h2
      go_wp2_with fail
      go_ret
      exact ⟨ret_int hrk.symm, belx⟩

def isFree (S : Cch) (i : Nat) : Bool := !S.U i

theorem free_gen (r : Int) (cb pb n h : Nat) (S : Cch) (w : World) (hc : CacheAt w cb pb n S h)
    (hr : (∃ i : Nat, i < n ∧ r = i ∧ isFree S i = true ∧ ∀ j, j < i → isFree S j = false) ∨ (r = -1 ∧ ∀ j, j < n → isFree S j = false)) :
    Calls Tryz.prog 177 #[.pointer (some ⟨cb, 0, none⟩)] w fun e w' => e = .returned (.int .i64 r) ∧ Below w.heap.size w w' := by
  have H := Lib.hid hc
  have n0 := hc.n0
  have n1 := hc.n1
  have c0 := hc.head
  have lc := hc.lcb
  have lp := hc.lpb
  have HR := Lib.hid hr
  clear hc hr
  go_enter Tryz.func177, Tryz.ntmps177
  go_wp2_with fail
  go_loopw [3, 4, 10] (fun _ _ i wr => ∃ k : Nat, k ≤ n ∧ i = .int .i64 k ∧ Hid (∀ j, j < k → isFree S j = false) ∧ Below w.heap.size w wr) (fun _ _ i _ => 100 - (intOf i).toNat)
  case atStart => exact ⟨0, by omega, rfl, Lib.hid fun j hj => absurd hj (by omega), Below.refl _ _⟩
  case round =>
    obtain ⟨k, hk, rfl, hno, hbr⟩ := hrel
    have sr := hbr.size
    by_cases hlt : k < n
    · have ck : wr.cell? ⟨pb, k * 4, none⟩ = some (.string (S.K k)) := carry hbr (H.out.k k hlt)
      have cv : wr.cell? ⟨pb, k * 4 + 1, none⟩ = some (.string (S.V k)) := carry hbr (H.out.v k hlt)
      have cu : wr.cell? ⟨pb, k * 4 + 2, none⟩ = some (.bool (S.U k)) := carry hbr (H.out.u k hlt)
      have cm : wr.cell? ⟨pb, k * 4 + 3, none⟩ = some (.bool (S.M k)) := carry hbr (H.out.m k hlt)
      have i1 : (0 : Int) ≤ (k : Int) := by omega
      have i2 : (k : Int) < (n : Int) := by omega
      cases hU : S.U k
      · have hat : isFree S k = true := by simp [isFree, hU]
        rw [hU] at cu
        have hrk : r = (k : Int) := by
          rcases HR.out with ⟨i, hi, rfl, h1, h2⟩ | ⟨_, h2⟩
          · rcases Nat.lt_trichotomy i k with h3 | h3 | h3
            · rw [hno.out i h3] at h1; cases h1
            · rw [h3]
            · rw [h2 k h3] at hat; cases hat
          · rw [h2 k hlt] at hat; cases hat
        go_wp2_with fail
        go_ret
        exact ⟨ret_int hrk.symm, belx⟩
      · have hat : isFree S k = false := by simp [isFree, hU]
        rw [hU] at cu
        go_wp2_with fail
        go_roundw
        case rel => exact ⟨k + 1, by omega, by go_num, Lib.hid fun j hj => by rcases (show j < k ∨ j = k by omega) with h1 | rfl <;> first | exact hno.out j h1 | exact hat, belx⟩
        case measure => simp [intOf]; omega
    · obtain rfl : k = n := by omega
      have hrk : r = -1 := by
        rcases HR.out with ⟨i, hi, rfl, h1, h2⟩ | ⟨h2, _⟩
        · rw [hno.out i hi] at h1; cases h1
        · exact h2
      go_wp2_with fail
      go_ret
      exact ⟨ret_int hrk.symm, belx⟩
end Go.Proofs.YtplaohmdllindaaGreatDoor

/- clock.Cache: what a store makes of it. -/
namespace Go.Proofs.YtplaohmdllindaaGreatDoor
open Go.RowKit

theorem CacheAt.setK {w : World} {cb pb n h : Nat} {S : Cch} (c : CacheAt w cb pb n S h) {i : Nat} (hi : i < n) (x : ByteArray) :
    CacheAt (w.setCell ⟨pb, i * 4, none⟩ (.string x)) cb pb n { S with K := fun j => if j = i then x else S.K j } h := by
  have hne := c.ne
  refine ⟨c.n0, c.n1, c.hh, c.ne, cell_other c.head (by intro e; simp only [Addr.mk.injEq] at e; omega), cell_other c.hand (by intro e; simp only [Addr.mk.injEq] at e; omega), ?_, ?_, ?_, ?_, fun o => by rw [World.frozen?_setCell]; exact c.fc o, fun o => by rw [World.frozen?_setCell]; exact c.fp o⟩
  · intro j hj
    show _ = some (Value.string (if j = i then x else S.K j))
    by_cases e : j = i
    · subst e
      rw [if_pos rfl]
      exact cell_same (c.k j hj)
    · rw [if_neg e]
      exact cell_other (c.k j hj) (by intro e; simp only [Addr.mk.injEq] at e; omega)
  · exact fun j hj => cell_other (c.v j hj) (by intro e; simp only [Addr.mk.injEq] at e; omega)
  · exact fun j hj => cell_other (c.u j hj) (by intro e; simp only [Addr.mk.injEq] at e; omega)
  · exact fun j hj => cell_other (c.m j hj) (by intro e; simp only [Addr.mk.injEq] at e; omega)
theorem CacheAt.setV {w : World} {cb pb n h : Nat} {S : Cch} (c : CacheAt w cb pb n S h) {i : Nat} (hi : i < n) (x : ByteArray) :
    CacheAt (w.setCell ⟨pb, i * 4 + 1, none⟩ (.string x)) cb pb n { S with V := fun j => if j = i then x else S.V j } h := by
  have hne := c.ne
  refine ⟨c.n0, c.n1, c.hh, c.ne, cell_other c.head (by intro e; simp only [Addr.mk.injEq] at e; omega), cell_other c.hand (by intro e; simp only [Addr.mk.injEq] at e; omega), ?_, ?_, ?_, ?_, fun o => by rw [World.frozen?_setCell]; exact c.fc o, fun o => by rw [World.frozen?_setCell]; exact c.fp o⟩
  · exact fun j hj => cell_other (c.k j hj) (by intro e; simp only [Addr.mk.injEq] at e; omega)
  · intro j hj
    show _ = some (Value.string (if j = i then x else S.V j))
    by_cases e : j = i
    · subst e
      rw [if_pos rfl]
      exact cell_same (c.v j hj)
    · rw [if_neg e]
      exact cell_other (c.v j hj) (by intro e; simp only [Addr.mk.injEq] at e; omega)
  · exact fun j hj => cell_other (c.u j hj) (by intro e; simp only [Addr.mk.injEq] at e; omega)
  · exact fun j hj => cell_other (c.m j hj) (by intro e; simp only [Addr.mk.injEq] at e; omega)
theorem CacheAt.setU {w : World} {cb pb n h : Nat} {S : Cch} (c : CacheAt w cb pb n S h) {i : Nat} (hi : i < n) (x : Bool) :
    CacheAt (w.setCell ⟨pb, i * 4 + 2, none⟩ (.bool x)) cb pb n { S with U := fun j => if j = i then x else S.U j } h := by
  have hne := c.ne
  refine ⟨c.n0, c.n1, c.hh, c.ne, cell_other c.head (by intro e; simp only [Addr.mk.injEq] at e; omega), cell_other c.hand (by intro e; simp only [Addr.mk.injEq] at e; omega), ?_, ?_, ?_, ?_, fun o => by rw [World.frozen?_setCell]; exact c.fc o, fun o => by rw [World.frozen?_setCell]; exact c.fp o⟩
  · exact fun j hj => cell_other (c.k j hj) (by intro e; simp only [Addr.mk.injEq] at e; omega)
  · exact fun j hj => cell_other (c.v j hj) (by intro e; simp only [Addr.mk.injEq] at e; omega)
  · intro j hj
    show _ = some (Value.bool (if j = i then x else S.U j))
    by_cases e : j = i
    · subst e
      rw [if_pos rfl]
      exact cell_same (c.u j hj)
    · rw [if_neg e]
      exact cell_other (c.u j hj) (by intro e; simp only [Addr.mk.injEq] at e; omega)
  · exact fun j hj => cell_other (c.m j hj) (by intro e; simp only [Addr.mk.injEq] at e; omega)
theorem CacheAt.setM {w : World} {cb pb n h : Nat} {S : Cch} (c : CacheAt w cb pb n S h) {i : Nat} (hi : i < n) (x : Bool) :
    CacheAt (w.setCell ⟨pb, i * 4 + 3, none⟩ (.bool x)) cb pb n { S with M := fun j => if j = i then x else S.M j } h := by
  have hne := c.ne
  refine ⟨c.n0, c.n1, c.hh, c.ne, cell_other c.head (by intro e; simp only [Addr.mk.injEq] at e; omega), cell_other c.hand (by intro e; simp only [Addr.mk.injEq] at e; omega), ?_, ?_, ?_, ?_, fun o => by rw [World.frozen?_setCell]; exact c.fc o, fun o => by rw [World.frozen?_setCell]; exact c.fp o⟩
  · exact fun j hj => cell_other (c.k j hj) (by intro e; simp only [Addr.mk.injEq] at e; omega)
  · exact fun j hj => cell_other (c.v j hj) (by intro e; simp only [Addr.mk.injEq] at e; omega)
  · exact fun j hj => cell_other (c.u j hj) (by intro e; simp only [Addr.mk.injEq] at e; omega)
  · intro j hj
    show _ = some (Value.bool (if j = i then x else S.M j))
    by_cases e : j = i
    · subst e
      rw [if_pos rfl]
      exact cell_same (c.m j hj)
    · rw [if_neg e]
      exact cell_other (c.m j hj) (by intro e; simp only [Addr.mk.injEq] at e; omega)
/-- A place written whole. -/
def Cch.put (S : Cch) (i : Nat) (key val : ByteArray) : Cch :=
  ⟨fun j => if j = i then key else S.K j, fun j => if j = i then val else S.V j, fun j => if j = i then true else S.U j, fun j => if j = i then true else S.M j⟩
theorem get_no (key : ByteArray) (cb pb n h : Nat) (S : Cch) (w : World) (hc : CacheAt w cb pb n S h) (hr : ∀ j, j < n → isAt S key j = false) :
    Calls Tryz.prog 109 #[.pointer (some ⟨cb, 0, none⟩), .string key] w fun e w' => e = .returned (.tuple #[.string ⟨#[]⟩, .bool false]) ∧ Below w.heap.size w w' := by
  have H := Lib.hid hc
  have lc := hc.lcb
  have HR := Lib.hid hr
  clear hc hr
  go_enter Tryz.func109, Tryz.ntmps109
  go_wp2_with fail
  refine (at_gen (-1) key cb pb n h S _ H.out (.inr ⟨rfl, HR.out⟩)).mono ?_
  rintro e w1 ⟨rfl, hb1⟩
  have s1 := hb1.size
  go_wp2_with fail
  go_ret2
  exact ⟨rfl, belx⟩

end Go.Proofs.YtplaohmdllindaaGreatDoor

/- Tags: what is right, their parts, their text; the text tells the tag. No program stands here. -/
namespace Go.Proofs.YtplaohmdllindaaGreatDoor
open Go

abbrev Bs := List UInt8
def lowB (c : UInt8) : Bool := decide (97 ≤ c.toNat) && decide (c.toNat ≤ 122)
def highB (c : UInt8) : Bool := decide (65 ≤ c.toNat) && decide (c.toNat ≤ 90)
def numB (c : UInt8) : Bool := decide (48 ≤ c.toNat) && decide (c.toNat ≤ 57)
def bothB (c : UInt8) : Bool := lowB c || numB c
/-- a part of so many signs of a kind -/
def madeB (p : UInt8 → Bool) (s : Bs) (a b : Nat) : Bool := s.all p && (decide (a ≤ s.length) && decide (s.length ≤ b))
def scriptB (s : Bs) : Bool := decide (s.length = 4) && (highB (s.getD 0 0) && madeB lowB (s.drop 1) 3 3)
def regionB (s : Bs) : Bool := madeB highB s 2 2 || madeB numB s 3 3
/-- is the head of a tag right? -/
def headB (l s r : Bs) : Bool := madeB lowB l 2 3 && ((s.isEmpty || scriptB s) && (r.isEmpty || regionB r))
/-- what is wrong with the variants: 0 nothing -/
def varErr : List Bs → List Bs → Int
  | _, [] => 0
  | seen, v :: vs => if madeB bothB v 5 8 = false then 3 else if seen.contains v then 5 else varErr (seen ++ [v]) vs
def tagErr (l s r : Bs) (vs : List Bs) : Int :=
  if headB l s r = false then 3 else if varErr [] vs = 0 then (if 3 < vs.length then 4 else 0) else varErr [] vs
def partsL (l s r : Bs) (vs : List Bs) : List Bs := ([l, s, r] ++ vs).filter (fun x => !x.isEmpty)
def tagText (l s r : Bs) (vs : List Bs) : Bs := Lib.join (partsL l s r vs) [45]

theorem madeB_len {p : UInt8 → Bool} {s : Bs} {a b : Nat} (h : madeB p s a b = true) : a ≤ s.length ∧ s.length ≤ b ∧ s.all p = true := by
  unfold madeB at h
  simp only [Bool.and_eq_true, decide_eq_true_eq] at h
  exact ⟨h.2.1, h.2.2, h.1⟩
theorem scriptB_len {s : Bs} (h : scriptB s = true) : s.length = 4 := by
  unfold scriptB at h
  simp only [Bool.and_eq_true, decide_eq_true_eq] at h
  exact h.1
theorem regionB_len {s : Bs} (h : regionB s = true) : 2 ≤ s.length ∧ s.length ≤ 3 := by
  unfold regionB at h
  rw [Bool.or_eq_true] at h
  rcases h with h | h
  · have := madeB_len h; omega
  · have := madeB_len h; omega
theorem varErr_len : ∀ (vs seen : List Bs), varErr seen vs = 0 → ∀ v ∈ vs, madeB bothB v 5 8 = true
  | [], _, _, v, hv => by cases hv
  | x :: vs, seen, h, v, hv => by
    unfold varErr at h
    split at h
    · cases h
    · rename_i h1
      split at h
      · cases h
      · rcases List.mem_cons.1 hv with rfl | hv
        · simpa using h1
        · exact varErr_len vs _ h v hv
theorem tagErr_ok {l s r : Bs} {vs : List Bs} (h : tagErr l s r vs = 0) : madeB lowB l 2 3 = true ∧ (s = [] ∨ scriptB s = true) ∧ (r = [] ∨ regionB r = true) ∧ varErr [] vs = 0 ∧ vs.length ≤ 3 := by
  unfold tagErr at h
  split at h
  · cases h
  · rename_i h1
    split at h
    · rename_i h2
      split at h
      · cases h
      · rename_i h3
        have h4 : headB l s r = true := by simpa using h1
        unfold headB at h4
        simp only [Bool.and_eq_true, Bool.or_eq_true, List.isEmpty_iff] at h4
        exact ⟨h4.1, h4.2.1, h4.2.2, h2, by omega⟩
    · rename_i h2
      exact absurd h h2

/-- the parts of a right tag, one behind the other -/
theorem parts_ok {l s r : Bs} {vs : List Bs} (h : tagErr l s r vs = 0) : partsL l s r vs = l :: ([s].filter (fun x => !x.isEmpty) ++ ([r].filter (fun x => !x.isEmpty) ++ vs)) := by
  obtain ⟨h1, _, _, h4, _⟩ := tagErr_ok h
  have hl := madeB_len h1
  have e1 : l.isEmpty = false := by cases l with | nil => simp at hl | cons => rfl
  have e2 : vs.filter (fun x => !x.isEmpty) = vs := List.filter_eq_self.2 fun v hv => by
    have := madeB_len (varErr_len vs [] h4 v hv)
    cases v with | nil => simp at this | cons => rfl
  unfold partsL
  rw [List.filter_append, e2]
  simp [List.filter_cons, e1]
  split <;> split <;> simp

/-! cutting at the sign between -/
def splitD : Bs → List Bs
  | [] => [[]]
  | c :: r => if c = 45 then [] :: splitD r else match splitD r with
    | [] => [[c]]
    | x :: xs => (c :: x) :: xs
theorem parts_ne {l s r : Bs} {vs : List Bs} (h : tagErr l s r vs = 0) : partsL l s r vs ≠ [] := by
  rw [parts_ok h]; simp

end Go.Proofs.YtplaohmdllindaaGreatDoor

/- What tag.Parse tells, whatever the text. No program stands here. -/
namespace Go.Proofs.YtplaohmdllindaaGreatDoor

def mapc (P : UInt8 → Bool) (c : UInt8) : UInt8 := if P c then c ^^^ 32 else c
def lowerL (l : List UInt8) : List UInt8 := l.map (mapc highB)
def upperL (l : List UInt8) : List UInt8 := l.map (mapc lowB)

theorem split_dash : ∀ s : Bs, Lib.split s [45] = splitD s
  | [] => rfl
  | b :: l => by
    have ih := split_dash l
    by_cases h : b = 45
    · subst h
      have hix : Lib.index ((45 : UInt8) :: l) [45] = ((0 : Nat) : Int) := by rw [Lib.index]; simp [List.isPrefixOf]
      unfold Lib.split at ih ⊢
      rw [Lib.count_cons_eq, Nat.add_comm 1, Lib.splitK, hix, splitD, if_pos rfl]
      simp [ih]
    · rw [splitD, if_neg h, ← ih]
      unfold Lib.split
      rw [Lib.count_cons_ne b 45 l h]
      have hp : ([45] : Bs).isPrefixOf (b :: l) = false := by simp [List.isPrefixOf, Ne.symm h]
      have hix : Lib.index (b :: l) [45] = if Lib.index l [45] == -1 then -1 else Lib.index l [45] + 1 := by rw [Lib.index, hp]; simp
      by_cases hm : Lib.index l [45] = -1
      · rw [Lib.count_miss hm]
        rfl
      · have hge := Lib.index_ge l [45]
        obtain ⟨j, hj⟩ : ∃ j : Nat, Lib.index l [45] = j := ⟨(Lib.index l [45]).toNat, by omega⟩
        rw [Lib.count_hit (by simp) hj, Nat.add_comm 1, Lib.splitK, Lib.splitK, hix, hj]
        have e1 : ((j : Int) == -1) = false := by rw [beq_eq_false_iff_ne]; omega
        have e2 : (((j : Int) + 1) == -1) = false := by rw [beq_eq_false_iff_ne]; omega
        have e3 : ((j : Int) + 1).toNat = j + 1 := by omega
        simp [e1, e2, e3]
theorem splitB_dash (s : ByteArray) : (Lib.splitB ⟨#[45]⟩ 0 (Lib.countB s ⟨#[45]⟩) s).map (·.data.toList) = splitD s.data.toList := by
  rw [Lib.splitB_data, ← split_dash]
  rfl

/-- the script, if there is one, and what is left -/
def scrP : List Bs → Bs × List Bs
  | [] => ([], [])
  | p :: r => if madeB lowB p 4 4 then (upperL (p.take 1) ++ p.drop 1, r) else ([], p :: r)
def regP : List Bs → Bs × List Bs
  | [] => ([], [])
  | p :: r => if regionB (upperL p) then (upperL p, r) else ([], p :: r)
structure TagS where
  l : Bs
  s : Bs
  r : Bs
  vs : List Bs
def TagS.err (t : TagS) : Int := tagErr t.l t.s t.r t.vs
def TagS.text (t : TagS) : Bs := tagText t.l t.s t.r t.vs
def madeT (s : Bs) : TagS :=
  let ps := splitD (lowerL s)
  let a := scrP ps.tail
  let b := regP a.2
  ⟨ps.headD [], a.1, b.1, b.2⟩
/-- is it one? -/
def isTag (s : Bs) : Bool := (madeT s).err == 0 && lowerL (madeT s).text == lowerL s
/-- is it the tag's own text? -/
def ownTag (s : Bs) : Bool := isTag s && (madeT s).text == s

theorem splitD_ne (s : Bs) : splitD s ≠ [] := by
  cases s with
  | nil => simp [splitD]
  | cons c r =>
    unfold splitD
    split
    · simp
    · split <;> simp
theorem splitD_cons (s : Bs) : ∃ x r, splitD s = x :: r := List.exists_cons_of_ne_nil (splitD_ne s)
theorem splitD_len : ∀ (s x : Bs), x ∈ splitD s → x.length ≤ s.length
  | [], x, h => by
    simp [splitD] at h
    subst h
    exact Nat.le_refl _
  | c :: r, x, h => by
    unfold splitD at h
    split at h
    · rcases List.mem_cons.1 h with rfl | h
      · simp
      · have := splitD_len r x h; simp; omega
    · obtain ⟨y, ys, hy⟩ := splitD_cons r
      rw [hy] at h
      rcases List.mem_cons.1 h with rfl | h
      · have := splitD_len r y (by rw [hy]; exact List.mem_cons_self)
        simp
        omega
      · have := splitD_len r x (by rw [hy]; exact List.mem_cons_of_mem _ h)
        simp
        omega
theorem splitD_cnt : ∀ (s : Bs), (splitD s).length ≤ s.length + 1
  | [] => by simp [splitD]
  | c :: r => by
    have ih := splitD_cnt r
    unfold splitD
    split
    · simp; omega
    · obtain ⟨y, ys, hy⟩ := splitD_cons r
      rw [hy] at ih ⊢
      simp at ih ⊢
      omega
end Go.Proofs.YtplaohmdllindaaGreatDoor

/- The document's tag of a text is the program's. No program stands here. -/
namespace Go.Proofs.YtplaohmdllindaaGreatDoor

end Go.Proofs.YtplaohmdllindaaGreatDoor

/- What prop.Check tells of a bundle. No program stands here. -/
namespace Go.Proofs.YtplaohmdllindaaGreatDoor

structure EntC where
  key : ByteArray
  text : ByteArray
structure BunC where
  tag : ByteArray
  es : List EntC
def keyC (c : UInt8) : Bool := lowB c || (numB c || (c == 46 || c == 95))
def keyOk (k : ByteArray) : Bool := decide (k.size ≠ 0) && (decide (k.size ≤ 40) && k.data.toList.all keyC)
def memB (l : List ByteArray) (k : ByteArray) : Bool := l.any (fun y => decide (y = k))
theorem memB_iff {l : List ByteArray} {k : ByteArray} : memB l k = true ↔ k ∈ l := by
  unfold memB
  rw [List.any_eq_true]
  exact ⟨fun ⟨x, hx, e⟩ => (of_decide_eq_true e) ▸ hx, fun h => ⟨k, h, decide_eq_true rfl⟩⟩
theorem memB_not {l : List ByteArray} {k : ByteArray} (h : k ∉ l) : memB l k = false := by
  cases hm : memB l k
  · rfl
  · exact absurd (memB_iff.1 hm) h
def entErr : List ByteArray → List EntC → Int
  | _, [] => 0
  | seen, e :: r => if keyOk e.key = false then 3 else if memB seen e.key = true then 5 else if 2000 < e.text.size then 4 else entErr (seen ++ [e.key]) r
def BunC.err (b : BunC) : Int := if ownTag b.tag.data.toList = false then 3 else if 100 < b.es.length then 4 else entErr [] b.es

/-- one step of the round: entry k -/
theorem entErr_step (es : List EntC) (k : Nat) (e : EntC) (h : es[k]? = some e) :
    entErr ((es.take k).map (·.key)) (es.drop k) = if keyOk e.key = false then 3 else if memB ((es.take k).map (·.key)) e.key = true then 5 else if 2000 < e.text.size then 4 else entErr ((es.take (k + 1)).map (·.key)) (es.drop (k + 1)) := by
  obtain ⟨hk, rfl⟩ := List.getElem?_eq_some_iff.1 h
  rw [List.drop_eq_getElem_cons hk, entErr, List.take_succ_eq_append_getElem hk, List.map_append]
  rfl
end Go.Proofs.YtplaohmdllindaaGreatDoor

/- Entries, bundles in memory. -/
namespace Go.Proofs.YtplaohmdllindaaGreatDoor
open Go.RowKit

/-- an entry lies at a place -/
def EntAt (w : World) (b o : Nat) (x : EntC) : Prop := w.cell? ⟨b, o, none⟩ = some (.string x.key) ∧ w.cell? ⟨b, o + 1, none⟩ = some (.string x.text)
theorem EntAt.below {w w' : World} {b o : Nat} {x : EntC} (h : EntAt w b o x) (hb : Below w.heap.size w w') : EntAt w' b o x := ⟨carry hb h.1, carry hb h.2⟩
/-- entries lie there -/
def EntsIn (w : World) (A : Option Addr) (l : List EntC) : Prop :=
  l = [] ∨ ∃ b o, A = some ⟨b, o, none⟩ ∧ ∀ (j : Nat) x, l[j]? = some x → EntAt w b (o + j * 2) x
theorem EntsIn.below {w w' : World} {A : Option Addr} {l : List EntC} (h : EntsIn w A l) (hb : Below w.heap.size w w') : EntsIn w' A l := by
  rcases h with h | ⟨b, o, h1, h2⟩
  · exact .inl h
  · exact .inr ⟨b, o, h1, fun j x hx => (h2 j x hx).below hb⟩
theorem EntsIn.at {w : World} {A : Option Addr} {l : List EntC} (h : EntsIn w A l) (hp : 0 < l.length) : ∃ b o, A = some ⟨b, o, none⟩ ∧ ∀ (j : Nat) x, l[j]? = some x → EntAt w b (o + j * 2) x := by
  rcases h with h | h
  · rw [h] at hp; simp at hp
  · exact h
/-- a bundle's value, what lies behind it -/
abbrev bunV (b : BunC) (A : Option Addr) (c : Nat) : Value := .agg #[.string b.tag, .slice A b.es.length c]
def BunFine (w : World) (b : BunC) (A : Option Addr) (c : Nat) : Prop := EntsIn w A b.es ∧ b.es.length ≤ c ∧ c ≤ 9223372036854775807 ∧ (A = none → c = 0)
theorem BunFine.below {w w' : World} {b : BunC} {A : Option Addr} {c : Nat} (h : BunFine w b A c) (hb : Below w.heap.size w w') : BunFine w' b A c := ⟨h.1.below hb, h.2⟩
def BunC.small (b : BunC) : Prop := b.tag.size ≤ 1048576 ∧ b.es.length ≤ 1048576 ∧ ∀ e ∈ b.es, e.key.size ≤ 1048576 ∧ e.text.size ≤ 1048576
def BunAt (w : World) (b o : Nat) (x : BunC) : Prop := ∃ A c, w.cell? ⟨b, o, none⟩ = some (.string x.tag) ∧ w.cell? ⟨b, o + 1, none⟩ = some (.slice A x.es.length c) ∧ BunFine w x A c
theorem BunAt.below {w w' : World} {b o : Nat} {x : BunC} (h : BunAt w b o x) (hb : Below w.heap.size w w') : BunAt w' b o x := by
  obtain ⟨A, c, h1, h2, h3⟩ := h
  exact ⟨A, c, carry hb h1, carry hb h2, h3.below hb⟩
def BunsIn (w : World) (A : Option Addr) (l : List BunC) : Prop :=
  l = [] ∨ ∃ b o, A = some ⟨b, o, none⟩ ∧ ∀ (j : Nat) x, l[j]? = some x → BunAt w b (o + j * 2) x
theorem BunsIn.below {w w' : World} {A : Option Addr} {l : List BunC} (h : BunsIn w A l) (hb : Below w.heap.size w w') : BunsIn w' A l := by
  rcases h with h | ⟨b, o, h1, h2⟩
  · exact .inl h
  · exact .inr ⟨b, o, h1, fun j x hx => (h2 j x hx).below hb⟩
theorem BunsIn.at {w : World} {A : Option Addr} {l : List BunC} (h : BunsIn w A l) (hp : 0 < l.length) : ∃ b o, A = some ⟨b, o, none⟩ ∧ ∀ (j : Nat) x, l[j]? = some x → BunAt w b (o + j * 2) x := by
  rcases h with h | h
  · rw [h] at hp; simp at hp
  · exact h
end Go.Proofs.YtplaohmdllindaaGreatDoor

/- prop.key. -/
namespace Go.Proofs.YtplaohmdllindaaGreatDoor
open Go.RowKit

def keySet : ByteArray := ⟨#[97, 98, 99, 100, 101, 102, 103, 104, 105, 106, 107, 108, 109, 110, 111, 112, 113, 114, 115, 116, 117, 118, 119, 120, 121, 122, 48, 49, 50, 51, 52, 53, 54, 55, 56, 57, 46, 95]⟩
theorem keySet_ascii : ∀ (j : Nat) (b : UInt8), keySet.data.toList[j]? = some b → b.toNat < 128 := by
  intro j b h
  have hm := List.mem_of_getElem? h
  have : ∀ x ∈ keySet.data.toList, x.toNat < 128 := by decide
  exact this b hm
theorem keySet_is (c : UInt8) : keySet.data.toList.contains c = keyC c := by
  have h : ∀ n : Fin 256, keySet.data.toList.contains (UInt8.ofNat n) = keyC (UInt8.ofNat n) := by decide +kernel
  have := h ⟨c.toNat, c.toNat_lt⟩
  simpa using this
theorem keySet_all (s : List UInt8) : s.all (keySet.data.toList.contains ·) = s.all keyC := by
  congr 1
  funext c
  exact keySet_is c

set_option maxHeartbeats 1000000 in
theorem prop_key (s : ByteArray) (w : World) (hs : s.size ≤ 9223372036854775807) :
    Calls Tryz.prog 158 #[.string s] w fun e w' => e = .returned (.bool (keyOk s)) ∧ Below w.heap.size w w' := by
  go_enter Tryz.func158, Tryz.ntmps158
  by_cases h0 : s.size = 0
  · have he : s = ⟨#[]⟩ := ByteArray.ext (Array.eq_empty_of_size_eq_zero h0)
    subst he
    have HD : Hid (keyOk ⟨#[]⟩ = false) := Lib.hid (by decide)
    go_wp2_with fail
    go_ret
    exact ⟨ret_bool HD.out.symm, belx⟩
  · have n1 : ¬ s.toList = [] := by
      rw [Lib.toList_data]
      intro h
      exact h0 (by have h2 := congrArg List.length h; rw [Array.length_toList] at h2; exact h2)
    have n2 : s.toList.isEmpty = false := by cases h : s.toList with | nil => exact absurd h n1 | cons x l => rfl
    by_cases h5 : s.size ≤ 40
    · have i5 : (s.size : Int) ≤ 40 := by omega
      go_wp2_with fail
      refine (trim_set keySet keySet_ascii (by decide) (by decide) s w (by omega) (by omega)).mono ?_
      rintro e w1 ⟨t, u, rfl, hR, hL, hb1⟩
      have hiff := trim_none _ hR hL
      have hd : keyOk s = s.data.toList.all (keySet.data.toList.contains ·) := by
        unfold keyOk
        rw [decide_eq_true h5, decide_eq_true h0, Bool.true_and, Bool.true_and, keySet_all]
      cases hA : s.data.toList.all (keySet.data.toList.contains ·)
      · have m1 : ¬ u.toList = [] := by
          rw [Lib.toList_data]
          intro h
          rw [hiff.1 h] at hA
          cases hA
        have m2 : u.toList.isEmpty = false := by cases h : u.toList with | nil => exact absurd h m1 | cons x l => rfl
        have HD := Lib.hid (hd.trans hA)
        clear hR hL hiff hA hd
        go_wp2_with fail
        go_ret
        exact ⟨ret_bool HD.out.symm, belx⟩
      · have m1 : u.toList = [] := by rw [Lib.toList_data]; exact hiff.2 hA
        have HD := Lib.hid (hd.trans hA)
        clear hR hL hiff hA hd
        go_wp2_with fail
        go_ret
        exact ⟨ret_bool HD.out.symm, belx⟩
    · have i5 : ¬ (s.size : Int) ≤ 40 := by omega
      have HD : Hid (keyOk s = false) := Lib.hid (by unfold keyOk; rw [decide_eq_false h5, Bool.false_and, Bool.and_false])
      go_wp2_with fail
      go_ret
      exact ⟨ret_bool HD.out.symm, belx⟩
end Go.Proofs.YtplaohmdllindaaGreatDoor

/- Two texts, one behind the other, by a name of its own. -/
namespace Go.Proofs.YtplaohmdllindaaGreatDoor
open Go.RowKit

end Go.Proofs.YtplaohmdllindaaGreatDoor

/- linguisterref2.EntryAt. -/
namespace Go.Proofs.YtplaohmdllindaaGreatDoor
open Go.RowKit

/-- the place of a key, or none -/
def entAtN (es : List EntC) (key : ByteArray) : Option Nat := es.findIdx? (fun e => e.key.toList == key.toList)
theorem entAt_some {es : List EntC} {key : ByteArray} {i : Nat} {e : EntC} (h : es[i]? = some e) (hk : (e.key.toList == key.toList) = true) (hf : ∀ y ∈ es.take i, (y.key.toList == key.toList) = false) : entAtN es key = some i := by
  unfold entAtN
  rw [List.findIdx?_eq_some_iff_getElem]
  obtain ⟨hi, rfl⟩ := List.getElem?_eq_some_iff.1 h
  refine ⟨hi, hk, fun j hj => ?_⟩
  have := hf (es[j]'(by omega)) (List.mem_take_iff_getElem.2 ⟨j, by omega, rfl⟩)
  rw [this]
  decide
theorem entAt_none {es : List EntC} {key : ByteArray} (hf : ∀ y ∈ es, (y.key.toList == key.toList) = false) : entAtN es key = none := by
  unfold entAtN
  rw [List.findIdx?_eq_none_iff]
  exact hf
end Go.Proofs.YtplaohmdllindaaGreatDoor

/- Chains of tags. No program stands here. -/
namespace Go.Proofs.YtplaohmdllindaaGreatDoor
open Go

/-- what a tag says -/
structure TagC where
  l : ByteArray
  s : ByteArray
  r : ByteArray
  vs : List ByteArray

def TagC.err (t : TagC) : Int := tagErr t.l.data.toList t.s.data.toList t.r.data.toList (t.vs.map (·.data.toList))
/-- without its last part -/
def lessC (t : TagC) : Option TagC :=
  if t.vs ≠ [] then some { t with vs := t.vs.dropLast }
  else if t.r.data.toList.isEmpty = false then some { t with r := ⟨#[]⟩ }
  else if t.s.data.toList.isEmpty = false then some { t with s := ⟨#[]⟩ }
  else none
def sizeC (t : TagC) : Nat := t.vs.length + ((if t.r.data.toList.isEmpty then 0 else 1) + (if t.s.data.toList.isEmpty then 0 else 1))
theorem lessC_size {t t' : TagC} (h : lessC t = some t') : sizeC t' + 1 = sizeC t := by
  unfold lessC at h
  split at h
  · rename_i h1
    cases h
    have : 0 < t.vs.length := List.length_pos_iff.2 h1
    simp only [sizeC, List.length_dropLast]
    omega
  · rename_i h1
    have h1 : t.vs = [] := by simpa using h1
    split at h
    · rename_i h2
      cases h
      simp only [sizeC, h2]
      simp
      omega
    · rename_i h2
      split at h
      · rename_i h3
        cases h
        have h2 : t.r.data.toList.isEmpty = true := by simpa using h2
        simp only [sizeC, h2, h3]
        simp
      · cases h
theorem lessC_none {t : TagC} (h : lessC t = none) : sizeC t = 0 := by
  unfold lessC at h
  split at h
  · cases h
  · rename_i h1
    have h1 : t.vs = [] := by simpa using h1
    split at h
    · cases h
    · rename_i h2
      have h2 : t.r.data.toList.isEmpty = true := by simpa using h2
      split at h
      · cases h
      · rename_i h3
        have h3 : t.s.data.toList.isEmpty = true := by simpa using h3
        simp only [sizeC, h1, h2, h3]
        simp
def chainN : Nat → TagC → List TagC
  | 0, t => [t]
  | k + 1, t => match lessC t with
    | none => [t]
    | some t' => t :: chainN k t'
def chainC (t : TagC) : List TagC := chainN (sizeC t) t
theorem chainC_some {t t' : TagC} (h : lessC t = some t') : chainC t = t :: chainC t' := by
  unfold chainC
  rw [← lessC_size h, chainN, h]
theorem chainC_none {t : TagC} (h : lessC t = none) : chainC t = [t] := by
  unfold chainC
  rw [lessC_none h]
  rfl
theorem chainC_len (k : Nat) : ∀ t, sizeC t = k → (chainC t).length = k + 1 := by
  induction k with
  | zero =>
    intro t h
    cases hl : lessC t with
    | none => rw [chainC_none hl]; rfl
    | some t' => have := lessC_size hl; omega
  | succ k ih =>
    intro t h
    cases hl : lessC t with
    | none => have := lessC_none hl; omega
    | some t' =>
      have := lessC_size hl
      rw [chainC_some hl, List.length_cons, ih t' (by omega)]
theorem varErr_front : ∀ (a b seen : List Bs), varErr seen (a ++ b) = 0 → varErr seen a = 0
  | [], _, _, _ => rfl
  | x :: a, b, seen, h => by
    rw [List.cons_append, varErr] at h
    rw [varErr]
    split at h
    · cases h
    · rename_i h1
      rw [if_neg h1]
      split at h
      · cases h
      · rename_i h2
        rw [if_neg h2]
        exact varErr_front a b _ h
theorem tagErr_mk {l s r : Bs} {vs : List Bs} (h1 : madeB lowB l 2 3 = true) (h2 : s = [] ∨ scriptB s = true) (h3 : r = [] ∨ regionB r = true) (h4 : varErr [] vs = 0) (h5 : vs.length ≤ 3) : tagErr l s r vs = 0 := by
  have hh : headB l s r = true := by
    unfold headB
    rw [h1]
    rcases h2 with rfl | h2 <;> rcases h3 with rfl | h3 <;> simp [*]
  unfold tagErr
  rw [if_neg (by rw [hh]; decide), if_pos h4, if_neg (by omega)]
theorem lessC_err {t t' : TagC} (h : lessC t = some t') (he : t.err = 0) : t'.err = 0 := by
  obtain ⟨h1, h2, h3, h4, h5⟩ := tagErr_ok he
  unfold lessC at h
  split at h
  · cases h
    refine tagErr_mk h1 h2 h3 ?_ ?_
    · rename_i hv
      rw [List.map_dropLast]
      have e : t.vs.map (·.data.toList) ≠ [] := by simpa using hv
      have := List.dropLast_concat_getLast e
      rw [← this] at h4
      exact varErr_front _ _ _ h4
    · simp at h5 ⊢; omega
  · rename_i hv
    have hv : t.vs = [] := by simpa using hv
    split at h
    · cases h
      exact tagErr_mk h1 h2 (.inl rfl) h4 h5
    · split at h
      · cases h
        exact tagErr_mk h1 (.inl rfl) h3 h4 h5
      · cases h
theorem chainC_err (k : Nat) : ∀ t, sizeC t = k → t.err = 0 → ∀ u ∈ chainC t, u.err = 0 := by
  induction k with
  | zero =>
    intro t hk he u hu
    cases hl : lessC t with
    | none => rw [chainC_none hl] at hu; simp at hu; exact hu ▸ he
    | some t' => have := lessC_size hl; omega
  | succ k ih =>
    intro t hk he u hu
    cases hl : lessC t with
    | none => rw [chainC_none hl] at hu; simp at hu; exact hu ▸ he
    | some t' =>
      rw [chainC_some hl] at hu
      rcases List.mem_cons.1 hu with rfl | hu
      · exact he
      · exact ih t' (by have := lessC_size hl; omega) (lessC_err hl he) u hu
theorem sizeC_le {t : TagC} (he : t.err = 0) : sizeC t ≤ 5 := by
  have h5 := (tagErr_ok he).2.2.2.2
  simp only [List.length_map] at h5
  unfold sizeC
  split <;> split <;> omega
end Go.Proofs.YtplaohmdllindaaGreatDoor

/- What find.In tells. No program stands here. -/
namespace Go.Proofs.YtplaohmdllindaaGreatDoor

def TagC.text (t : TagC) : Bs := tagText t.l.data.toList t.s.data.toList t.r.data.toList (t.vs.map (·.data.toList))
def enC : TagC := ⟨⟨#[101, 110]⟩, ⟨#[]⟩, ⟨#[]⟩, []⟩
def tagC (s : ByteArray) : TagC := ⟨⟨(madeT s.data.toList).l.toArray⟩, ⟨(madeT s.data.toList).s.toArray⟩, ⟨(madeT s.data.toList).r.toArray⟩, (madeT s.data.toList).vs.map fun x => ⟨x.toArray⟩⟩
def loadErr : List ByteArray → List BunC → Int
  | _, [] => 0
  | seen, b :: r => if b.err = 0 then (if memB seen b.tag = true then 5 else loadErr (seen ++ [b.tag]) r) else b.err
def entText (es : List EntC) (key : ByteArray) : Option ByteArray := (es.find? (fun e => decide (e.key = key))).map (·.text)
def bunAt (name : Bs) (key : ByteArray) : Nat → List BunC → Option (Nat × ByteArray)
  | _, [] => none
  | i, b :: r => match (if b.tag.data.toList = name then entText b.es key else none) with
    | some s => some (i, s)
    | none => bunAt name key (i + 1) r
def findC (l : List BunC) (key : ByteArray) : List TagC → Option (Nat × ByteArray)
  | [] => none
  | t :: r => match bunAt t.text key 0 l with
    | some x => some x
    | none => findC l key r
def findP (l : List BunC) (name key : ByteArray) : Int × Nat × ByteArray :=
  if loadErr [] l = 0 then
    (if ownTag name.data.toList = true then
      (match findC l key (chainC (tagC name) ++ [enC]) with
        | some x => (0, x)
        | none => (2, 0, ⟨#[]⟩))
    else (3, 0, ⟨#[]⟩))
  else (loadErr [] l, 0, ⟨#[]⟩)

end Go.Proofs.YtplaohmdllindaaGreatDoor

/- linguisterref2.TextIn. -/
namespace Go.Proofs.YtplaohmdllindaaGreatDoor
open Go.RowKit

theorem key_dec (a b : ByteArray) : decide (a = b) = (a.toList == b.toList) := by
  rw [Bool.eq_iff_iff]
  simp only [decide_eq_true_eq, beq_iff_eq]
  constructor
  · rintro rfl; rfl
  · intro h
    rw [Lib.toList_data, Lib.toList_data] at h
    exact ByteArray.ext (Array.ext' h)
theorem entText_at (key : ByteArray) : ∀ es : List EntC, entText es key = (entAtN es key).bind (fun i => (es[i]?).map (·.text))
  | [] => rfl
  | e :: r => by
    have ih := entText_at key r
    unfold entText entAtN at ih ⊢
    rw [List.find?_cons, List.findIdx?_cons, key_dec]
    cases hq : (e.key.toList == key.toList)
    · simp only [Bool.false_eq_true, if_false]
      rw [ih]
      cases List.findIdx? (fun e => e.key.toList == key.toList) r <;> simp
    · simp
theorem entText_none {es : List EntC} {key : ByteArray} (h : entAtN es key = none) : entText es key = none := by rw [entText_at, h]; rfl
theorem bunAt_step {l : List BunC} {k : Nat} {b : BunC} (name : Bs) (key : ByteArray) (h : l[k]? = some b) : bunAt name key k (l.drop k) = match (if b.tag.data.toList = name then entText b.es key else none) with
    | some s => some (k, s)
    | none => bunAt name key (k + 1) (l.drop (k + 1)) := by
  obtain ⟨hk, rfl⟩ := List.getElem?_eq_some_iff.1 h
  rw [List.drop_eq_getElem_cons hk, bunAt]
  all_goals rfl
theorem tag_eq {a b : ByteArray} (h : (a.toList == b.toList) = true) : a.data.toList = b.data.toList := by
  have := eq_of_beq h
  rw [Lib.toList_data, Lib.toList_data] at this
  exact this
theorem tag_ne {a b : ByteArray} (h : (a.toList == b.toList) = false) : ¬ a.data.toList = b.data.toList := fun e => by
  rw [Lib.toList_data, Lib.toList_data, e] at h
  simp at h
end Go.Proofs.YtplaohmdllindaaGreatDoor

/- linguisterref1.Cut at a sign. -/
namespace Go.Proofs.YtplaohmdllindaaGreatDoor
open Go.RowKit

end Go.Proofs.YtplaohmdllindaaGreatDoor

/- linguisterref1.Joined. -/
namespace Go.Proofs.YtplaohmdllindaaGreatDoor
open Go.RowKit

end Go.Proofs.YtplaohmdllindaaGreatDoor

/- linguisterref1.In. -/
namespace Go.Proofs.YtplaohmdllindaaGreatDoor
open Go.RowKit

end Go.Proofs.YtplaohmdllindaaGreatDoor

/- What nout.Read reads of what nout.Format told: the texts between. No program stands here. -/
namespace Go.Proofs.YtplaohmdllindaaGreatDoor

/-! lists -/
theorem trimPre_app (p x : List UInt8) : Lib.trimPrefix (p ++ x) p = x := by
  have h : Lib.hasPrefix (p ++ x) p = true := by
    unfold Lib.hasPrefix
    rw [List.isPrefixOf_iff_prefix]
    exact List.prefix_append p x
  unfold Lib.trimPrefix
  rw [if_pos h, List.drop_left]
theorem trimSuf_app (x q : List UInt8) : Lib.trimSuffix (x ++ q) q = x := by
  have h : Lib.hasSuffix (x ++ q) q = true := by
    unfold Lib.hasSuffix
    rw [List.isSuffixOf_iff_suffix]
    exact List.suffix_append x q
  unfold Lib.trimSuffix
  rw [if_pos h]
  simp
theorem no_prefix (c : UInt8) (l : List UInt8) (h : c ∉ l) : Lib.hasPrefix l [c] = false := by
  cases l with
  | nil => rfl
  | cons x l =>
    have hx : c ≠ x := fun e => h (by simp [e])
    simp [Lib.hasPrefix, List.isPrefixOf, hx]
theorem no_trimPrefix (c : UInt8) (l : List UInt8) (h : c ∉ l) : Lib.trimPrefix l [c] = l := by
  unfold Lib.trimPrefix
  rw [if_neg (by rw [no_prefix c l h]; decide)]
theorem fil_self {c : UInt8} {l : List UInt8} (h : c ∉ l) : l.filter (fun x => !(x == c)) = l :=
  List.filter_eq_self.2 fun x hx => by
    have : x ≠ c := fun e => h (e ▸ hx)
    simp [this]
theorem rep_filter (c : UInt8) : ∀ (k : Nat) (s : List UInt8), s.count c ≤ k → Lib.replaceK [c] [] k s = s.filter (fun x => !(x == c)) := by
  intro k
  induction k with
  | zero =>
    intro s h
    have hc : c ∉ s := fun hm => by have := List.count_pos_iff.2 hm; omega
    rw [Lib.replaceK, fil_self hc]
  | succ k ih =>
    intro s h
    by_cases hm : c ∈ s
    · obtain ⟨a, b, rfl, ha⟩ := List.eq_append_cons_of_mem hm
      have hi : Lib.index (a ++ c :: b) [c] = (a.length : Int) := by rw [Lib.index_one]; exact indexByte_at a b c ha
      have h2 : b.count c ≤ k := by
        rw [List.count_append, List.count_cons_self, List.count_eq_zero.2 ha] at h
        omega
      have hd : (a ++ c :: b).drop (a.length + [c].length) = b := by
        rw [← List.drop_drop, List.drop_left]
        rfl
      rw [Lib.replaceK_hit [c] [] k _ a.length hi, List.take_left, hd, ih b h2, List.append_nil, List.filter_append, fil_self ha, List.filter_cons_of_neg (by simp)]
    · have hi : Lib.index s [c] = -1 := by rw [Lib.index_one]; exact indexByte_none s c hm
      rw [Lib.replaceK, if_pos (by rw [hi]; rfl), fil_self hm]
theorem rep_all (c : UInt8) (s : List UInt8) : Lib.replaceAll s [c] [] = s.filter (fun x => !(x == c)) := by
  unfold Lib.replaceAll Lib.replace
  rw [if_neg (by simp), show Lib.replaceNum s [c] (-1) = s.count c from by unfold Lib.replaceNum; rw [if_pos (.inl (by omega)), Lib.count_one]]
  exact rep_filter c _ s (Nat.le_refl _)
theorem tail_filter (c : UInt8) : ∀ (r : List (List UInt8)), (∀ x ∈ r, c ∉ x) → (Lib.joinTail [c] r).filter (fun x => !(x == c)) = r.flatten
  | [], _ => rfl
  | y :: r, h => by
    have e : Lib.joinTail [c] (y :: r) = c :: (y ++ Lib.joinTail [c] r) := by simp [Lib.joinTail]
    rw [e, List.filter_cons_of_neg (by simp), List.filter_append, fil_self (h y (by simp)), tail_filter c r (fun x hx => h x (by simp [hx])), List.flatten_cons]
theorem join_filter (c : UInt8) : ∀ (xs : List (List UInt8)), (∀ x ∈ xs, c ∉ x) → (Lib.join xs [c]).filter (fun x => !(x == c)) = xs.flatten
  | [], _ => rfl
  | x :: r, h => by
    rw [Lib.join_cons, List.filter_append, fil_self (h x (by simp)), tail_filter c r (fun y hy => h y (by simp [hy])), List.flatten_cons]
theorem pcs_flat : ∀ (k a b : Nat) (l : List UInt8), (pcsF k a b l).reverse.flatten = l
  | 0, a, b, l => by simp [pcsF]
  | k + 1, a, b, l => by
    unfold pcsF
    split
    · simp
    · rw [List.reverse_cons, List.flatten_append, pcs_flat k b b _]
      simp [List.take_append_drop]

/-! groups -/
theorem put_filter (cm : UInt8) (g g2 : Nat) (s : ByteArray) (h : cm ∉ s.data.toList) : Lib.replaceAll (putC cm g g2 s).data.toList [cm] [] = s.data.toList := by
  rw [rep_all]
  unfold putC
  split
  · exact fil_self h
  · unfold grpC
    show (Lib.join (pcsF s.size g _ s.data.toList).reverse [cm]).filter _ = _
    rw [join_filter, pcs_flat]
    intro x hx hc
    apply h
    rw [← pcs_flat s.size g _ s.data.toList]
    exact List.mem_flatten.2 ⟨x, hx, hc⟩
theorem put_mem (cm : UInt8) (g g2 : Nat) (s : ByteArray) (h : cm ∉ s.data.toList) {x : UInt8} (hx : x ∈ (putC cm g g2 s).data.toList) : x = cm ∨ x ∈ s.data.toList := by
  by_cases hc : x = cm
  · exact .inl hc
  · right
    rw [← put_filter cm g g2 s h, rep_all]
    exact List.mem_filter.2 ⟨hx, by simp [hc]⟩

/-! noughts -/
theorem left_zero : ∀ (k : Nat) (W : List UInt8), Lib.trimLeftB (Lib.repeatL [48] k ++ W) 48 = Lib.trimLeftB W 48
  | 0, W => by simp [Lib.repeatL]
  | k + 1, W => by
    rw [rep_snoc, List.append_assoc, left_zero k]
    simp [Lib.trimLeftB]
theorem right_zero : ∀ (k : Nat) (B : List UInt8), Lib.trimRightB (B ++ Lib.repeatL [48] k) 48 = Lib.trimRightB B 48
  | 0, B => by simp [Lib.repeatL]
  | k + 1, B => by
    rw [rep_snoc, ← List.append_assoc, ← right_zero k B]
    simp [Lib.trimRightB]
theorem dd_head : ∀ (k n : Nat), n ≤ k → n ≠ 0 → ∃ x l, Lib.decDigits n = x :: l ∧ x ≠ 48 := by
  intro k
  induction k with
  | zero => intro n h h0; omega
  | succ k ih =>
    intro n h h0
    rw [Lib.decDigits]
    split
    · rename_i h10
      refine ⟨_, [], rfl, ?_⟩
      have : ∀ m : Nat, m < 10 → m ≠ 0 → UInt8.ofNat (48 + m) ≠ 48 := by decide
      exact this n h10 h0
    · obtain ⟨x, l, e, hx⟩ := ih (n / 10) (by omega) (by omega)
      exact ⟨x, l ++ _, by rw [e]; rfl, hx⟩
theorem dd_last (n : Nat) : ∃ l, Lib.decDigits n = l ++ [UInt8.ofNat (48 + n % 10)] := by
  rw [Lib.decDigits]
  split
  · rename_i h
    exact ⟨[], by rw [Nat.mod_eq_of_lt h]; rfl⟩
  · exact ⟨_, rfl⟩
theorem padL (c : Int) (s : Nat) : (padB c s).data.toList = Lib.repeatL [48] (s + 1 - (ddB c).size) ++ (ddB c).data.toList := by simp [padB]
theorem ddL (c : Int) : (ddB c).data.toList = Lib.decDigits c.natAbs := by simp [ddB]
theorem wholeL (c : Int) (s : Nat) : (wholeB c s).data.toList = (padB c s).data.toList.take ((padB c s).size - s) := by
  unfold wholeB
  rw [Lib.extract_data]
  simp
theorem behindL (c : Int) (s : Nat) : (behindB c s).data.toList = (padB c s).data.toList.drop ((padB c s).size - s) := by
  unfold behindB
  rw [Lib.extract_data]
  rw [List.take_of_length_le]
  rw [List.length_drop, bsize]
  omega
theorem whole_head (c : Int) (s : Nat) : (wholeB c s).data.toList = [48] ∨ ∃ x l, (wholeB c s).data.toList = x :: l ∧ x ≠ 48 := by
  rw [wholeL, padL, padB_size]
  have hd : (ddB c).data.toList.length = (ddB c).size := bsize _
  by_cases h : s + 1 ≤ (ddB c).size
  · have e0 : s + 1 - (ddB c).size = 0 := by omega
    rw [e0]
    rw [show Lib.repeatL [48] 0 = [] from rfl, List.nil_append, show max (s + 1) (ddB c).size - s = ((ddB c).size - s - 1) + 1 by omega]
    by_cases h0 : c = 0
    · left
      subst h0
      have : (ddB 0).data.toList = [48] := by rw [ddL]; exact (by first | decide | rfl | (simp [Lib.decDigits]; done) | (rw [Int.natAbs_zero, Lib.decDigits]; rfl))
      rw [this]
      simp
    · right
      obtain ⟨x, l, e, hx⟩ := dd_head c.natAbs c.natAbs (Nat.le_refl _) (by omega)
      rw [ddL, e, List.take_succ_cons]
      exact ⟨x, _, rfl, hx⟩
  · left
    rw [show max (s + 1) (ddB c).size - s = 1 by omega, show s + 1 - (ddB c).size = (s - (ddB c).size) + 1 by omega]
    rw [show Lib.repeatL [48] ((s - (ddB c).size) + 1) = 48 :: Lib.repeatL [48] (s - (ddB c).size) from rfl]
    rfl
/-- the digits ahead, without noughts; 0 if there is none -/
def leadP (l : List UInt8) : List UInt8 := if (Lib.trimLeftB l 48).isEmpty then [48] else Lib.trimLeftB l 48
theorem lead_whole (k : Nat) (c : Int) (s : Nat) : leadP (Lib.repeatL [48] k ++ (wholeB c s).data.toList) = (wholeB c s).data.toList := by
  unfold leadP
  rw [left_zero]
  rcases whole_head c s with h | ⟨x, l, h, hx⟩
  · rw [h]; rfl
  · have : Lib.trimLeftB (x :: l) 48 = x :: l := by
      unfold Lib.trimLeftB
      rw [List.dropWhile_cons_of_neg (by simpa using hx)]
    rw [h, this]
    rfl
theorem tmod_last {c : Int} (h : c.tmod 10 ≠ 0) : c.natAbs % 10 ≠ 0 := by
  intro e
  apply h
  have : (10 : Int) ∣ c := Int.natAbs_dvd_natAbs.1 (Nat.dvd_of_mod_eq_zero e)
  exact Int.tmod_eq_zero_of_dvd this
theorem behind_last (c : Int) (s : Nat) (hs : 0 < s) (hc : c.tmod 10 ≠ 0) : ∃ l x, (behindB c s).data.toList = l ++ [x] ∧ x ≠ 48 := by
  have hm := tmod_last hc
  obtain ⟨l, e⟩ := dd_last c.natAbs
  have hx : UInt8.ofNat (48 + c.natAbs % 10) ≠ 48 := by
    have : ∀ m : Nat, m < 10 → m ≠ 0 → UInt8.ofNat (48 + m) ≠ 48 := by decide
    exact this _ (by omega) hm
  have hz := padB_size c s
  rw [behindL, padL, ddL, e, ← List.append_assoc]
  refine ⟨(Lib.repeatL [48] (s + 1 - (ddB c).size) ++ l).drop ((padB c s).size - s), _, ?_, hx⟩
  have hl : ((Lib.repeatL [48] (s + 1 - (ddB c).size) ++ l).length) + 1 = (padB c s).size := by
    have h1 := congrArg List.length (padL c s)
    rw [bsize, ddL, e] at h1
    rw [h1]
    simp
    omega
  rw [List.drop_append_of_le_length (by omega)]
theorem right_behind (k : Nat) (c : Int) (s : Nat) (h : s = 0 ∨ c.tmod 10 ≠ 0) : Lib.trimRightB ((behindB c s).data.toList ++ Lib.repeatL [48] k) 48 = (behindB c s).data.toList := by
  rw [right_zero]
  by_cases h0 : s = 0
  · subst h0
    rw [behind_zero]
    rfl
  · obtain ⟨l, x, e, hx⟩ := behind_last c s (by omega) (by
      rcases h with h | h
      · omega
      · exact h)
    rw [e]
    unfold Lib.trimRightB
    rw [List.reverse_append]
    show (List.dropWhile _ (x :: l.reverse)).reverse = _
    rw [List.dropWhile_cons_of_neg (by simpa using hx)]
    simp
theorem behind_some (c : Int) (s : Nat) (hs : 0 < s) : ((behindB c s).data.toList).isEmpty = false := by
  have hz := padB_size c s
  rw [behindL, List.isEmpty_eq_false_iff]
  intro e
  have := congrArg List.length e
  rw [List.length_drop, bsize, List.length_nil] at this
  omega
/-- the text is put together again -/
theorem decT_again (c : Int) (s : Nat) : (decT c s).data.toList = (if c < 0 then [45] else []) ++ ((wholeB c s).data.toList ++ (if (behindB c s).data.toList.isEmpty then [] else 46 :: (behindB c s).data.toList)) := by
  rw [decT_parts]
  by_cases h0 : s = 0
  · subst h0
    rw [if_pos rfl, sw_list, behind_zero]
    simp
  · rw [if_neg h0, behind_some c s (by omega)]
    have e : (swB c s ++ ⟨#[46]⟩ ++ behindB c s).data.toList = (swB c s).data.toList ++ 46 :: (behindB c s).data.toList := by simp
    rw [e, sw_list]
    simp

/-! the number of a text -/
theorem whole_behind (c : Int) (s : Nat) : (wholeB c s).data.toList ++ (behindB c s).data.toList = (padB c s).data.toList := by rw [wholeL, behindL, List.take_append_drop]
theorem decFrom_zeros : ∀ (k : Nat) (l : List UInt8), Lib.decFrom 0 (Lib.repeatL [48] k ++ l) = Lib.decFrom 0 l
  | 0, l => by simp [Lib.repeatL]
  | k + 1, l => by
    rw [rep_snoc, List.append_assoc, decFrom_zeros k]
    rfl
theorem decFrom_pad (c : Int) (s : Nat) : Lib.decFrom 0 (padB c s).data.toList = some c.natAbs := by
  rw [padL, decFrom_zeros, ddL]
  exact decFrom_dd _ _ (Nat.le_refl _)
theorem atoi_pad (c : Int) (s : Nat) : Lib.atoi ((swB c s).data.toList ++ (behindB c s).data.toList) = some c := by
  rw [sw_list, List.append_assoc, whole_behind]
  have hp := decFrom_pad c s
  have ha := padB_allD c s
  have hz := padB_size c s
  cases hl : (padB c s).data.toList with
  | nil =>
    have := congrArg List.length hl
    rw [bsize, List.length_nil] at this
    omega
  | cons x l =>
    rw [hl] at hp ha
    have hn : Lib.decNat (x :: l) = some c.natAbs := by unfold Lib.decNat; rw [if_neg (by simp)]; exact hp
    by_cases h : c < 0
    · rw [if_pos h]
      show (Lib.decNat (x :: l)).map _ = _
      rw [hn]
      simp
      omega
    · rw [if_neg h, List.nil_append]
      have hx := ha x (by simp)
      have h1 : (x == (45 : UInt8)) = false := by
        rw [beq_eq_false_iff_ne]
        rintro rfl
        exact absurd hx.1 (by decide)
      have h2 : (x == (43 : UInt8)) = false := by
        rw [beq_eq_false_iff_ne]
        rintro rfl
        exact absurd hx.1 (by decide)
      rw [show Lib.atoi (x :: l) = (if (x == 45) = true then (Lib.decNat l).map fun (m : Nat) => -(m : Int) else if (x == 43) = true then (Lib.decNat l).map fun (m : Nat) => (m : Int) else (Lib.decNat (x :: l)).map fun (m : Nat) => (m : Int)) from rfl, h1, h2]
      simp only [Bool.false_eq_true, if_false]
      rw [hn]
      simp
      omega
theorem atoi_len {c : Int} {s : Nat} (h : decOk c s) : ((swB c s).data.toList ++ (behindB c s).data.toList).length ≤ 18 := by
  rw [sw_list, List.append_assoc, whole_behind, List.length_append, bsize, padB_size]
  obtain ⟨h1, h2, h3, h4⟩ := h
  have hd : (ddB c).size ≤ 16 := by
    rw [← bsize, ddL]
    exact decDigits_size 16 _ (by omega) (by omega)
  split
  · simp; omega
  · simp; omega
end Go.Proofs.YtplaohmdllindaaGreatDoor

/- The number that nout.Format shows, as a number. No program stands here. -/
namespace Go.Proofs.YtplaohmdllindaaGreatDoor

theorem ten_ge (n : Nat) : 1 ≤ ten n := by
  induction n with
  | zero => exact Int.le_refl 1
  | succ n ih => rw [ten_succ]; omega
/-- N is the whole number nearest to M / D; halfway the even one -/
def Near (N M D : Int) : Prop := 2 * (N * D) - 2 * M ≤ D ∧ 2 * M - 2 * (N * D) ≤ D ∧ ((2 * (N * D) - 2 * M = D ∨ 2 * M - 2 * (N * D) = D) → N % 2 = 0)
theorem Near.exact {N M D : Int} (hD : 1 ≤ D) (h : N * D = M) : Near N M D := by
  subst h
  exact ⟨by omega, by omega, fun h => by omega⟩
theorem Near.up {N M D : Int} (k : Int) (hk : 1 ≤ k) (h : Near N M D) : Near N (M * k) (D * k) := by
  obtain ⟨h1, h2, h3⟩ := h
  have e : N * (D * k) = N * D * k := (Int.mul_assoc _ _ _).symm
  have a1 := Int.mul_le_mul_of_nonneg_right h1 (show 0 ≤ k by omega)
  have a2 := Int.mul_le_mul_of_nonneg_right h2 (show 0 ≤ k by omega)
  rw [Int.sub_mul, Int.mul_assoc 2, Int.mul_assoc 2] at a1 a2
  refine ⟨by rw [e]; omega, by rw [e]; omega, fun h => h3 ?_⟩
  rw [e] at h
  rcases h with h | h
  · left
    apply Int.eq_of_mul_eq_mul_right (show k ≠ 0 by omega)
    rw [Int.sub_mul, Int.mul_assoc 2, Int.mul_assoc 2]
    exact h
  · right
    apply Int.eq_of_mul_eq_mul_right (show k ≠ 0 by omega)
    rw [Int.sub_mul, Int.mul_assoc 2, Int.mul_assoc 2]
    exact h
theorem Near.down {N M D : Int} (k : Int) (hk : 1 ≤ k) (h : Near N (M * k) (D * k)) : Near N M D := by
  obtain ⟨h1, h2, h3⟩ := h
  have e : N * (D * k) = N * D * k := (Int.mul_assoc _ _ _).symm
  rw [e] at h1 h2 h3
  refine ⟨?_, ?_, fun h => h3 ?_⟩
  · refine Int.le_of_mul_le_mul_right (a := k) ?_ (by omega)
    rw [Int.sub_mul, Int.mul_assoc 2, Int.mul_assoc 2]
    exact h1
  · refine Int.le_of_mul_le_mul_right (a := k) ?_ (by omega)
    rw [Int.sub_mul, Int.mul_assoc 2, Int.mul_assoc 2]
    exact h2
  · rcases h with h | h
    · left
      have h' : (2 * (N * D) - 2 * M) * k = D * k := by rw [h]
      rw [Int.sub_mul, Int.mul_assoc 2, Int.mul_assoc 2] at h'
      exact h'
    · right
      have h' : (2 * M - 2 * (N * D)) * k = D * k := by rw [h]
      rw [Int.sub_mul, Int.mul_assoc 2, Int.mul_assoc 2] at h'
      exact h'
theorem Near.mono {N1 N2 M1 M2 D : Int} (hD : 1 ≤ D) (h1 : Near N1 M1 D) (h2 : Near N2 M2 D) (h : M1 ≤ M2) : N1 ≤ N2 := by
  by_cases hc : N1 ≤ N2
  · exact hc
  · exfalso
    have hm : (N2 + 1) * D ≤ N1 * D := Int.mul_le_mul_of_nonneg_right (by omega) (by omega)
    rw [Int.add_mul, Int.one_mul] at hm
    obtain ⟨a1, a2, a3⟩ := h1
    obtain ⟨b1, b2, b3⟩ := h2
    have e1 : 2 * (N1 * D) - 2 * M1 = D := by omega
    have e2 : 2 * M2 - 2 * (N2 * D) = D := by omega
    have p1 := a3 (.inl e1)
    have p2 := b3 (.inr e2)
    have e3 : N1 * D = (N2 + 1) * D := by rw [Int.add_mul, Int.one_mul]; omega
    have := Int.eq_of_mul_eq_mul_right (show D ≠ 0 by omega) e3
    omega
theorem Near.one {N1 N2 M D : Int} (hD : 1 ≤ D) (h1 : Near N1 M D) (h2 : Near N2 M D) : N1 = N2 := by
  have a := h1.mono hD h2 (Int.le_refl _)
  have b := h2.mono hD h1 (Int.le_refl _)
  omega

theorem trim_same : ∀ (s : Nat) (c : Int), (trimP c s).1 * ten s = c * ten (trimP c s).2
  | 0, c => rfl
  | s + 1, c => by
    unfold trimP
    split
    · rename_i h
      have ih := trim_same s (c.tdiv 10)
      have e : c.tdiv 10 * 10 = c := by have := Int.tdiv_mul_add_tmod c 10; omega
      rw [ten_succ, ← Int.mul_assoc, ih]
      calc c.tdiv 10 * ten (trimP (c.tdiv 10) s).2 * 10 = (c.tdiv 10 * 10) * ten (trimP (c.tdiv 10) s).2 := by rw [Int.mul_assoc, Int.mul_comm (ten _) 10, ← Int.mul_assoc]
        _ = c * ten (trimP (c.tdiv 10) s).2 := by rw [e]
    · rfl
theorem trim_last : ∀ (s : Nat) (c : Int), (trimP c s).2 = 0 ∨ (trimP c s).1.tmod 10 ≠ 0
  | 0, _ => .inl rfl
  | s + 1, c => by
    unfold trimP
    split
    · exact trim_last s _
    · exact .inr (by assumption)
theorem trim_id : ∀ (s : Nat) (c : Int), (s = 0 ∨ c.tmod 10 ≠ 0) → trimP c s = (c, s)
  | 0, _, _ => rfl
  | s + 1, c, h => by
    unfold trimP
    have h2 : c.tmod 10 ≠ 0 := by
      rcases h with h | h
      · omega
      · exact h
    rw [if_neg h2]
theorem fix_le {xf : Nat} {c : Int} {s : Nat} (h : decOk c s) : (fixP xf c s).2 ≤ xf := by
  obtain ⟨a, b⟩ := trimP_ok s c h
  unfold fixP
  split
  · rename_i h1
    exact (trimP_ok xf _ (round_ok a h1)).2
  · omega
theorem fix_last (xf : Nat) (c : Int) (s : Nat) : (fixP xf c s).2 = 0 ∨ (fixP xf c s).1.tmod 10 ≠ 0 := by
  unfold fixP
  split
  · exact trim_last _ _
  · exact trim_last _ _
theorem fix_id {xf : Nat} {c : Int} {s : Nat} (h : s ≤ xf) (h2 : s = 0 ∨ c.tmod 10 ≠ 0) : fixP xf c s = (c, s) := by
  unfold fixP
  rw [trim_id s c h2]
  rw [if_neg (by omega)]
theorem fix_fix {xf : Nat} {c : Int} {s : Nat} (h : decOk c s) : fixP xf (fixP xf c s).1 (fixP xf c s).2 = fixP xf c s := fix_id (fix_le h) (fix_last xf c s)
theorem fix_same {xf : Nat} {c : Int} {s : Nat} (h : decOk c s) (hs : s ≤ xf) : (fixP xf c s).1 * ten s = c * ten (fixP xf c s).2 := by
  obtain ⟨a, b⟩ := trimP_ok s c h
  have e : fixP xf c s = trimP c s := by unfold fixP; rw [if_neg (by omega)]
  rw [e]
  exact trim_same s c
theorem rnd_near {c : Int} {s xf : Nat} (hlt : xf < s) : Near (rnd c s xf 5) c (ten (s - xf)) := by
  have hu := ten_ge (s - xf)
  have hn : ((s : Int) - (xf : Int)).toNat = s - xf := by omega
  unfold rnd
  rw [if_neg (by omega), hn]
  generalize ten (s - xf) = u at *
  have key : ∀ m : Int, 0 ≤ m → Near (m / u + if nearB 5 (m / u) (m % u) u 1 then 1 else 0) m u ∧ Near (m / u + if nearB 5 (m / u) (m % u) u (-1) then 1 else 0) m u := by
    intro m hm
    have e := Int.mul_ediv_add_emod m u
    have r0 := Int.emod_nonneg m (show u ≠ 0 by omega)
    have r1 := Int.emod_lt_of_pos m (show 0 < u by omega)
    generalize m / u = q at *
    generalize m % u = r at *
    have e2 : (q + 1) * u = u * q + u := by rw [Int.add_mul, Int.one_mul, Int.mul_comm]
    have e3 : (q + 0) * u = u * q := by rw [Int.add_zero, Int.mul_comm]
    have both : ∀ sg : Int, Near (q + if nearB 5 q r u sg then 1 else 0) m u := by
      intro sg
      have hb : nearB 5 q r u sg = (decide (u < 2 * r) || ((2 * r == u) && (q % 2 == 1))) := by simp [nearB]
      rw [hb]
      by_cases h1 : u < 2 * r
      · rw [decide_eq_true h1, Bool.true_or, if_pos rfl]
        exact ⟨by rw [e2]; omega, by rw [e2]; omega, fun h => by rw [e2] at h; omega⟩
      · rw [decide_eq_false h1, Bool.false_or]
        by_cases h2 : 2 * r = u
        · by_cases h3 : q % 2 = 1
          · rw [show ((2 * r == u) && (q % 2 == 1)) = true by simp [h2, h3], if_pos rfl]
            exact ⟨by rw [e2]; omega, by rw [e2]; omega, fun h => by omega⟩
          · rw [show ((2 * r == u) && (q % 2 == 1)) = false by simp [h3], if_neg (by decide)]
            exact ⟨by rw [e3]; omega, by rw [e3]; omega, fun h => by omega⟩
        · rw [show ((2 * r == u) && (q % 2 == 1)) = false by simp [h2], if_neg (by decide)]
          exact ⟨by rw [e3]; omega, by rw [e3]; omega, fun h => by rw [e3] at h; omega⟩
    exact ⟨both 1, both (-1)⟩
  have neg : ∀ {N m : Int}, Near N m u → Near ((-1) * N) (-m) u := by
    intro N m h
    obtain ⟨h1, h2, h3⟩ := h
    have e : (-1) * N * u = -(N * u) := by rw [Int.mul_assoc, Int.neg_mul, Int.one_mul]
    exact ⟨by rw [e]; omega, by rw [e]; omega, fun h => by rw [e] at h; have := h3 (by omega); omega⟩
  split
  · have := neg (key (-c) (by omega)).2
    rw [Int.neg_neg] at this
    exact this
  · have := (key c (by omega)).1
    rw [Int.one_mul]
    exact this
theorem fix_near {xf : Nat} {c : Int} {s : Nat} : ∃ N, Near N (c * ten xf) (ten s) ∧ N * ten (fixP xf c s).2 = (fixP xf c s).1 * ten xf := by
  have ht := trim_same s c
  unfold fixP
  obtain ⟨c1, s1, e⟩ : ∃ c1 s1, trimP c s = (c1, s1) := ⟨_, _, rfl⟩
  rw [e] at ht ⊢
  simp only at ht ⊢
  by_cases hlt : xf < s1
  · rw [if_pos hlt]
    refine ⟨rnd c1 s1 xf 5, ?_, (trim_same xf _).symm⟩
    have h1 := ((rnd_near (c := c1) hlt).up (ten xf) (ten_ge _)).up (ten s) (ten_ge _)
    rw [← ten_add, show s1 - xf + xf = s1 by omega] at h1
    have e1 : c1 * ten xf * ten s = c * ten xf * ten s1 := by
      rw [Int.mul_assoc, Int.mul_comm (ten xf), ← Int.mul_assoc, ht, Int.mul_assoc, Int.mul_comm (ten s1), ← Int.mul_assoc]
    rw [e1, Int.mul_comm (ten s1) (ten s)] at h1
    exact h1.down (ten s1) (ten_ge _)
  · rw [if_neg hlt]
    have e0 : ten (xf - s1) * ten s1 = ten xf := by rw [← ten_add, show xf - s1 + s1 = xf by omega]
    refine ⟨c1 * ten (xf - s1), Near.exact (ten_ge _) ?_, by simp only; rw [Int.mul_assoc, e0]⟩
    rw [Int.mul_assoc, Int.mul_comm (ten (xf - s1)), ← Int.mul_assoc, ht, Int.mul_assoc, Int.mul_comm (ten s1), e0]
theorem fix_less {xf : Nat} {c d : Int} {s t : Nat} (h : (fixP xf c s).1 * ten (fixP xf d t).2 < (fixP xf d t).1 * ten (fixP xf c s).2) : c * ten t < d * ten s := by
  by_cases hc : c * ten t < d * ten s
  · exact hc
  · exfalso
    obtain ⟨N1, n1, v1⟩ := fix_near (xf := xf) (c := c) (s := s)
    obtain ⟨N2, n2, v2⟩ := fix_near (xf := xf) (c := d) (s := t)
    have m1 := n1.up (ten t) (ten_ge _)
    have m2 := n2.up (ten s) (ten_ge _)
    rw [Int.mul_comm (ten t) (ten s)] at m2
    have hM : d * ten xf * ten s ≤ c * ten xf * ten t := by
      have h1 := Int.mul_le_mul_of_nonneg_right (show d * ten s ≤ c * ten t by omega) (show 0 ≤ ten xf by have := ten_ge xf; omega)
      rw [Int.mul_assoc d, Int.mul_comm (ten s), ← Int.mul_assoc, Int.mul_assoc c, Int.mul_comm (ten t), ← Int.mul_assoc] at h1
      exact h1
    have hN := m2.mono (by have h1 := Int.mul_le_mul_of_nonneg_right (ten_ge s) (show 0 ≤ ten t by have := ten_ge t; omega); have := ten_ge t; omega) m1 hM
    generalize (fixP xf c s).1 = c2 at *
    generalize (fixP xf d t).1 = d2 at *
    have hA := ten_ge (fixP xf c s).2
    have hB := ten_ge (fixP xf d t).2
    generalize ten (fixP xf c s).2 = A at *
    generalize ten (fixP xf d t).2 = B at *
    have hX := ten_ge xf
    generalize ten xf = X at *
    have k1 : N2 * B * A ≤ N1 * A * B := by
      rw [Int.mul_assoc, Int.mul_assoc, Int.mul_comm A B]
      exact Int.mul_le_mul_of_nonneg_right hN (Int.mul_nonneg (by omega) (by omega))
    rw [v1, v2] at k1
    have k2 : d2 * A * X ≤ c2 * B * X := by
      rw [Int.mul_assoc, Int.mul_comm A X, ← Int.mul_assoc, Int.mul_assoc c2, Int.mul_comm B X, ← Int.mul_assoc]
      exact k1
    have := Int.le_of_mul_le_mul_right k2 (by omega)
    omega
theorem fix_round (xf : Nat) (c : Int) (s : Nat) (h : decOk c s) : (fixP xf c s).1 * ten (min s xf) = rnd c s (min s xf : Nat) 5 * ten (fixP xf c s).2 := by
  by_cases hs : s ≤ xf
  · rw [Nat.min_eq_left hs]
    have e : rnd c s s 5 = c := by
      unfold rnd
      rw [if_pos (Int.le_refl _), show ((s : Int) - (s : Int)).toNat = 0 by omega]
      exact Int.mul_one c
    rw [e]
    exact fix_same h hs
  · rw [Nat.min_eq_right (by omega)]
    obtain ⟨N, n, v⟩ := fix_near (xf := xf) (c := c) (s := s)
    have m := (rnd_near (c := c) (show xf < s by omega)).up (ten xf) (ten_ge _)
    rw [← ten_add, show s - xf + xf = s by omega] at m
    rw [m.one (ten_ge _) n, v]
theorem fix_sign (xf : Nat) (c : Int) (s : Nat) (h : decOk c s) : ((fixP xf c s).1 < 0) = (rnd c s (min s xf : Nat) 5 < 0) := by
  have e := fix_round xf c s h
  have a := ten_ge (min s xf)
  have b := ten_ge (fixP xf c s).2
  generalize (fixP xf c s).1 = p at *
  generalize rnd c s (min s xf : Nat) 5 = q at *
  generalize ten (min s xf) = A at *
  generalize ten (fixP xf c s).2 = B at *
  have neg : ∀ {x k : Int}, 1 ≤ k → (x < 0 ↔ x * k < 0) := by
    intro x k hk
    constructor
    · intro hx
      have := Int.mul_le_mul_of_nonneg_right (show x ≤ -1 by omega) (show 0 ≤ k by omega)
      omega
    · intro hx
      by_cases h0 : 0 ≤ x
      · have := Int.mul_nonneg h0 (show 0 ≤ k by omega); omega
      · omega
  rw [eq_iff_iff, neg a, neg b (x := q), e]
end Go.Proofs.YtplaohmdllindaaGreatDoor
