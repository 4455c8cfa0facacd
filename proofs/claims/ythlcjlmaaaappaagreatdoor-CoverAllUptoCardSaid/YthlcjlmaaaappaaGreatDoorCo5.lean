/- Trim, TrimCut, NameCode: texts put together. -/
import Derived.Test.YthlcjlmaaaappaaGreatDoorCo1
import Derived.Test.YthlcjlmaaaappaaGreatDoorShelf
import Derived.WalkLawsBesides
import Derived.Lib.Strings
import Derived.Deep.WholeRow
import Derived.Test.YthlcjlmaaaappaaGreatDoorCo2
set_option linter.unusedVariables false
set_option linter.unusedSimpArgs false
/- strings.trimRightASCII, trimLeftASCII, strings.Trim with a set of ASCII signs. -/
namespace Go.Proofs.YthlcjlmaaaappaaGreatDoor
open Go.RowKit

/-- The set at block b holds just what P tells. -/
def SetAt (w : World) (b : Nat) (P : UInt8 → Bool) : Prop := ∀ x : UInt8, w.cell? ⟨b, x.toNat, none⟩ = some (.bool (P x))

def sizeOfV : Value → Nat
  | .string t => t.size
  | _ => 0

def TrimR (s t : ByteArray) (P : UInt8 → Bool) : Prop := ∃ r : List UInt8, s.data.toList = t.data.toList ++ r ∧ r.all P = true ∧ (t.data.toList = [] ∨ ∃ l c, t.data.toList = l ++ [c] ∧ P c = false)
def HeadR (s t : ByteArray) (P : UInt8 → Bool) : Prop := ∃ r : List UInt8, s.data.toList = t.data.toList ++ r ∧ r.all P = true
theorem last_split (t : ByteArray) (h : 0 < t.size) (hi : t.size - 1 < t.size) : t.data.toList = (t.extract 0 (t.size - 1)).data.toList ++ [t[t.size - 1]] := by
  have hl : t.data.toList.length = t.size := by simp
  have e : (t.extract 0 (t.size - 1)).data.toList = t.data.toList.take (t.size - 1) := by rw [Lib.extract_data, List.drop_zero, Nat.sub_zero]
  rw [e]
  have hg : t.data.toList[t.size - 1]? = some t[t.size - 1] := by
    rw [List.getElem?_eq_getElem (by omega)]
    rfl
  have h2 := List.take_add_one (l := t.data.toList) (i := t.size - 1)
  rw [hg, show t.size - 1 + 1 = t.size by omega, List.take_of_length_le (by omega)] at h2
  exact h2

theorem trim_right (s : ByteArray) (b : Nat) (P : UInt8 → Bool) (w : World) (hS : SetAt w b P) (hs : s.size ≤ 9000000000000000000) :
    Calls Tryz.prog 124 #[.string s, .pointer (some ⟨b, 0, none⟩)] w fun e w' =>
      ∃ t : ByteArray, e = .returned (.string t) ∧ TrimR s t P ∧ w' = w := by
  have HS := Lib.hid hS
  clear hS
  go_enter Tryz.func124, Tryz.ntmps124
  go_wp2_with fail
  go_loop [0] (fun v => ∃ t : ByteArray, v = .string t ∧ t.size ≤ s.size ∧ Hid (HeadR s t P)) (fun v => sizeOfV v)
  case atStart => exact ⟨s, rfl, Nat.le_refl _, Lib.hid ⟨[], by simp, rfl⟩⟩
  case round =>
    obtain ⟨t, rfl, hle, hall⟩ := hrel
    by_cases h0 : t.size = 0
    · have he : t = ⟨#[]⟩ := by
        apply ByteArray.ext
        exact Array.eq_empty_of_size_eq_zero h0
      subst he
      go_wp2_with fail
      go_ret
      obtain ⟨r, h1, h2⟩ := hall.out
      exact ⟨⟨#[]⟩, rfl, ⟨r, h1, h2, .inl rfl⟩, rfl⟩
    · have hi : t.size - 1 < t.size := by omega
      have hc := HS.out t[t.size - 1]
      have e1 : IntKind.i64.wrap ((t.size : Int) - 1) = (t.size : Int) - 1 := IntWalk.i64_in _ (by omega)
      have e2 : ((t.size : Int) - 1).toNat = t.size - 1 := by omega
      have i0 : (0 : Int) ≤ (t.size : Int) - 1 := by omega
      have i1 : (t.size : Int) - 1 < (t.size : Int) := by omega
      have i2 : (0 : Int) < (t.size : Int) := by omega
      have hsp := Lib.hid (last_split t (by omega) hi)
      cases hp : P t[t.size - 1]
      · rw [hp] at hc
        go_wp2_with fail
        refine (Tryz.asciiSet_contains b _ false w hc).mono ?_
        rintro e w1 ⟨rfl, rfl⟩
        go_wp2_with fail
        go_ret
        obtain ⟨r, h1, h2⟩ := hall.out
        exact ⟨t, rfl, ⟨r, h1, h2, .inr ⟨_, _, hsp.out, hp⟩⟩, rfl⟩
      · rw [hp] at hc
        go_wp2_with fail
        refine (Tryz.asciiSet_contains b _ true w hc).mono ?_
        rintro e w1 ⟨rfl, rfl⟩
        go_wp2_with fail
        go_round
        case rel =>
          refine ⟨_, rfl, ?_, ?_⟩
          · simp; omega
          · obtain ⟨r, h1, h2⟩ := hall.out
            refine Lib.hid ⟨t[t.size - 1] :: r, ?_, by simp [hp]; simpa using h2⟩
            rw [h1, hsp.out, List.append_assoc]
            rfl
        case measure => simp [sizeOfV]; omega

def TrimL (s t : ByteArray) (P : UInt8 → Bool) : Prop := ∃ r : List UInt8, s.data.toList = r ++ t.data.toList ∧ r.all P = true ∧ (t.data.toList = [] ∨ ∃ c l, t.data.toList = c :: l ∧ P c = false)
def HeadL (s t : ByteArray) (P : UInt8 → Bool) : Prop := ∃ r : List UInt8, s.data.toList = r ++ t.data.toList ∧ r.all P = true
theorem first_split (t : ByteArray) (h : 0 < t.size) : t.data.toList = t[0] :: (t.extract 1 t.size).data.toList := by
  have hl : t.data.toList.length = t.size := by simp
  rw [Lib.extract_data, List.take_of_length_le (by rw [List.length_drop]; omega)]
  have hg : t.data.toList[0]? = some t[0] := by
    rw [List.getElem?_eq_getElem (by omega)]
    rfl
  generalize t.data.toList = L at *
  cases L with
  | nil => simp at hg
  | cons x L => simp at hg; simp [hg]

theorem trim_left (s : ByteArray) (b : Nat) (P : UInt8 → Bool) (w : World) (hS : SetAt w b P) (hs : s.size ≤ 9000000000000000000) :
    Calls Tryz.prog 123 #[.string s, .pointer (some ⟨b, 0, none⟩)] w fun e w' =>
      ∃ t : ByteArray, e = .returned (.string t) ∧ TrimL s t P ∧ w' = w := by
  have HS := Lib.hid hS
  clear hS
  go_enter Tryz.func123, Tryz.ntmps123
  go_wp2_with fail
  go_loop [0] (fun v => ∃ t : ByteArray, v = .string t ∧ t.size ≤ s.size ∧ Hid (HeadL s t P)) (fun v => sizeOfV v)
  case atStart => exact ⟨s, rfl, Nat.le_refl _, Lib.hid ⟨[], by simp, rfl⟩⟩
  case round =>
    obtain ⟨t, rfl, hle, hall⟩ := hrel
    by_cases h0 : t.size = 0
    · have he : t = ⟨#[]⟩ := by
        apply ByteArray.ext
        exact Array.eq_empty_of_size_eq_zero h0
      subst he
      go_wp2_with fail
      go_ret
      obtain ⟨r, h1, h2⟩ := hall.out
      exact ⟨⟨#[]⟩, rfl, ⟨r, h1, h2, .inl rfl⟩, rfl⟩
    · have hi : 0 < t.size := by omega
      have hc := HS.out t[0]
      have i2 : (0 : Int) < (t.size : Int) := by omega
      have i3 : (1 : Int) ≤ (t.size : Int) := by omega
      have hsp := Lib.hid (first_split t hi)
      cases hp : P t[0]
      · rw [hp] at hc
        go_wp2_with fail
        refine (Tryz.asciiSet_contains b _ false w hc).mono ?_
        rintro e w1 ⟨rfl, rfl⟩
        go_wp2_with fail
        go_ret
        obtain ⟨r, h1, h2⟩ := hall.out
        exact ⟨t, rfl, ⟨r, h1, h2, .inr ⟨_, _, hsp.out, hp⟩⟩, rfl⟩
      · rw [hp] at hc
        go_wp2_with fail
        refine (Tryz.asciiSet_contains b _ true w hc).mono ?_
        rintro e w1 ⟨rfl, rfl⟩
        go_wp2_with fail
        go_round
        case rel =>
          refine ⟨_, rfl, ?_, ?_⟩
          · simp; omega
          · obtain ⟨r, h1, h2⟩ := hall.out
            refine Lib.hid ⟨r ++ [t[0]], ?_, by rw [List.all_append, h2]; simp [hp]⟩
            rw [h1, hsp.out, List.append_assoc]
            rfl
        case measure => simp [sizeOfV]; omega
end Go.Proofs.YthlcjlmaaaappaaGreatDoor

/- strings.Trim with a set of ASCII signs, two or more. -/
namespace Go.Proofs.YthlcjlmaaaappaaGreatDoor
open Go.RowKit

theorem trim_set (cs : ByteArray) (ha : ∀ (j : Nat) (b : UInt8), cs.data.toList[j]? = some b → b.toNat < 128) (hl : 2 ≤ cs.size) (hl2 : cs.size ≤ 100) (s : ByteArray) (w : World) (h0 : 0 < s.size) (hs : s.size ≤ 9000000000000000000) :
    Calls Tryz.prog 93 #[.string s, .string cs] w fun e w' => ∃ t u : ByteArray, e = .returned (.string u) ∧ TrimR s t (cs.data.toList.contains ·) ∧ TrimL t u (cs.data.toList.contains ·) ∧ Below w.heap.size w w' := by
  have hv : ∀ w, (zeroValue 204).run Tryz.prog w = .ok (.agg (Array.replicate 256 (.bool false))) w := fun _ => by kernel_rfl
  have hmk := fun w => Tryz.strings_makeASCIISet hv cs w (by omega) ha
  have ne : ∀ t : ByteArray, 0 < t.size → ¬ t.toList = [] := fun t ht => by
    rw [Lib.toList_data]
    intro h
    have : t.data.toList.length = t.size := by simp
    rw [h] at this
    simp at this
    omega
  have n1 : ¬ s.toList = [] := ne s h0
  have n2 : s.toList.isEmpty = false := by cases h : s.toList with | nil => exact absurd h n1 | cons x l => rfl
  have m1 : ¬ cs.toList = [] := ne cs (by omega)
  have n3 : cs.toList.isEmpty = false := by cases h : cs.toList with | nil => exact absurd h m1 | cons x l => rfl
  have n4 : ¬ ((cs.size : Int) = 1) := by omega
  have HM := Lib.hid hmk
  have hz : (Lib.setCells cs.data.toList).size = 256 := Lib.setCells_size _
  have hone : (Lib.setCells cs.data.toList).all (·.oneCell') = true := Lib.setCells_one _
  have hat := Lib.hid (fun x => Lib.setCells_at cs.data.toList x)
  clear hmk ha ne
  go_enter Tryz.func93, Tryz.ntmps93
  go_wp2_with fail
  refine (HM.out w).mono ?_
  rintro e w1 ⟨rfl, hw1⟩
  generalize Lib.setCells cs.data.toList = Z at *
  have hin : (Tryz.prog.info? 204).map (·.size) = some Z.size := by rw [hz]; kernel_rfl
  have hst := run_storeCells_new (P := Tryz.prog) w1 204 (Array.replicate 256 (.bool false)) Z hin (by rw [hz]; simp) hone
  subst hw1
  have hsz : (w.alloc (.cells Z 204)).heap.size = w.heap.size + 1 := by simp
  rw [hsz] at hst
  have hS : SetAt ((w.alloc (.cells Z 204)).alloc (.cells Z 204)) (w.heap.size + 1) (cs.data.toList.contains ·) := fun x => by
    have h := heap_alloc_new (w.alloc (.cells Z 204)) (.cells Z 204)
    have h2 := hat.out x
    rw [hsz] at h
    unfold World.cell?
    rw [h]
    exact h2
  have HS := Lib.hid hS
  clear hS hin hone
  go_wp2_with fail
  refine (trim_right s _ _ _ HS.out hs).mono ?_
  rintro e w2 ⟨t, rfl, hR, rfl⟩
  have hts : t.size ≤ s.size := by
    obtain ⟨r, h1, _⟩ := hR
    have := congrArg List.length h1
    simp at this
    omega
  have HR := Lib.hid hR
  clear hR
  go_wp2_with fail
  refine (trim_left t _ _ _ HS.out (by omega)).mono ?_
  rintro e w3 ⟨u, rfl, hL, rfl⟩
  have HL := Lib.hid hL
  clear hL
  go_wp2_with fail
  go_ret
  exact ⟨t, u, rfl, HR.out, HL.out, (by (repeat (first | with_reducible exact Below.refl _ _ | with_reducible refine bel_set ?_ ?_ | with_reducible refine bel_alloc ?_ ?_ | with_reducible refine Below.drew ?_ | with_reducible refine bel_drewN _ ?_ | with_reducible refine bel_call ?_ (by assumption) ?_)); all_goals (first | (simp; done) | omega | (simp; omega)))⟩

theorem trim_none (P : UInt8 → Bool) {s t u : ByteArray} (h1 : TrimR s t P) (h2 : TrimL t u P) : (u.data.toList = [] ↔ s.data.toList.all P = true) := by
  obtain ⟨r, e1, r1, c1⟩ := h1
  obtain ⟨q, e2, q1, c2⟩ := h2
  rw [e1, e2]
  constructor
  · intro hu
    rw [hu, List.append_nil, List.all_append, q1, r1]; rfl
  · intro hall
    rcases c2 with h | ⟨c, l, h, hc⟩
    · exact h
    · rw [h] at hall
      simp only [List.all_append, List.all_cons, hc, Bool.false_and, Bool.and_false] at hall
      cases hall
end Go.Proofs.YthlcjlmaaaappaaGreatDoor

/- msg.Name. -/
namespace Go.Proofs.YthlcjlmaaaappaaGreatDoor
open Go.RowKit

theorem name_code (s : ByteArray) (w : World) (hs : s.size ≤ 9223372036854775807) :
    Calls Tryz.prog 60 #[.string s] w fun e w' => e = .returned (.bool (nameB s.data.toList)) ∧ Below w.heap.size w w' := by
  have hlen : s.data.toList.length = s.size := by simp
  by_cases h0 : s.size = 0
  · have he : s = ⟨#[]⟩ := ByteArray.ext (Array.eq_empty_of_size_eq_zero h0)
    subst he
    have HD : Hid (nameB (⟨#[]⟩ : ByteArray).data.toList = false) := Lib.hid rfl
    go_enter Tryz.func60, Tryz.ntmps60
    go_wp2_with fail
    go_ret
    exact ⟨ret_bool HD.out.symm, (by (repeat (first | with_reducible exact Below.refl _ _ | with_reducible refine bel_set ?_ ?_ | with_reducible refine bel_alloc ?_ ?_ | with_reducible refine Below.drew ?_ | with_reducible refine bel_drewN _ ?_ | with_reducible refine bel_call ?_ (by assumption) ?_)); all_goals (first | (simp; done) | omega | (simp; omega)))⟩
  · have n1 : ¬ s.toList = [] := by
      rw [Lib.toList_data]
      intro h
      rw [h] at hlen
      simp at hlen
      omega
    have n2 : s.toList.isEmpty = false := by cases h : s.toList with | nil => exact absurd h n1 | cons x l => rfl
    by_cases h20 : s.size ≤ 20
    · have i20 : (s.size : Int) ≤ 20 := by omega
      cases hA : s.data.toList.all (namS.data.toList.contains ·)
      · have HD := Lib.hid (nameB_bad hA)
        clear hlen
        go_enter Tryz.func60, Tryz.ntmps60
        go_wp2_with fail
        refine (trim_set namS namS_ascii (by decide) (by decide) s _ (by omega) (by omega)).mono ?_
        rintro e w1 ⟨t, u, rfl, hR, hL, hb1⟩
        have hiff := trim_none _ hR hL
        have m1 : ¬ u.toList = [] := by
          rw [Lib.toList_data]
          intro h
          rw [hiff.1 h] at hA
          cases hA
        have m2 : u.toList.isEmpty = false := by cases h : u.toList with | nil => exact absurd h m1 | cons x l => rfl
        clear hR hL hiff hA
        go_wp2_with fail
        go_ret
        exact ⟨ret_bool HD.out.symm, (by (repeat (first | with_reducible exact Below.refl _ _ | with_reducible refine bel_set ?_ ?_ | with_reducible refine bel_alloc ?_ ?_ | with_reducible refine Below.drew ?_ | with_reducible refine bel_drewN _ ?_ | with_reducible refine bel_call ?_ (by assumption) ?_)); all_goals (first | (simp; done) | omega | (simp; omega)))⟩
      · have hh := nameB_head (l := s.data.toList) (by omega) (by omega) hA
        have h1 : 0 < s.size := by omega
        have hg : s.data.toList.getD 0 0 = s[0] := by
          rw [List.getD_eq_getElem?_getD, List.getElem?_eq_getElem (by omega)]
          rfl
        rw [hg] at hh
        have hc : (s[0].toNat : Int).toNat.toUInt8 = s[0] := by simp
        have HC := Lib.hid hc
        have HD := Lib.hid hh
        have hI : Hid ((lowS.data.toList.contains s[0] = true ∧ 0 ≤ Lib.indexByte lowS.data.toList s[0]) ∨ (lowS.data.toList.contains s[0] = false ∧ ¬ 0 ≤ Lib.indexByte lowS.data.toList s[0])) := by
          refine Lib.hid ?_
          cases h : lowS.data.toList.contains s[0]
          · exact .inr ⟨rfl, low_no _ h⟩
          · exact .inl ⟨rfl, low_idx _ h⟩
        clear hlen hg hh hc
        go_enter Tryz.func60, Tryz.ntmps60
        go_wp2_with fail
        refine (trim_set namS namS_ascii (by decide) (by decide) s _ (by omega) (by omega)).mono ?_
        rintro e w1 ⟨t, u, rfl, hR, hL, hb1⟩
        have hiff := trim_none _ hR hL
        have m1 : u.toList = [] := by rw [Lib.toList_data]; exact hiff.2 hA
        clear hR hL hiff hA
        go_wp2_with fail
        refine (Tryz.strings_IndexByte lowS _ _).mono ?_
        rintro e w2 ⟨rfl, rfl⟩
        rw [HC.out]
        rcases hI.out with ⟨a1, a2⟩ | ⟨a1, a2⟩
        · rw [a1] at HD
          go_wp2_with fail
          go_ret
          exact ⟨ret_bool ((decide_eq_true a2).trans HD.out.symm), (by (repeat (first | with_reducible exact Below.refl _ _ | with_reducible refine bel_set ?_ ?_ | with_reducible refine bel_alloc ?_ ?_ | with_reducible refine Below.drew ?_ | with_reducible refine bel_drewN _ ?_ | with_reducible refine bel_call ?_ (by assumption) ?_)); all_goals (first | (simp; done) | omega | (simp; omega)))⟩
        · rw [a1] at HD
          go_wp2_with fail
          go_ret
          exact ⟨ret_bool ((decide_eq_false (by omega)).trans HD.out.symm), (by (repeat (first | with_reducible exact Below.refl _ _ | with_reducible refine bel_set ?_ ?_ | with_reducible refine bel_alloc ?_ ?_ | with_reducible refine Below.drew ?_ | with_reducible refine bel_drewN _ ?_ | with_reducible refine bel_call ?_ (by assumption) ?_)); all_goals (first | (simp; done) | omega | (simp; omega)))⟩
    · have i20 : ¬ (s.size : Int) ≤ 20 := by omega
      have HD := Lib.hid (nameB_long (l := s.data.toList) (by omega))
      clear hlen
      go_enter Tryz.func60, Tryz.ntmps60
      go_wp2_with fail
      go_ret
      exact ⟨ret_bool HD.out.symm, (by (repeat (first | with_reducible exact Below.refl _ _ | with_reducible refine bel_set ?_ ?_ | with_reducible refine bel_alloc ?_ ?_ | with_reducible refine Below.drew ?_ | with_reducible refine bel_drewN _ ?_ | with_reducible refine bel_call ?_ (by assumption) ?_)); all_goals (first | (simp; done) | omega | (simp; omega)))⟩
end Go.Proofs.YthlcjlmaaaappaaGreatDoor
