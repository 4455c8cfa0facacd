/- Trim, TrimCut, NameCode, TrimSet, PatCheck, TrimDigits, Group, NoutCut: texts put together. -/
import Derived.Test.YthlcjlmaaaappaaGreatDoorEw2
import Derived.Test.YthlcjlmaaaappaaGreatDoorShelf
import Derived.WalkLawsBesides
import Derived.Lib.Strings
import Derived.Deep.WholeRow
import Derived.Test.YthlcjlmaaaappaaGreatDoorEw3
set_option linter.unusedVariables false
set_option linter.unusedSimpArgs false
/- strings.trimRightASCII, trimLeftASCII, strings.Trim with a set of ASCII signs. -/
namespace Go.Proofs.YthlcjlmaaaappaaGreatDoor
open Go.RowKit

/-- The set at block b holds just what P tells. -/
def SetAt (w : World) (b : Nat) (P : UInt8 → Bool) : Prop := ∀ x : UInt8, w.cell? ⟨b, x.toNat, none⟩ = some (.bool (P x))

def sizeOfV : Value → Nat
  | .string t => t.size
  | _ => 0

def TrimR (s t : ByteArray) (P : UInt8 → Bool) : Prop := ∃ r : List UInt8, s.data.toList = t.data.toList ++ r ∧ r.all P = true ∧ (t.data.toList = [] ∨ ∃ l c, t.data.toList = l ++ [c] ∧ P c = false)
def HeadR (s t : ByteArray) (P : UInt8 → Bool) : Prop := ∃ r : List UInt8, s.data.toList = t.data.toList ++ r ∧ r.all P = true
theorem last_split (t : ByteArray) (h : 0 < t.size) (hi : t.size - 1 < t.size) : t.data.toList = (t.extract 0 (t.size - 1)).data.toList ++ [t[t.size - 1]] := by
  have hl : t.data.toList.length = t.size := by simp
  have e : (t.extract 0 (t.size - 1)).data.toList = t.data.toList.take (t.size - 1) := by rw [Lib.extract_data, List.drop_zero, Nat.sub_zero]
  rw [e]
  have hg : t.data.toList[t.size - 1]? = some t[t.size - 1] := by
    rw [List.getElem?_eq_getElem (by omega)]
    rfl
  have h2 := List.take_add_one (l := t.data.toList) (i := t.size - 1)
  rw [hg, show t.size - 1 + 1 = t.size by omega, List.take_of_length_le (by omega)] at h2
  exact h2

theorem trim_right (s : ByteArray) (b : Nat) (P : UInt8 → Bool) (w : World) (hS : SetAt w b P) (hs : s.size ≤ 9000000000000000000) :
    Calls Tryz.prog 124 #[.string s, .pointer (some ⟨b, 0, none⟩)] w fun e w' =>
      ∃ t : ByteArray, e = .returned (.string t) ∧ TrimR s t P ∧ w' = w := by
  have HS := Lib.hid hS
  clear hS
  go_enter Tryz.func124, Tryz.ntmps124
  go_wp2_with fail
  go_loop [0] (fun v => ∃ t : ByteArray, v = .string t ∧ t.size ≤ s.size ∧ Hid (HeadR s t P)) (fun v => sizeOfV v)
  case atStart => exact ⟨s, rfl, Nat.le_refl _, Lib.hid ⟨[], by simp, rfl⟩⟩
  case round =>
    obtain ⟨t, rfl, hle, hall⟩ := hrel
    by_cases h0 : t.size = 0
    · have he : t = ⟨#[]⟩ := by
        apply ByteArray.ext
        exact Array.eq_empty_of_size_eq_zero h0
      subst he
      go_wp2_with fail
      go_ret
      obtain ⟨r, h1, h2⟩ := hall.out
      exact ⟨⟨#[]⟩, rfl, ⟨r, h1, h2, .inl rfl⟩, rfl⟩
    · have hi : t.size - 1 < t.size := by omega
      have hc := HS.out t[t.size - 1]
      have e1 : IntKind.i64.wrap ((t.size : Int) - 1) = (t.size : Int) - 1 := IntWalk.i64_in _ (by omega)
      have e2 : ((t.size : Int) - 1).toNat = t.size - 1 := by omega
      have i0 : (0 : Int) ≤ (t.size : Int) - 1 := by omega
      have i1 : (t.size : Int) - 1 < (t.size : Int) := by omega
      have i2 : (0 : Int) < (t.size : Int) := by omega
      have hsp := Lib.hid (last_split t (by omega) hi)
      cases hp : P t[t.size - 1]
      · rw [hp] at hc
        go_wp2_with fail
        refine (Tryz.asciiSet_contains b _ false w hc).mono ?_
        rintro e w1 ⟨rfl, rfl⟩
        go_wp2_with fail
        go_ret
        obtain ⟨r, h1, h2⟩ := hall.out
        exact ⟨t, rfl, ⟨r, h1, h2, .inr ⟨_, _, hsp.out, hp⟩⟩, rfl⟩
      · rw [hp] at hc
        go_wp2_with fail
        refine (Tryz.asciiSet_contains b _ true w hc).mono ?_
        rintro e w1 ⟨rfl, rfl⟩
        go_wp2_with fail
        go_round
        case rel =>
          refine ⟨_, rfl, ?_, ?_⟩
          · simp; omega
          · obtain ⟨r, h1, h2⟩ := hall.out
            refine Lib.hid ⟨t[t.size - 1] :: r, ?_, by simp [hp]; simpa using h2⟩
            rw [h1, hsp.out, List.append_assoc]
            rfl
        case measure => simp [sizeOfV]; omega

def TrimL (s t : ByteArray) (P : UInt8 → Bool) : Prop := ∃ r : List UInt8, s.data.toList = r ++ t.data.toList ∧ r.all P = true ∧ (t.data.toList = [] ∨ ∃ c l, t.data.toList = c :: l ∧ P c = false)
def HeadL (s t : ByteArray) (P : UInt8 → Bool) : Prop := ∃ r : List UInt8, s.data.toList = r ++ t.data.toList ∧ r.all P = true
theorem first_split (t : ByteArray) (h : 0 < t.size) : t.data.toList = t[0] :: (t.extract 1 t.size).data.toList := by
  have hl : t.data.toList.length = t.size := by simp
  rw [Lib.extract_data, List.take_of_length_le (by rw [List.length_drop]; omega)]
  have hg : t.data.toList[0]? = some t[0] := by
    rw [List.getElem?_eq_getElem (by omega)]
    rfl
  generalize t.data.toList = L at *
  cases L with
  | nil => simp at hg
  | cons x L => simp at hg; simp [hg]

theorem trim_left (s : ByteArray) (b : Nat) (P : UInt8 → Bool) (w : World) (hS : SetAt w b P) (hs : s.size ≤ 9000000000000000000) :
    Calls Tryz.prog 123 #[.string s, .pointer (some ⟨b, 0, none⟩)] w fun e w' =>
      ∃ t : ByteArray, e = .returned (.string t) ∧ TrimL s t P ∧ w' = w := by
  have HS := Lib.hid hS
  clear hS
  go_enter Tryz.func123, Tryz.ntmps123
  go_wp2_with fail
  go_loop [0] (fun v => ∃ t : ByteArray, v = .string t ∧ t.size ≤ s.size ∧ Hid (HeadL s t P)) (fun v => sizeOfV v)
  case atStart => exact ⟨s, rfl, Nat.le_refl _, Lib.hid ⟨[], by simp, rfl⟩⟩
  case round =>
    obtain ⟨t, rfl, hle, hall⟩ := hrel
    by_cases h0 : t.size = 0
    · have he : t = ⟨#[]⟩ := by
        apply ByteArray.ext
        exact Array.eq_empty_of_size_eq_zero h0
      subst he
      go_wp2_with fail
      go_ret
      obtain ⟨r, h1, h2⟩ := hall.out
      exact ⟨⟨#[]⟩, rfl, ⟨r, h1, h2, .inl rfl⟩, rfl⟩
    · have hi : 0 < t.size := by omega
      have hc := HS.out t[0]
      have i2 : (0 : Int) < (t.size : Int) := by omega
      have i3 : (1 : Int) ≤ (t.size : Int) := by omega
      have hsp := Lib.hid (first_split t hi)
      cases hp : P t[0]
      · rw [hp] at hc
        go_wp2_with fail
        refine (Tryz.asciiSet_contains b _ false w hc).mono ?_
        rintro e w1 ⟨rfl, rfl⟩
        go_wp2_with fail
        go_ret
        obtain ⟨r, h1, h2⟩ := hall.out
        exact ⟨t, rfl, ⟨r, h1, h2, .inr ⟨_, _, hsp.out, hp⟩⟩, rfl⟩
      · rw [hp] at hc
        go_wp2_with fail
        refine (Tryz.asciiSet_contains b _ true w hc).mono ?_
        rintro e w1 ⟨rfl, rfl⟩
        go_wp2_with fail
        go_round
        case rel =>
          refine ⟨_, rfl, ?_, ?_⟩
          · simp; omega
          · obtain ⟨r, h1, h2⟩ := hall.out
            refine Lib.hid ⟨r ++ [t[0]], ?_, by rw [List.all_append, h2]; simp [hp]⟩
            rw [h1, hsp.out, List.append_assoc]
            rfl
        case measure => simp [sizeOfV]; omega
end Go.Proofs.YthlcjlmaaaappaaGreatDoor

/- strings.Trim with a set of ASCII signs, two or more. -/
namespace Go.Proofs.YthlcjlmaaaappaaGreatDoor
open Go.RowKit

theorem trim_set (cs : ByteArray) (ha : ∀ (j : Nat) (b : UInt8), cs.data.toList[j]? = some b → b.toNat < 128) (hl : 2 ≤ cs.size) (hl2 : cs.size ≤ 100) (s : ByteArray) (w : World) (h0 : 0 < s.size) (hs : s.size ≤ 9000000000000000000) :
    Calls Tryz.prog 93 #[.string s, .string cs] w fun e w' => ∃ t u : ByteArray, e = .returned (.string u) ∧ TrimR s t (cs.data.toList.contains ·) ∧ TrimL t u (cs.data.toList.contains ·) ∧ Below w.heap.size w w' := by
  have hv : ∀ w, (zeroValue 204).run Tryz.prog w = .ok (.agg (Array.replicate 256 (.bool false))) w := fun _ => by kernel_rfl
  have hmk := fun w => Tryz.strings_makeASCIISet hv cs w (by omega) ha
  have ne : ∀ t : ByteArray, 0 < t.size → ¬ t.toList = [] := fun t ht => by
    rw [Lib.toList_data]
    intro h
    have : t.data.toList.length = t.size := by simp
    rw [h] at this
    simp at this
    omega
  have n1 : ¬ s.toList = [] := ne s h0
  have n2 : s.toList.isEmpty = false := by cases h : s.toList with | nil => exact absurd h n1 | cons x l => rfl
  have m1 : ¬ cs.toList = [] := ne cs (by omega)
  have n3 : cs.toList.isEmpty = false := by cases h : cs.toList with | nil => exact absurd h m1 | cons x l => rfl
  have n4 : ¬ ((cs.size : Int) = 1) := by omega
  have HM := Lib.hid hmk
  have hz : (Lib.setCells cs.data.toList).size = 256 := Lib.setCells_size _
  have hone : (Lib.setCells cs.data.toList).all (·.oneCell') = true := Lib.setCells_one _
  have hat := Lib.hid (fun x => Lib.setCells_at cs.data.toList x)
  clear hmk ha ne
  go_enter Tryz.func93, Tryz.ntmps93
  go_wp2_with fail
  refine (HM.out w).mono ?_
  rintro e w1 ⟨rfl, hw1⟩
  generalize Lib.setCells cs.data.toList = Z at *
  have hin : (Tryz.prog.info? 204).map (·.size) = some Z.size := by rw [hz]; kernel_rfl
  have hst := run_storeCells_new (P := Tryz.prog) w1 204 (Array.replicate 256 (.bool false)) Z hin (by rw [hz]; simp) hone
  subst hw1
  have hsz : (w.alloc (.cells Z 204)).heap.size = w.heap.size + 1 := by simp
  rw [hsz] at hst
  have hS : SetAt ((w.alloc (.cells Z 204)).alloc (.cells Z 204)) (w.heap.size + 1) (cs.data.toList.contains ·) := fun x => by
    have h := heap_alloc_new (w.alloc (.cells Z 204)) (.cells Z 204)
    have h2 := hat.out x
    rw [hsz] at h
    unfold World.cell?
    rw [h]
    exact h2
  have HS := Lib.hid hS
  clear hS hin hone
  go_wp2_with fail
  refine (trim_right s _ _ _ HS.out hs).mono ?_
  rintro e w2 ⟨t, rfl, hR, rfl⟩
  have hts : t.size ≤ s.size := by
    obtain ⟨r, h1, _⟩ := hR
    have := congrArg List.length h1
    simp at this
    omega
  have HR := Lib.hid hR
  clear hR
  go_wp2_with fail
  refine (trim_left t _ _ _ HS.out (by omega)).mono ?_
  rintro e w3 ⟨u, rfl, hL, rfl⟩
  have HL := Lib.hid hL
  clear hL
  go_wp2_with fail
  go_ret
  exact ⟨t, u, rfl, HR.out, HL.out, (by (repeat (first | with_reducible exact Below.refl _ _ | with_reducible refine bel_set ?_ ?_ | with_reducible refine bel_alloc ?_ ?_ | with_reducible refine Below.drew ?_ | with_reducible refine bel_drewN _ ?_ | with_reducible refine bel_call ?_ (by assumption) ?_)); all_goals (first | (simp; done) | omega | (simp; omega)))⟩

theorem trim_none (P : UInt8 → Bool) {s t u : ByteArray} (h1 : TrimR s t P) (h2 : TrimL t u P) : (u.data.toList = [] ↔ s.data.toList.all P = true) := by
  obtain ⟨r, e1, r1, c1⟩ := h1
  obtain ⟨q, e2, q1, c2⟩ := h2
  rw [e1, e2]
  constructor
  · intro hu
    rw [hu, List.append_nil, List.all_append, q1, r1]; rfl
  · intro hall
    rcases c2 with h | ⟨c, l, h, hc⟩
    · exact h
    · rw [h] at hall
      simp only [List.all_append, List.all_cons, hc, Bool.false_and, Bool.and_false] at hall
      cases hall
end Go.Proofs.YthlcjlmaaaappaaGreatDoor

/- msg.Name. -/
namespace Go.Proofs.YthlcjlmaaaappaaGreatDoor
open Go.RowKit

theorem name_code (s : ByteArray) (w : World) (hs : s.size ≤ 9223372036854775807) :
    Calls Tryz.prog 60 #[.string s] w fun e w' => e = .returned (.bool (nameB s.data.toList)) ∧ Below w.heap.size w w' := by
  have hlen : s.data.toList.length = s.size := by simp
  by_cases h0 : s.size = 0
  · have he : s = ⟨#[]⟩ := ByteArray.ext (Array.eq_empty_of_size_eq_zero h0)
    subst he
    have HD : Hid (nameB (⟨#[]⟩ : ByteArray).data.toList = false) := Lib.hid rfl
    go_enter Tryz.func60, Tryz.ntmps60
    go_wp2_with fail
    go_ret
    exact ⟨ret_bool HD.out.symm, (by (repeat (first | with_reducible exact Below.refl _ _ | with_reducible refine bel_set ?_ ?_ | with_reducible refine bel_alloc ?_ ?_ | with_reducible refine Below.drew ?_ | with_reducible refine bel_drewN _ ?_ | with_reducible refine bel_call ?_ (by assumption) ?_)); all_goals (first | (simp; done) | omega | (simp; omega)))⟩
  · have n1 : ¬ s.toList = [] := by
      rw [Lib.toList_data]
      intro h
      rw [h] at hlen
      simp at hlen
      omega
    have n2 : s.toList.isEmpty = false := by cases h : s.toList with | nil => exact absurd h n1 | cons x l => rfl
    by_cases h20 : s.size ≤ 20
    · have i20 : (s.size : Int) ≤ 20 := by omega
      cases hA : s.data.toList.all (namS.data.toList.contains ·)
      · have HD := Lib.hid (nameB_bad hA)
        clear hlen
        go_enter Tryz.func60, Tryz.ntmps60
        go_wp2_with fail
        refine (trim_set namS namS_ascii (by decide) (by decide) s _ (by omega) (by omega)).mono ?_
        rintro e w1 ⟨t, u, rfl, hR, hL, hb1⟩
        have hiff := trim_none _ hR hL
        have m1 : ¬ u.toList = [] := by
          rw [Lib.toList_data]
          intro h
          rw [hiff.1 h] at hA
          cases hA
        have m2 : u.toList.isEmpty = false := by cases h : u.toList with | nil => exact absurd h m1 | cons x l => rfl
        clear hR hL hiff hA
        go_wp2_with fail
        go_ret
        exact ⟨ret_bool HD.out.symm, (by (repeat (first | with_reducible exact Below.refl _ _ | with_reducible refine bel_set ?_ ?_ | with_reducible refine bel_alloc ?_ ?_ | with_reducible refine Below.drew ?_ | with_reducible refine bel_drewN _ ?_ | with_reducible refine bel_call ?_ (by assumption) ?_)); all_goals (first | (simp; done) | omega | (simp; omega)))⟩
      · have hh := nameB_head (l := s.data.toList) (by omega) (by omega) hA
        have h1 : 0 < s.size := by omega
        have hg : s.data.toList.getD 0 0 = s[0] := by
          rw [List.getD_eq_getElem?_getD, List.getElem?_eq_getElem (by omega)]
          rfl
        rw [hg] at hh
        have hc : (s[0].toNat : Int).toNat.toUInt8 = s[0] := by simp
        have HC := Lib.hid hc
        have HD := Lib.hid hh
        have hI : Hid ((lowS.data.toList.contains s[0] = true ∧ 0 ≤ Lib.indexByte lowS.data.toList s[0]) ∨ (lowS.data.toList.contains s[0] = false ∧ ¬ 0 ≤ Lib.indexByte lowS.data.toList s[0])) := by
          refine Lib.hid ?_
          cases h : lowS.data.toList.contains s[0]
          · exact .inr ⟨rfl, low_no _ h⟩
          · exact .inl ⟨rfl, low_idx _ h⟩
        clear hlen hg hh hc
        go_enter Tryz.func60, Tryz.ntmps60
        go_wp2_with fail
        refine (trim_set namS namS_ascii (by decide) (by decide) s _ (by omega) (by omega)).mono ?_
        rintro e w1 ⟨t, u, rfl, hR, hL, hb1⟩
        have hiff := trim_none _ hR hL
        have m1 : u.toList = [] := by rw [Lib.toList_data]; exact hiff.2 hA
        clear hR hL hiff hA
        go_wp2_with fail
        refine (Tryz.strings_IndexByte lowS _ _).mono ?_
        rintro e w2 ⟨rfl, rfl⟩
        rw [HC.out]
        rcases hI.out with ⟨a1, a2⟩ | ⟨a1, a2⟩
        · rw [a1] at HD
          go_wp2_with fail
          go_ret
          exact ⟨ret_bool ((decide_eq_true a2).trans HD.out.symm), (by (repeat (first | with_reducible exact Below.refl _ _ | with_reducible refine bel_set ?_ ?_ | with_reducible refine bel_alloc ?_ ?_ | with_reducible refine Below.drew ?_ | with_reducible refine bel_drewN _ ?_ | with_reducible refine bel_call ?_ (by assumption) ?_)); all_goals (first | (simp; done) | omega | (simp; omega)))⟩
        · rw [a1] at HD
          go_wp2_with fail
          go_ret
          exact ⟨ret_bool ((decide_eq_false (by omega)).trans HD.out.symm), (by (repeat (first | with_reducible exact Below.refl _ _ | with_reducible refine bel_set ?_ ?_ | with_reducible refine bel_alloc ?_ ?_ | with_reducible refine Below.drew ?_ | with_reducible refine bel_drewN _ ?_ | with_reducible refine bel_call ?_ (by assumption) ?_)); all_goals (first | (simp; done) | omega | (simp; omega)))⟩
    · have i20 : ¬ (s.size : Int) ≤ 20 := by omega
      have HD := Lib.hid (nameB_long (l := s.data.toList) (by omega))
      clear hlen
      go_enter Tryz.func60, Tryz.ntmps60
      go_wp2_with fail
      go_ret
      exact ⟨ret_bool HD.out.symm, (by (repeat (first | with_reducible exact Below.refl _ _ | with_reducible refine bel_set ?_ ?_ | with_reducible refine bel_alloc ?_ ?_ | with_reducible refine Below.drew ?_ | with_reducible refine bel_drewN _ ?_ | with_reducible refine bel_call ?_ (by assumption) ?_)); all_goals (first | (simp; done) | omega | (simp; omega)))⟩
end Go.Proofs.YthlcjlmaaaappaaGreatDoor

/- npat.affix. -/
namespace Go.Proofs.YthlcjlmaaaappaaGreatDoor
open Go.RowKit

def lets : ByteArray := ⟨#[97, 98, 99, 100, 101, 102, 103, 104, 105, 106, 107, 108, 109, 110, 111, 112, 113, 114, 115, 116, 117, 118, 119, 120, 121, 122, 65, 66, 67, 68, 69, 70, 71, 72, 73, 74, 75, 76, 77, 78, 79, 80, 81, 82, 83, 84, 85, 86, 87, 88, 89, 90, 32, 36, 37]⟩
theorem lets_ascii : ∀ (j : Nat) (b : UInt8), lets.data.toList[j]? = some b → b.toNat < 128 := by
  intro j b h
  have hm := List.mem_of_getElem? h
  have : ∀ x ∈ lets.data.toList, x.toNat < 128 := by decide
  exact this b hm

/-- Whether a text may stand ahead of or behind a number. -/
def affB (s : ByteArray) : Bool := decide (s.size ≤ 5) && s.data.toList.all (lets.data.toList.contains ·)

theorem npat_affix (s : ByteArray) (w : World) (hs : s.size ≤ 9223372036854775807) :
    Calls Tryz.prog 209 #[.string s] w fun e w' => e = .returned (.bool (affB s)) ∧ Below w.heap.size w w' := by
  go_enter Tryz.func209, Tryz.ntmps209
  by_cases h5 : s.size ≤ 5
  · have i5 : (s.size : Int) ≤ 5 := by omega
    by_cases h0 : s.size = 0
    · have he : s = ⟨#[]⟩ := ByteArray.ext (Array.eq_empty_of_size_eq_zero h0)
      subst he
      have HD : Hid (affB ⟨#[]⟩ = true) := Lib.hid (by decide)
      have hv : ∀ w, Calls Tryz.prog 93 #[.string ⟨#[]⟩, .string lets] w fun e w' => e = .returned (.string ⟨#[]⟩) ∧ w' = w := by
        intro w
        go_enter Tryz.func93, Tryz.ntmps93
        go_wp2_with fail
        go_ret
        exact ⟨rfl, rfl⟩
      go_wp2_with fail
      refine (hv w).mono ?_
      rintro e w1 ⟨rfl, rfl⟩
      go_wp2_with fail
      go_ret
      exact ⟨ret_bool HD.out.symm, (by (repeat (first | with_reducible exact Below.refl _ _ | with_reducible refine bel_set ?_ ?_ | with_reducible refine bel_alloc ?_ ?_ | with_reducible refine Below.drew ?_ | with_reducible refine bel_drewN _ ?_ | with_reducible refine bel_call ?_ (by assumption) ?_)); all_goals (first | (simp; done) | omega | (simp; omega)))⟩
    · go_wp2_with fail
      refine (trim_set lets lets_ascii (by decide) (by decide) s w (by omega) (by omega)).mono ?_
      rintro e w1 ⟨t, u, rfl, hR, hL, hb1⟩
      have hiff := trim_none _ hR hL
      have hd : affB s = s.data.toList.all (lets.data.toList.contains ·) := by
        unfold affB
        rw [decide_eq_true h5, Bool.true_and]
      cases hA : s.data.toList.all (lets.data.toList.contains ·)
      · have m1 : ¬ u.toList = [] := by
          rw [Lib.toList_data]
          intro h
          rw [hiff.1 h] at hA
          cases hA
        have m2 : u.toList.isEmpty = false := by cases h : u.toList with | nil => exact absurd h m1 | cons x l => rfl
        have HD := Lib.hid (hd.trans hA)
        clear hR hL hiff hA hd
        go_wp2_with fail
        go_ret
        exact ⟨ret_bool HD.out.symm, (by (repeat (first | with_reducible exact Below.refl _ _ | with_reducible refine bel_set ?_ ?_ | with_reducible refine bel_alloc ?_ ?_ | with_reducible refine Below.drew ?_ | with_reducible refine bel_drewN _ ?_ | with_reducible refine bel_call ?_ (by assumption) ?_)); all_goals (first | (simp; done) | omega | (simp; omega)))⟩
      · have m1 : u.toList = [] := by rw [Lib.toList_data]; exact hiff.2 hA
        have HD := Lib.hid (hd.trans hA)
        clear hR hL hiff hA hd
        go_wp2_with fail
        go_ret
        exact ⟨ret_bool HD.out.symm, (by (repeat (first | with_reducible exact Below.refl _ _ | with_reducible refine bel_set ?_ ?_ | with_reducible refine bel_alloc ?_ ?_ | with_reducible refine Below.drew ?_ | with_reducible refine bel_drewN _ ?_ | with_reducible refine bel_call ?_ (by assumption) ?_)); all_goals (first | (simp; done) | omega | (simp; omega)))⟩
  · have i5 : ¬ (s.size : Int) ≤ 5 := by omega
    have HD : Hid (affB s = false) := Lib.hid (by unfold affB; rw [decide_eq_false h5, Bool.false_and])
    go_wp2_with fail
    go_ret
    exact ⟨ret_bool HD.out.symm, (by (repeat (first | with_reducible exact Below.refl _ _ | with_reducible refine bel_set ?_ ?_ | with_reducible refine bel_alloc ?_ ?_ | with_reducible refine Below.drew ?_ | with_reducible refine bel_drewN _ ?_ | with_reducible refine bel_call ?_ (by assumption) ?_)); all_goals (first | (simp; done) | omega | (simp; omega)))⟩
end Go.Proofs.YthlcjlmaaaappaaGreatDoor

/- npat.Check. -/
namespace Go.Proofs.YthlcjlmaaaappaaGreatDoor
open Go.RowKit

abbrev patV (p q : ByteArray) (mi mf xf g g2 : Int) : Value := .agg #[.string p, .string q, .int .i64 mi, .int .i64 mf, .int .i64 xf, .int .i64 g, .int .i64 g2]
def PatIn (mi mf xf g g2 : Int) : Prop := 1 ≤ mi ∧ mi ≤ 9 ∧ 0 ≤ xf ∧ xf ≤ 6 ∧ 0 ≤ mf ∧ mf ≤ xf ∧ 0 ≤ g ∧ g ≤ 4 ∧ 0 ≤ g2 ∧ g2 ≤ 4
instance (mi mf xf g g2 : Int) : Decidable (PatIn mi mf xf g g2) := by unfold PatIn; exact inferInstance
def patErr (p q : ByteArray) (mi mf xf g g2 : Int) : Int :=
  if affB p = false ∨ affB q = false then 3 else if ¬ PatIn mi mf xf g g2 then 1 else if g2 ≠ 0 ∧ g = 0 then 3 else 0

set_option maxHeartbeats 2000000 in
theorem pat_check_a (p q : ByteArray) (mi mf xf g g2 : Int) (w : World) (hp : p.size ≤ 9223372036854775807) (hq : q.size ≤ 9223372036854775807) (h : affB p = false ∨ affB q = false) :
    Calls Tryz.prog 193 #[patV p q mi mf xf g g2] w fun e w' => e = .returned (errT 3) ∧ Below w.heap.size w w' := by
  have KP := Lib.hid (fun W => npat_affix p W hp)
  have KQ := Lib.hid (fun W => npat_affix q W hq)
  cases h1 : affB p
  · rw [h1] at KP
    clear h KQ
    go_enter Tryz.func193, Tryz.ntmps193
    go_wp2_with fail
    refine (KP.out _).mono ?_
    rintro e w1 ⟨rfl, hb1⟩
    have s1 := hb1.size
    simp at s1
    go_wp2_with fail
    go_ret
    exact ⟨rfl, (by (repeat (first | with_reducible exact Below.refl _ _ | with_reducible refine bel_set ?_ ?_ | with_reducible refine bel_alloc ?_ ?_ | with_reducible refine Below.drew ?_ | with_reducible refine bel_drewN _ ?_ | with_reducible refine bel_call ?_ (by assumption) ?_)); all_goals (first | (simp; done) | omega | (simp; omega)))⟩
  · have h2 : affB q = false := by rcases h with h | h; (rw [h1] at h; cases h); exact h
    rw [h1] at KP
    rw [h2] at KQ
    clear h h1 h2
    go_enter Tryz.func193, Tryz.ntmps193
    go_wp2_with fail
    refine (KP.out _).mono ?_
    rintro e w1 ⟨rfl, hb1⟩
    have s1 := hb1.size
    simp at s1
    have c1 : w1.cell? ⟨w.heap.size, 1, none⟩ = some (.string q) := carry hb1 (by rw [World.cell?_alloc_at _ _ _ _ rfl]; rfl)
    go_wp2_with fail
    refine (KQ.out _).mono ?_
    rintro e w2 ⟨rfl, hb2⟩
    have s2 := hb2.size
    go_wp2_with fail
    go_ret
    exact ⟨rfl, (by (repeat (first | with_reducible exact Below.refl _ _ | with_reducible refine bel_set ?_ ?_ | with_reducible refine bel_alloc ?_ ?_ | with_reducible refine Below.drew ?_ | with_reducible refine bel_drewN _ ?_ | with_reducible refine bel_call ?_ (by assumption) ?_)); all_goals (first | (simp; done) | omega | (simp; omega)))⟩

set_option maxHeartbeats 4000000 in
theorem pat_check_b (p q : ByteArray) (mi mf xf g g2 : Int) (w : World) (hp : p.size ≤ 9223372036854775807) (hq : q.size ≤ 9223372036854775807) (h1 : affB p = true) (h2 : affB q = true) (E : Int)
    (hE : ¬ PatIn mi mf xf g g2 ∧ E = 1 ∨ PatIn mi mf xf g g2 ∧ g2 ≠ 0 ∧ g = 0 ∧ E = 3 ∨ PatIn mi mf xf g g2 ∧ ¬ (g2 ≠ 0 ∧ g = 0) ∧ E = 0) :
    Calls Tryz.prog 193 #[patV p q mi mf xf g g2] w fun e w' => e = .returned (errOf E) ∧ Below w.heap.size w w' := by
  have KP := Lib.hid (fun W => npat_affix p W hp)
  have KQ := Lib.hid (fun W => npat_affix q W hq)
  rw [h1] at KP
  rw [h2] at KQ
  clear h1 h2
  have HE := Lib.hid hE
  clear hE
  go_enter Tryz.func193, Tryz.ntmps193
  go_wp2_with fail
  refine (KP.out _).mono ?_
  rintro e w1 ⟨rfl, hb1⟩
  have s1 := hb1.size
  simp at s1
  have c1 : w1.cell? ⟨w.heap.size, 1, none⟩ = some (.string q) := carry hb1 (by rw [World.cell?_alloc_at _ _ _ _ rfl]; rfl)
  have d2 : w1.cell? ⟨w.heap.size, 2, none⟩ = some (.int .i64 mi) := carry hb1 (by rw [World.cell?_alloc_at _ _ _ _ rfl]; rfl)
  have d3 : w1.cell? ⟨w.heap.size, 3, none⟩ = some (.int .i64 mf) := carry hb1 (by rw [World.cell?_alloc_at _ _ _ _ rfl]; rfl)
  have d4 : w1.cell? ⟨w.heap.size, 4, none⟩ = some (.int .i64 xf) := carry hb1 (by rw [World.cell?_alloc_at _ _ _ _ rfl]; rfl)
  have d5 : w1.cell? ⟨w.heap.size, 5, none⟩ = some (.int .i64 g) := carry hb1 (by rw [World.cell?_alloc_at _ _ _ _ rfl]; rfl)
  have d6 : w1.cell? ⟨w.heap.size, 6, none⟩ = some (.int .i64 g2) := carry hb1 (by rw [World.cell?_alloc_at _ _ _ _ rfl]; rfl)
  go_wp2_with fail
  refine (KQ.out _).mono ?_
  rintro e w2 ⟨rfl, hb2⟩
  have s2 := hb2.size
  have e2 : w2.cell? ⟨w.heap.size, 2, none⟩ = some (.int .i64 mi) := carry hb2 d2
  have e3 : w2.cell? ⟨w.heap.size, 3, none⟩ = some (.int .i64 mf) := carry hb2 d3
  have e4 : w2.cell? ⟨w.heap.size, 4, none⟩ = some (.int .i64 xf) := carry hb2 d4
  have e5 : w2.cell? ⟨w.heap.size, 5, none⟩ = some (.int .i64 g) := carry hb2 d5
  have e6 : w2.cell? ⟨w.heap.size, 6, none⟩ = some (.int .i64 g2) := carry hb2 d6
  rcases HE.out with ⟨h, rfl⟩ | ⟨⟨a1, a2, a3, a4, a5, a6, a7, a8, a9, a10⟩, b1, b2, rfl⟩ | ⟨⟨a1, a2, a3, a4, a5, a6, a7, a8, a9, a10⟩, b1, rfl⟩
  · have HN := Lib.hid h
    clear h HE
    go_wp2_with fail
    all_goals (try (exfalso; exact HN.out ⟨by omega, by omega, by omega, by omega, by omega, by omega, by omega, by omega, by omega, by omega⟩))
    all_goals go_ret
    all_goals exact ⟨rfl, (by (repeat (first | with_reducible exact Below.refl _ _ | with_reducible refine bel_set ?_ ?_ | with_reducible refine bel_alloc ?_ ?_ | with_reducible refine Below.drew ?_ | with_reducible refine bel_drewN _ ?_ | with_reducible refine bel_call ?_ (by assumption) ?_)); all_goals (first | (simp; done) | omega | (simp; omega)))⟩
  · clear HE
    have m1 : ¬ mi < 1 := by omega
    have m2 : ¬ 9 < mi := by omega
    have m3 : ¬ xf < 0 := by omega
    have m4 : ¬ 6 < xf := by omega
    have m5 : ¬ mf < 0 := by omega
    have m6 : ¬ xf < mf := by omega
    have m7 : ¬ g < 0 := by omega
    have m8 : ¬ 4 < g := by omega
    have m9 : ¬ g2 < 0 := by omega
    have m10 : ¬ 4 < g2 := by omega
    go_wp2_with fail
    go_ret
    exact ⟨rfl, (by (repeat (first | with_reducible exact Below.refl _ _ | with_reducible refine bel_set ?_ ?_ | with_reducible refine bel_alloc ?_ ?_ | with_reducible refine Below.drew ?_ | with_reducible refine bel_drewN _ ?_ | with_reducible refine bel_call ?_ (by assumption) ?_)); all_goals (first | (simp; done) | omega | (simp; omega)))⟩
  · clear HE
    have m1 : ¬ mi < 1 := by omega
    have m2 : ¬ 9 < mi := by omega
    have m3 : ¬ xf < 0 := by omega
    have m4 : ¬ 6 < xf := by omega
    have m5 : ¬ mf < 0 := by omega
    have m6 : ¬ xf < mf := by omega
    have m7 : ¬ g < 0 := by omega
    have m8 : ¬ 4 < g := by omega
    have m9 : ¬ g2 < 0 := by omega
    have m10 : ¬ 4 < g2 := by omega
    clear a1 a2 a3 a4 a5 a6 a7 a8 a9 a10
    by_cases hz : g2 = 0
    · subst hz
      clear b1
      go_wp2_with fail
      go_ret
      exact ⟨rfl, (by (repeat (first | with_reducible exact Below.refl _ _ | with_reducible refine bel_set ?_ ?_ | with_reducible refine bel_alloc ?_ ?_ | with_reducible refine Below.drew ?_ | with_reducible refine bel_drewN _ ?_ | with_reducible refine bel_call ?_ (by assumption) ?_)); all_goals (first | (simp; done) | omega | (simp; omega)))⟩
    · have hg : ¬ g = 0 := fun hg => b1 ⟨hz, hg⟩
      clear b1
      go_wp2_with fail
      all_goals (first | (rename_i hh; exfalso; simp at hh; omega) | skip)
      go_ret
      exact ⟨rfl, (by (repeat (first | with_reducible exact Below.refl _ _ | with_reducible refine bel_set ?_ ?_ | with_reducible refine bel_alloc ?_ ?_ | with_reducible refine Below.drew ?_ | with_reducible refine bel_drewN _ ?_ | with_reducible refine bel_call ?_ (by assumption) ?_)); all_goals (first | (simp; done) | omega | (simp; omega)))⟩

theorem pat_check (p q : ByteArray) (mi mf xf g g2 : Int) (w : World) (hp : p.size ≤ 9223372036854775807) (hq : q.size ≤ 9223372036854775807) :
    Calls Tryz.prog 193 #[patV p q mi mf xf g g2] w fun e w' => e = .returned (errOf (patErr p q mi mf xf g g2)) ∧ Below w.heap.size w w' := by
  unfold patErr
  by_cases h : affB p = false ∨ affB q = false
  · rw [if_pos h]
    exact pat_check_a p q mi mf xf g g2 w hp hq h
  · rw [if_neg h]
    have h1 : affB p = true := by cases hh : affB p; exact absurd (.inl hh) h; rfl
    have h2 : affB q = true := by cases hh : affB q; exact absurd (.inr hh) h; rfl
    apply pat_check_b p q mi mf xf g g2 w hp hq h1 h2
    by_cases hi : PatIn mi mf xf g g2
    · rw [if_neg (by simpa using hi)]
      by_cases hg : g2 ≠ 0 ∧ g = 0
      · rw [if_pos hg]; exact .inr (.inl ⟨hi, hg.1, hg.2, rfl⟩)
      · rw [if_neg hg]; exact .inr (.inr ⟨hi, hg, rfl⟩)
    · rw [if_pos hi]; exact .inl ⟨hi, rfl⟩
end Go.Proofs.YthlcjlmaaaappaaGreatDoor

/- strings.Trim with the ten digits; group.digits. -/
namespace Go.Proofs.YthlcjlmaaaappaaGreatDoor
open Go.RowKit

def digs : ByteArray := ⟨#[48, 49, 50, 51, 52, 53, 54, 55, 56, 57]⟩
theorem digs_ascii : ∀ (j : Nat) (b : UInt8), digs.data.toList[j]? = some b → b.toNat < 128 := by
  intro j b h
  have hm := List.mem_of_getElem? h
  have : ∀ x ∈ digs.data.toList, x.toNat < 128 := by decide
  exact this b hm
theorem trim_digits (s : ByteArray) (w : World) (h0 : 0 < s.size) (hs : s.size ≤ 9000000000000000000) :
    Calls Tryz.prog 93 #[.string s, .string digs] w fun e w' => ∃ t u : ByteArray, e = .returned (.string u) ∧ TrimR s t (digs.data.toList.contains ·) ∧ TrimL t u (digs.data.toList.contains ·) ∧ Below w.heap.size w w' := by
  have hv : ∀ w, (zeroValue 204).run Tryz.prog w = .ok (.agg (Array.replicate 256 (.bool false))) w := fun _ => by kernel_rfl
  have hmk := fun w => Tryz.strings_makeASCIISet hv digs w (by decide) digs_ascii
  have n1 : ¬ s.toList = [] := by
    rw [Lib.toList_data]
    intro h
    have : s.data.toList.length = s.size := by simp
    rw [h] at this
    simp at this
    omega
  have n2 : s.toList.isEmpty = false := by cases h : s.toList with | nil => exact absurd h n1 | cons x l => rfl
  have n3 : digs.toList.isEmpty = false := by rw [Lib.toList_data]; rfl
  have n4 : ¬ ((digs.size : Int) = 1) := by decide
  have HM := Lib.hid hmk
  have hz : (Lib.setCells digs.data.toList).size = 256 := Lib.setCells_size _
  have hone : (Lib.setCells digs.data.toList).all (·.oneCell') = true := Lib.setCells_one _
  have hat := Lib.hid (fun x => Lib.setCells_at digs.data.toList x)
  clear hmk
  go_enter Tryz.func93, Tryz.ntmps93
  go_wp2_with fail
  refine (HM.out w).mono ?_
  rintro e w1 ⟨rfl, hw1⟩
  generalize Lib.setCells digs.data.toList = Z at *
  have hin : (Tryz.prog.info? 204).map (·.size) = some Z.size := by rw [hz]; kernel_rfl
  have hst := run_storeCells_new (P := Tryz.prog) w1 204 (Array.replicate 256 (.bool false)) Z hin (by rw [hz]; simp) hone
  subst hw1
  have hsz : (w.alloc (.cells Z 204)).heap.size = w.heap.size + 1 := by simp
  rw [hsz] at hst
  have hS : SetAt ((w.alloc (.cells Z 204)).alloc (.cells Z 204)) (w.heap.size + 1) (digs.data.toList.contains ·) := fun x => by
    have h := heap_alloc_new (w.alloc (.cells Z 204)) (.cells Z 204)
    have h2 := hat.out x
    rw [hsz] at h
    unfold World.cell?
    rw [h]
    exact h2
  have HS := Lib.hid hS
  clear hS hin hone
  go_wp2_with fail
  refine (trim_right s _ _ _ HS.out hs).mono ?_
  rintro e w2 ⟨t, rfl, hR, rfl⟩
  have hts : t.size ≤ s.size := by
    obtain ⟨r, h1, _⟩ := hR
    have := congrArg List.length h1
    simp at this
    omega
  have HR := Lib.hid hR
  clear hR
  go_wp2_with fail
  refine (trim_left t _ _ _ HS.out (by omega)).mono ?_
  rintro e w3 ⟨u, rfl, hL, rfl⟩
  have HL := Lib.hid hL
  clear hL
  go_wp2_with fail
  go_ret
  exact ⟨t, u, rfl, HR.out, HL.out, (by (repeat (first | with_reducible exact Below.refl _ _ | with_reducible refine bel_set ?_ ?_ | with_reducible refine bel_alloc ?_ ?_ | with_reducible refine Below.drew ?_ | with_reducible refine bel_drewN _ ?_ | with_reducible refine bel_call ?_ (by assumption) ?_)); all_goals (first | (simp; done) | omega | (simp; omega)))⟩
end Go.Proofs.YthlcjlmaaaappaaGreatDoor

/- group.digits, group.check. -/
namespace Go.Proofs.YthlcjlmaaaappaaGreatDoor
open Go.RowKit

def digitsB (s : ByteArray) : Bool := !(s.toList == []) && s.data.toList.all (digs.data.toList.contains ·)

theorem trim_empty {s t u : ByteArray} {P : UInt8 → Bool} (h1 : TrimR s t P) (h2 : TrimL t u P) : (u.data.toList = [] ↔ s.data.toList.all P = true) := by
  obtain ⟨r, e1, r1, c1⟩ := h1
  obtain ⟨q, e2, q1, c2⟩ := h2
  rw [e1, e2]
  constructor
  · intro hu
    rw [hu, List.append_nil, List.all_append, q1, r1]; rfl
  · intro hall
    rcases c2 with h | ⟨c, l, h, hc⟩
    · exact h
    · rw [h] at hall
      simp only [List.all_append, List.all_cons, hc, Bool.false_and, Bool.and_false] at hall
      cases hall

theorem group_digits (s : ByteArray) (w : World) (hs : s.size ≤ 9000000000000000000) :
    Calls Tryz.prog 196 #[.string s] w fun e w' => e = .returned (.bool (digitsB s)) ∧ Below w.heap.size w w' := by
  go_enter Tryz.func196, Tryz.ntmps196
  by_cases h0 : s.size = 0
  · have he : s = ⟨#[]⟩ := by
      apply ByteArray.ext
      exact Array.eq_empty_of_size_eq_zero h0
    subst he
    have hd : digitsB ⟨#[]⟩ = false := by unfold digitsB; rw [Lib.toList_data]; rfl
    have HD := Lib.hid hd
    clear hd
    go_wp2_with fail
    go_ret
    exact ⟨ret_bool HD.out.symm, (by (repeat (first | with_reducible exact Below.refl _ _ | with_reducible refine bel_set ?_ ?_ | with_reducible refine bel_alloc ?_ ?_ | with_reducible refine Below.drew ?_ | with_reducible refine bel_drewN _ ?_ | with_reducible refine bel_call ?_ (by assumption) ?_)); all_goals (first | (simp; done) | omega | (simp; omega)))⟩
  · have n1 : ¬ s.toList = [] := by
      rw [Lib.toList_data]
      intro h
      have : s.data.toList.length = s.size := by simp
      rw [h] at this
      simp at this
      omega
    have n2 : s.toList.isEmpty = false := by cases h : s.toList with | nil => exact absurd h n1 | cons x l => rfl
    go_wp2_with fail
    refine (trim_digits s w (by omega) hs).mono ?_
    rintro e w1 ⟨t, u, rfl, hR, hL, hb1⟩
    have hiff := trim_empty hR hL
    have hd : digitsB s = s.data.toList.all (digs.data.toList.contains ·) := by
      unfold digitsB
      have : (s.toList == []) = false := by simp [n1]
      rw [this]; rfl
    cases hA : s.data.toList.all (digs.data.toList.contains ·)
    · have m1 : ¬ u.toList = [] := by
        rw [Lib.toList_data]
        intro h
        rw [hiff.1 h] at hA
        cases hA
      have m2 : u.toList.isEmpty = false := by cases h : u.toList with | nil => exact absurd h m1 | cons x l => rfl
      have HD := Lib.hid (hd.trans hA)
      clear hR hL hiff hA hd
      go_wp2_with fail
      go_ret
      exact ⟨ret_bool HD.out.symm, (by (repeat (first | with_reducible exact Below.refl _ _ | with_reducible refine bel_set ?_ ?_ | with_reducible refine bel_alloc ?_ ?_ | with_reducible refine Below.drew ?_ | with_reducible refine bel_drewN _ ?_ | with_reducible refine bel_call ?_ (by assumption) ?_)); all_goals (first | (simp; done) | omega | (simp; omega)))⟩
    · have m1 : u.toList = [] := by rw [Lib.toList_data]; exact hiff.2 hA
      have HD := Lib.hid (hd.trans hA)
      clear hR hL hiff hA hd
      go_wp2_with fail
      go_ret
      exact ⟨ret_bool HD.out.symm, (by (repeat (first | with_reducible exact Below.refl _ _ | with_reducible refine bel_set ?_ ?_ | with_reducible refine bel_alloc ?_ ?_ | with_reducible refine Below.drew ?_ | with_reducible refine bel_drewN _ ?_ | with_reducible refine bel_call ?_ (by assumption) ?_)); all_goals (first | (simp; done) | omega | (simp; omega)))⟩
end Go.Proofs.YthlcjlmaaaappaaGreatDoor

/- What Cut and CutPrefix tell of a number's text. No program stands here. -/
namespace Go.Proofs.YthlcjlmaaaappaaGreatDoor
open Go.RowKit

theorem indexByte_at : ∀ (a b : List UInt8) (c : UInt8), c ∉ a → Lib.indexByte (a ++ c :: b) c = a.length
  | [], b, c, _ => by
    show Lib.indexByte (c :: b) c = 0
    rw [Lib.indexByte, beq_self_eq_true]
    rfl
  | x :: a, b, c, h => by
    have h1 : (x == c) = false := by
      rw [beq_eq_false_iff_ne]
      intro e
      exact h (by simp [e])
    have h2 := indexByte_at a b c (fun hc => h (List.mem_cons_of_mem _ hc))
    show Lib.indexByte (x :: (a ++ c :: b)) c = _
    rw [Lib.indexByte, h1, h2, List.length_cons]
    simp
theorem cut_at (a b : List UInt8) (c : UInt8) (h : c ∉ a) : Lib.cut (a ++ c :: b) [c] = (a, b, true) := by
  unfold Lib.cut
  rw [Lib.index_one, indexByte_at a b c h, if_pos (by omega)]
  simp
/-- digits alone -/
def allD (l : List UInt8) : Prop := ∀ x ∈ l, 48 ≤ x.toNat ∧ x.toNat ≤ 57
theorem allD_not {l : List UInt8} (h : allD l) (c : UInt8) (hc : ¬ (48 ≤ c.toNat ∧ c.toNat ≤ 57)) : c ∉ l := fun hm => hc (h c hm)
theorem digs_mem (x : UInt8) (h : 48 ≤ x.toNat ∧ x.toNat ≤ 57) : digs.data.toList.contains x = true := by
  have hk : x.toNat = 48 ∨ x.toNat = 49 ∨ x.toNat = 50 ∨ x.toNat = 51 ∨ x.toNat = 52 ∨ x.toNat = 53 ∨ x.toNat = 54 ∨ x.toNat = 55 ∨ x.toNat = 56 ∨ x.toNat = 57 := by omega
  have he : ∀ c : UInt8, x.toNat = c.toNat → x = c := fun c h => UInt8.toNat_inj.1 h
  rcases hk with h | h | h | h | h | h | h | h | h | h
  · rw [he 48 h]; rfl
  · rw [he 49 h]; rfl
  · rw [he 50 h]; rfl
  · rw [he 51 h]; rfl
  · rw [he 52 h]; rfl
  · rw [he 53 h]; rfl
  · rw [he 54 h]; rfl
  · rw [he 55 h]; rfl
  · rw [he 56 h]; rfl
  · rw [he 57 h]; rfl
theorem digitsB_of {s : ByteArray} (h1 : 1 ≤ s.size) (h : allD s.data.toList) : digitsB s = true := by
  unfold digitsB
  rw [Lib.toList_data, Bool.and_eq_true]
  constructor
  · cases hs : s.data.toList with
    | nil => have := bsize s; rw [hs] at this; simp at this; omega
    | cons x l => rfl
  · rw [List.all_eq_true]
    exact fun x hx => digs_mem x (h x hx)
theorem rep_allD (k : Nat) : allD (Lib.repeatL [48] k) := by
  induction k with
  | zero => intro x hx; simp [Lib.repeatL] at hx
  | succ k ih =>
    intro x hx
    rw [rep_snoc] at hx
    rcases List.mem_append.1 hx with hx | hx
    · exact ih x hx
    · simp at hx; subst hx; decide
theorem padB_allD (c : Int) (s : Nat) : allD (padB c s).data.toList := by
  intro x hx
  have : x ∈ Lib.repeatL [48] (s + 1 - (ddB c).size) ++ (ddB c).data.toList := by simpa [padB] using hx
  rcases List.mem_append.1 this with h | h
  · exact rep_allD _ x h
  · exact dd_signs _ _ (Nat.le_refl _) x (by simpa [ddB] using h)
theorem whole_allD (c : Int) (s : Nat) : allD (wholeB c s).data.toList := fun x hx => by
  unfold wholeB at hx
  rw [Lib.extract_data] at hx
  exact padB_allD c s x (List.mem_of_mem_drop (List.mem_of_mem_take hx))
theorem behind_allD (c : Int) (s : Nat) : allD (behindB c s).data.toList := fun x hx => by
  unfold behindB at hx
  rw [Lib.extract_data] at hx
  exact padB_allD c s x (List.mem_of_mem_drop (List.mem_of_mem_take hx))
/-- the sign and the digits ahead of the point -/
def swB (c : Int) (s : Nat) : ByteArray := signB c ++ wholeB c s
theorem decT_parts (c : Int) (s : Nat) : decT c s = if s = 0 then swB c s else swB c s ++ ⟨#[46]⟩ ++ behindB c s := by
  unfold decT swB wholeB behindB
  split
  · rename_i h
    subst h
    rw [padB_zero, Nat.sub_zero]
    congr 1
    apply ByteArray.ext
    apply Array.ext'
    rw [Lib.extract_data, List.drop_zero, Nat.sub_zero, List.take_of_length_le (by rw [bsize]; exact Nat.le_refl _)]
  · rfl
theorem behind_zero (c : Int) : behindB c 0 = ⟨#[]⟩ := by
  unfold behindB
  apply ByteArray.ext
  apply Array.ext'
  rw [Lib.extract_data, Nat.sub_zero, Nat.sub_self, List.take_zero]
theorem sign_list (c : Int) : (signB c).data.toList = if c < 0 then [45] else [] := by
  unfold signB
  split <;> rfl
theorem sw_list (c : Int) (s : Nat) : (swB c s).data.toList = (if c < 0 then [45] else []) ++ (wholeB c s).data.toList := by
  unfold swB
  rw [← sign_list]
  simp
theorem sw_not (c : Int) (s : Nat) : (46 : UInt8) ∉ (swB c s).data.toList := by
  rw [sw_list]
  intro h
  rcases List.mem_append.1 h with h | h
  · split at h
    · simp at h
    · simp at h
  · exact allD_not (whole_allD c s) 46 (by decide) h
theorem decT_cut (c : Int) (s : Nat) : Lib.cut (decT c s).data.toList [46] = ((swB c s).data.toList, (behindB c s).data.toList, decide (s ≠ 0)) := by
  rw [decT_parts]
  split
  · rename_i h
    subst h
    rw [cut_none _ _ (sw_not c 0), behind_zero]
    rfl
  · rename_i h
    have e : (swB c s ++ ⟨#[46]⟩ ++ behindB c s).data.toList = (swB c s).data.toList ++ 46 :: (behindB c s).data.toList := by simp
    rw [e, cut_at _ _ _ (sw_not c s), decide_eq_true h]
theorem sw_prefix {c : Int} {s : Nat} (h : decOk c s) : Lib.trimPrefix (swB c s).data.toList [45] = (wholeB c s).data.toList ∧ Lib.hasPrefix (swB c s).data.toList [45] = decide (c < 0) := by
  rw [sw_list]
  obtain ⟨h1, _⟩ := parts_size h
  by_cases hc : c < 0
  · rw [if_pos hc, decide_eq_true hc]
    have h1 : Lib.hasPrefix ([45] ++ (wholeB c s).data.toList) [45] = true := by simp [Lib.hasPrefix, List.isPrefixOf]
    refine ⟨?_, h1⟩
    unfold Lib.trimPrefix
    rw [if_pos h1]
    rfl
  · rw [if_neg hc, decide_eq_false hc, List.nil_append]
    have h1 : Lib.hasPrefix (wholeB c s).data.toList [45] = false := by
      cases hd : (wholeB c s).data.toList with
      | nil => rfl
      | cons x l =>
        have hx : (45 : UInt8) ≠ x := fun e => allD_not (whole_allD c s) 45 (by decide) (by rw [hd, e]; simp)
        simp [Lib.hasPrefix, List.isPrefixOf, hx]
    refine ⟨?_, h1⟩
    unfold Lib.trimPrefix
    rw [if_neg (by rw [h1]; decide)]
theorem put_digits {c : Int} {s : Nat} (h : decOk c s) (k : Nat) : digitsB (zeroB k ++ wholeB c s) = true := by
  obtain ⟨h1, _⟩ := parts_size h
  refine digitsB_of (by rw [ByteArray.size_append]; omega) fun x hx => ?_
  have : x ∈ Lib.repeatL [48] k ++ (wholeB c s).data.toList := by simpa [zeroB] using hx
  rcases List.mem_append.1 this with h | h
  · exact rep_allD _ x h
  · exact whole_allD c s x h
end Go.Proofs.YthlcjlmaaaappaaGreatDoor
