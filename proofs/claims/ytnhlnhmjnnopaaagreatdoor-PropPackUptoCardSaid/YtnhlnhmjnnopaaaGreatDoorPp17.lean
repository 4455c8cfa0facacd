/- Mapped: texts put together. -/
import Derived.Test.YtnhlnhmjnnopaaaGreatDoorPp14
import Derived.Test.YtnhlnhmjnnopaaaGreatDoorPp2
import Derived.Laws.IdiomStrings
import Derived.Laws.BitsAllLaws
set_option linter.unusedVariables false
set_option linter.unusedSimpArgs false
/- tag.mapped, lower, upper. -/
namespace Go.Proofs.YtnhlnhmjnnopaaaGreatDoor
open Go.RowKit

theorem xor32 (c : UInt8) : bits .xor .u8 (c.toNat : Int) 32 = ((c ^^^ 32).toNat : Int) := by
  rw [show (32 : Int) = ((32 : Nat) : Int) from rfl, u8_xor_nat _ _ (UInt8.toNat_lt c) (by decide), UInt8.toNat_xor]
  rfl
/-- the cells of block g: the first k turned -/
structure MapIn (w : World) (g : Nat) (P : UInt8 → Bool) (s : ByteArray) (k : Nat) : Prop where
  cell : ∀ j c, s.data.toList[j]? = some c → w.cell? ⟨g, j, none⟩ = some (.int .u8 ((if j < k then mapc P c else c).toNat : Int))
  free : ∀ j, j < s.size → w.frozen? ⟨g, j, none⟩ = false
theorem MapIn.start (w : World) (P : UInt8 → Bool) (s : ByteArray) (t : TypeId) (cap : Nat) (hc : s.size ≤ cap) : MapIn (w.drew.alloc (.cells (bytesRow s cap) t ((bytesRow s cap).size, (bytesRow s cap).size + 1))) w.heap.size P s 0 := by
  have hb : (w.drew.alloc (.cells (bytesRow s cap) t ((bytesRow s cap).size, (bytesRow s cap).size + 1))).heap[w.heap.size]? = some (.cells (bytesRow s cap) t ((bytesRow s cap).size, (bytesRow s cap).size + 1)) := heap_alloc_new w.drew _
  have hsz : s.size ≤ (bytesRow s cap).size := by unfold bytesRow; simp
  refine ⟨fun j c hj => ?_, fun j hj => ?_⟩
  · have hj' : j < s.size := by simpa using (List.getElem?_eq_some_iff.1 hj).1
    rw [if_neg (by omega)]
    unfold World.cell?
    rw [hb]
    show (bytesRow s cap)[j]? = _
    rw [bytesRow_at s cap j hj']
    have := (List.getElem?_eq_some_iff.1 hj).2
    rw [← this]
    rfl
  · unfold World.frozen?
    rw [hb]
    simp; omega

theorem MapIn.step {w : World} {g : Nat} {P : UInt8 → Bool} {s : ByteArray} {k : Nat} {c : UInt8} (h : MapIn w g P s k) (hk : s.data.toList[k]? = some c) (hp : P c = false) : MapIn w g P s (k + 1) := by
  refine ⟨fun j d hj => ?_, h.free⟩
  have := h.cell j d hj
  by_cases e : j = k
  · subst e
    rw [hk] at hj
    cases hj
    rw [if_neg (by omega)] at this
    rw [if_pos (by omega), this]
    unfold mapc
    rw [hp]
    rfl
  · rw [this]
    by_cases h2 : j < k
    · rw [if_pos h2, if_pos (by omega)]
    · rw [if_neg h2, if_neg (by omega)]
theorem MapIn.step' {w : World} {g : Nat} {P : UInt8 → Bool} {s : ByteArray} {k : Nat} {c : UInt8} (h : MapIn w g P s k) (hk : s.data.toList[k]? = some c) (hp : P c = true) : MapIn (w.setCell ⟨g, k, none⟩ (.int .u8 ((c ^^^ 32).toNat : Int))) g P s (k + 1) := by
  refine ⟨fun j d hj => ?_, fun j hj => by have := h.free j hj; simpa using this⟩
  have := h.cell j d hj
  by_cases e : j = k
  · subst e
    rw [World.cell?_setCell_same _ _ _ this]
    rw [hk] at hj
    cases hj
    rw [if_pos (by omega)]
    unfold mapc
    rw [hp]
    rfl
  · rw [World.cell?_setCell_other _ _ _ _ (by intro h; injection h with _ h; exact e h.symm), this]
    by_cases h2 : j < k
    · rw [if_pos h2, if_pos (by omega)]
    · rw [if_neg h2, if_neg (by omega)]

theorem conv_bytes (w : World) (P : UInt8 → Bool) (s : ByteArray) : ∃ cp W0, (convert 9 25 (.string s)).run Tryz.prog w = .ok (.slice (some ⟨w.heap.size, 0, none⟩) s.size cp) W0 ∧ s.size ≤ cp ∧ MapIn W0 w.heap.size P s 0 ∧ Below w.heap.size w W0 :=
  ⟨_, _, run_bytes_of_string w 9 25 5 s Tryz.underlying9 Tryz.underlying25 Tryz.underlying5, grownCap_ge w s.size 0 5,
    MapIn.start w P s 5 _ (grownCap_ge w s.size 0 5), ((Below.refl _ _).drew).alloc (Nat.le_refl _) _⟩
theorem conv_back {w : World} {g cp : Nat} {P : UInt8 → Bool} {s : ByteArray} (h : MapIn w g P s s.size) : (convert 25 9 (.slice (some ⟨g, 0, none⟩) s.size cp)).run Tryz.prog w = .ok (.string ⟨(s.data.toList.map (mapc P)).toArray⟩) w := by
  have e : (s.data.toList.map (mapc P)).length = s.size := by simp
  have := run_convert_bytes_back (P := Tryz.prog) w 25 9 5 ⟨g, 0, none⟩ cp (s.data.toList.map (mapc P)) Tryz.underlying25 Tryz.underlying5 Tryz.underlying9 (fun j hj => by
    have hj' : j < s.data.toList.length := by simpa using hj
    have := h.cell j s.data.toList[j] (List.getElem?_eq_getElem hj')
    rw [if_pos (by simpa using hj')] at this
    rw [Go.WideShapes.add_plain, Nat.zero_add, this, List.getElem_map])
  rw [e] at this
  exact this

set_option maxHeartbeats 1000000 in
theorem mapped_high (s : ByteArray) (w : World) (hs : s.size ≤ 9223372036854775807) :
    Calls Tryz.prog 123 #[.string s, .func (.func 124) #[] #[], .int .u8 32] w fun e w' => e = .returned (.string ⟨(lowerL s.data.toList).toArray⟩) ∧ Below w.heap.size w w' := by
  obtain ⟨cp, W0, hcv, hcp, hM, hB⟩ := conv_bytes w highB s
  have hS := hB.size
  have HM := Lib.hid hM
  have HB := Lib.hid hB
  clear hM hB
  go_enter Tryz.func123, Tryz.ntmps123
  go_wp2_with fail
  go_loopw [14] (fun i wr => ∃ k : Nat, k ≤ s.size ∧ i = .int .i64 k ∧ Hid (MapIn wr w.heap.size highB s k) ∧ Hid (Below w.heap.size w wr)) (fun i _ => s.size - (intOf i).toNat)
  case atStart => exact ⟨0, Nat.zero_le _, rfl, HM, HB⟩
  case round =>
    obtain ⟨k, hk, rfl, HK, HB'⟩ := hrel
    by_cases hlt : k < s.size
    · have hg : s.data.toList[k]? = some s[k] := by
        rw [List.getElem?_eq_getElem (by simpa using hlt)]; rfl
      have hcell := HK.out.cell k _ hg
      rw [if_neg (by omega)] at hcell
      have hfr := HK.out.free k hlt
      have HG := Lib.hid hg
      have i0 : (0 : Int) ≤ (k : Int) := by omega
      have i1 : (k : Int) < (s.size : Int) := by omega
      have hx := xor32 s[k]
      have KF := Lib.hid (fun W => tag_high s[k] W)
      generalize s[k] = d at *
      clear hg
      cases hp : highB d
      · have K2 := Lib.hid (fun W => by have := KF.out W; rw [hp] at this; exact this)
        have HN := Lib.hid (HK.out.step HG.out hp)
        clear hp
        go_wp2_with fail
        refine (K2.out _).mono ?_
        rintro e w1 ⟨rfl, rfl⟩
        go_wp2_with fail
        go_roundw
        case rel => exact ⟨k + 1, by omega, by go_num, HN, HB'⟩
        case measure => simp [intOf]; omega
      · have K2 := Lib.hid (fun W => by have := KF.out W; rw [hp] at this; exact this)
        have HN := Lib.hid (HK.out.step' HG.out hp)
        clear hp
        go_wp2_with fail
        refine (K2.out _).mono ?_
        rintro e w1 ⟨rfl, rfl⟩
        go_wp2_with fail
        go_roundw
        case rel => exact ⟨k + 1, by omega, by go_num, HN, Lib.hid (bel_set HB'.out (Nat.le_refl _))⟩
        case measure => simp [intOf]; omega
    · obtain rfl : k = s.size := by omega
      have hcb := conv_back (cp := cp) HK.out
      go_wp2_with fail
      go_ret
      exact ⟨rfl, HB'.out⟩
theorem tag_lower (s : ByteArray) (w : World) (hs : s.size ≤ 9223372036854775807) :
    Calls Tryz.prog 80 #[.string s] w fun e w' => e = .returned (.string ⟨(lowerL s.data.toList).toArray⟩) ∧ Below w.heap.size w w' := by
  have K := Lib.hid (mapped_high s w hs)
  go_enter Tryz.func80, Tryz.ntmps80
  go_wp2_with fail
  refine K.out.mono ?_
  rintro e w1 ⟨rfl, hb⟩
  go_wp2_with fail
  go_ret
  exact ⟨rfl, hb⟩

set_option maxHeartbeats 1000000 in
theorem mapped_low (s : ByteArray) (w : World) (hs : s.size ≤ 9223372036854775807) :
    Calls Tryz.prog 123 #[.string s, .func (.func 81) #[] #[], .int .u8 32] w fun e w' => e = .returned (.string ⟨(upperL s.data.toList).toArray⟩) ∧ Below w.heap.size w w' := by
  obtain ⟨cp, W0, hcv, hcp, hM, hB⟩ := conv_bytes w lowB s
  have hS := hB.size
  have HM := Lib.hid hM
  have HB := Lib.hid hB
  clear hM hB
  go_enter Tryz.func123, Tryz.ntmps123
  go_wp2_with fail
  go_loopw [14] (fun i wr => ∃ k : Nat, k ≤ s.size ∧ i = .int .i64 k ∧ Hid (MapIn wr w.heap.size lowB s k) ∧ Hid (Below w.heap.size w wr)) (fun i _ => s.size - (intOf i).toNat)
  case atStart => exact ⟨0, Nat.zero_le _, rfl, HM, HB⟩
  case round =>
    obtain ⟨k, hk, rfl, HK, HB'⟩ := hrel
    by_cases hlt : k < s.size
    · have hg : s.data.toList[k]? = some s[k] := by
        rw [List.getElem?_eq_getElem (by simpa using hlt)]; rfl
      have hcell := HK.out.cell k _ hg
      rw [if_neg (by omega)] at hcell
      have hfr := HK.out.free k hlt
      have HG := Lib.hid hg
      have i0 : (0 : Int) ≤ (k : Int) := by omega
      have i1 : (k : Int) < (s.size : Int) := by omega
      have hx := xor32 s[k]
      have KF := Lib.hid (fun W => tag_low s[k] W)
      generalize s[k] = d at *
      clear hg
      cases hp : lowB d
      · have K2 := Lib.hid (fun W => by have := KF.out W; rw [hp] at this; exact this)
        have HN := Lib.hid (HK.out.step HG.out hp)
        clear hp
        go_wp2_with fail
        refine (K2.out _).mono ?_
        rintro e w1 ⟨rfl, rfl⟩
        go_wp2_with fail
        go_roundw
        case rel => exact ⟨k + 1, by omega, by go_num, HN, HB'⟩
        case measure => simp [intOf]; omega
      · have K2 := Lib.hid (fun W => by have := KF.out W; rw [hp] at this; exact this)
        have HN := Lib.hid (HK.out.step' HG.out hp)
        clear hp
        go_wp2_with fail
        refine (K2.out _).mono ?_
        rintro e w1 ⟨rfl, rfl⟩
        go_wp2_with fail
        go_roundw
        case rel => exact ⟨k + 1, by omega, by go_num, HN, Lib.hid (bel_set HB'.out (Nat.le_refl _))⟩
        case measure => simp [intOf]; omega
    · obtain rfl : k = s.size := by omega
      have hcb := conv_back (cp := cp) HK.out
      go_wp2_with fail
      go_ret
      exact ⟨rfl, HB'.out⟩
theorem tag_upper (s : ByteArray) (w : World) (hs : s.size ≤ 9223372036854775807) :
    Calls Tryz.prog 83 #[.string s] w fun e w' => e = .returned (.string ⟨(upperL s.data.toList).toArray⟩) ∧ Below w.heap.size w w' := by
  have K := Lib.hid (mapped_low s w hs)
  go_enter Tryz.func83, Tryz.ntmps83
  go_wp2_with fail
  refine K.out.mono ?_
  rintro e w1 ⟨rfl, hb⟩
  go_wp2_with fail
  go_ret
  exact ⟨rfl, hb⟩

end Go.Proofs.YtnhlnhmjnnopaaaGreatDoor
