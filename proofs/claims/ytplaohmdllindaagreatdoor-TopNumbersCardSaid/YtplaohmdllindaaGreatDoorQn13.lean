/- OpenRule, OpenFive, LangPlain, LangRules, Speak: texts put together. -/
import Derived.Test.YtplaohmdllindaaGreatDoorQn5
import Derived.Test.YtplaohmdllindaaGreatDoorQn12
import Derived.Test.YtplaohmdllindaaGreatDoorQn2
import Derived.Test.YtplaohmdllindaaGreatDoorQn1
import Derived.Test.YtplaohmdllindaaGreatDoorQn3
import Derived.Maps.OwnSet
import Derived.Maps.Keyed
import Derived.Carry
import Derived.Shelf.Strings.BuilderK
import Derived.Lib.OthersKept
import Derived.WalkKit
set_option linter.unusedVariables false
set_option linter.unusedSimpArgs false
/- Rules that came in, opened; what the bound says of them. -/
namespace Go.Proofs.YtplaohmdllindaaGreatDoor
open Go.RowKit Go.ChangeShapes Go.WideShapes Go.Joins Go.Deep

section
variable {H : Type} {enc : TypeId × Value → H} {W : World} {base b0 : Nat} {r : Reach} {sp : Nat → Bool} {held : Bool}

theorem u8_of {n : Int} (h : (Lit.int .u8 n).wf = true) : ∃ c : UInt8, n = (c.toNat : Int) := by
  have w3 : 0 ≤ n ∧ n ≤ 255 := by simpa [Lit.wf, IntKind.min, IntKind.max, IntKind.signed, IntKind.bits] using h
  exact ⟨UInt8.ofNat n.toNat, by rw [UInt8.toNat_ofNat']; omega⟩

end
end Go.Proofs.YtplaohmdllindaaGreatDoor

/- Structs of five fields that came in, opened. -/
namespace Go.Proofs.YtplaohmdllindaaGreatDoor
open Go.RowKit Go.ChangeShapes Go.WideShapes Go.Joins Go.Deep

section
variable {H : Type} {enc : TypeId × Value → H} {P : Program} {w : World} {base : Nat} {spare : Nat → Bool} {held : Bool}
end

section
variable {H : Type} {enc : TypeId × Value → H} {W : World} {base b0 : Nat} {r : Reach} {sp : Nat → Bool} {held : Bool} {v : Value} {d : DataW H} {p : List MemPlace}
/-- a set of rules: five texts -/
structure SetC where
  s0 : ByteArray
  s1 : ByteArray
  s2 : ByteArray
  s3 : ByteArray
  s4 : ByteArray
def SetC.at (s : SetC) (i : Nat) : ByteArray := match i with | 0 => s.s0 | 1 => s.s1 | 2 => s.s2 | 3 => s.s3 | 4 => s.s4 | _ => ⟨#[]⟩
abbrev setV (s0 s1 s2 s3 s4 : ByteArray) : Value := .agg #[.string s0, .string s1, .string s2, .string s3, .string s4]
end
end Go.Proofs.YtplaohmdllindaaGreatDoor

/- The rules of languages as plain data. No program stands here. -/
namespace Go.Proofs.YtplaohmdllindaaGreatDoor
open Go Go.Maps

def enS : SetC := ⟨⟨#[]⟩, ⟨#[105, 32, 61, 32, 49, 32, 97, 110, 100, 32, 118, 32, 61, 32, 48]⟩, ⟨#[]⟩, ⟨#[]⟩, ⟨#[]⟩⟩
def deS : SetC := ⟨⟨#[]⟩, ⟨#[105, 32, 61, 32, 49, 32, 97, 110, 100, 32, 118, 32, 61, 32, 48]⟩, ⟨#[]⟩, ⟨#[]⟩, ⟨#[]⟩⟩
def frS : SetC := ⟨⟨#[]⟩, ⟨#[105, 32, 61, 32, 48, 44, 49]⟩, ⟨#[]⟩, ⟨#[]⟩, ⟨#[]⟩⟩
def jaS : SetC := ⟨⟨#[]⟩, ⟨#[]⟩, ⟨#[]⟩, ⟨#[]⟩, ⟨#[]⟩⟩
def plS : SetC := ⟨⟨#[]⟩, ⟨#[105, 32, 61, 32, 49, 32, 97, 110, 100, 32, 118, 32, 61, 32, 48]⟩, ⟨#[]⟩, ⟨#[118, 32, 61, 32, 48, 32, 97, 110, 100, 32, 105, 32, 37, 32, 49, 48, 32, 61, 32, 50, 46, 46, 52, 32, 97, 110, 100, 32, 105, 32, 37, 32, 49, 48, 48, 32, 33, 61, 32, 49, 50, 46, 46, 49, 52]⟩, ⟨#[118, 32, 61, 32, 48, 32, 97, 110, 100, 32, 105, 32, 33, 61, 32, 49, 32, 97, 110, 100, 32, 105, 32, 37, 32, 49, 48, 32, 61, 32, 48, 46, 46, 49, 32, 111, 114, 32, 118, 32, 61, 32, 48, 32, 97, 110, 100, 32, 105, 32, 37, 32, 49, 48, 32, 61, 32, 53, 46, 46, 57, 32, 111, 114, 32, 118, 32, 61, 32, 48, 32, 97, 110, 100, 32, 105, 32, 37, 32, 49, 48, 48, 32, 61, 32, 49, 50, 46, 46, 49, 52]⟩⟩
def ruS : SetC := ⟨⟨#[]⟩, ⟨#[118, 32, 61, 32, 48, 32, 97, 110, 100, 32, 105, 32, 37, 32, 49, 48, 32, 61, 32, 49, 32, 97, 110, 100, 32, 105, 32, 37, 32, 49, 48, 48, 32, 33, 61, 32, 49, 49]⟩, ⟨#[]⟩, ⟨#[118, 32, 61, 32, 48, 32, 97, 110, 100, 32, 105, 32, 37, 32, 49, 48, 32, 61, 32, 50, 46, 46, 52, 32, 97, 110, 100, 32, 105, 32, 37, 32, 49, 48, 48, 32, 33, 61, 32, 49, 50, 46, 46, 49, 52]⟩, ⟨#[118, 32, 61, 32, 48, 32, 97, 110, 100, 32, 105, 32, 37, 32, 49, 48, 32, 61, 32, 48, 32, 111, 114, 32, 118, 32, 61, 32, 48, 32, 97, 110, 100, 32, 105, 32, 37, 32, 49, 48, 32, 61, 32, 53, 46, 46, 57, 32, 111, 114, 32, 118, 32, 61, 32, 48, 32, 97, 110, 100, 32, 105, 32, 37, 32, 49, 48, 48, 32, 61, 32, 49, 49, 46, 46, 49, 52]⟩⟩
def arS : SetC := ⟨⟨#[110, 32, 61, 32, 48]⟩, ⟨#[110, 32, 61, 32, 49]⟩, ⟨#[110, 32, 61, 32, 50]⟩, ⟨#[110, 32, 37, 32, 49, 48, 48, 32, 61, 32, 51, 46, 46, 49, 48]⟩, ⟨#[110, 32, 37, 32, 49, 48, 48, 32, 61, 32, 49, 49, 46, 46, 57, 57]⟩⟩
def lvS : SetC := ⟨⟨#[110, 32, 37, 32, 49, 48, 32, 61, 32, 48, 32, 111, 114, 32, 110, 32, 37, 32, 49, 48, 48, 32, 61, 32, 49, 49, 46, 46, 49, 57, 32, 111, 114, 32, 118, 32, 61, 32, 50, 32, 97, 110, 100, 32, 102, 32, 37, 32, 49, 48, 48, 32, 61, 32, 49, 49, 46, 46, 49, 57]⟩, ⟨#[110, 32, 37, 32, 49, 48, 32, 61, 32, 49, 32, 97, 110, 100, 32, 110, 32, 37, 32, 49, 48, 48, 32, 33, 61, 32, 49, 49, 32, 111, 114, 32, 118, 32, 61, 32, 50, 32, 97, 110, 100, 32, 102, 32, 37, 32, 49, 48, 32, 61, 32, 49, 32, 97, 110, 100, 32, 102, 32, 37, 32, 49, 48, 48, 32, 33, 61, 32, 49, 49, 32, 111, 114, 32, 118, 32, 33, 61, 32, 50, 32, 97, 110, 100, 32, 102, 32, 37, 32, 49, 48, 32, 61, 32, 49]⟩, ⟨#[]⟩, ⟨#[]⟩, ⟨#[]⟩⟩
def SetC.val (s : SetC) : Value := setV s.s0 s.s1 s.s2 s.s3 s.s4
def noS : SetC := ⟨⟨#[]⟩, ⟨#[]⟩, ⟨#[]⟩, ⟨#[]⟩, ⟨#[]⟩⟩
def langL : List (List UInt8 × SetC) := [([101, 110], enS), ([100, 101], deS), ([102, 114], frS), ([106, 97], jaS), ([112, 108], plS), ([114, 117], ruS), ([97, 114], arS), ([108, 118], lvS)]
def langOf (s : List UInt8) : Option SetC := (langL.find? (fun p => decide (p.1 = s))).map (·.2)
def putAll (D : VD) (l : List (List UInt8 × SetC)) : VD := l.foldl (fun D p => D.put (.string p.1) (.held p.2.val)) D
theorem putAll_none (s : List UInt8) (z : VD) : ∀ (l : List (List UInt8 × SetC)) (D : VD), (∀ p ∈ l, p.1 ≠ s) → (putAll D l).atKey (.string s) z = D.atKey (.string s) z ∧ has (putAll D l) (.string s) = has D (.string s)
  | [], D, _ => ⟨rfl, rfl⟩
  | p :: l, D, h => by
    have hp : Lit.string s ≠ .string p.1 := fun e => h p (by simp) (by injection e with e; exact e.symm)
    obtain ⟨a, b⟩ := putAll_none s z l (D.put (.string p.1) (.held p.2.val)) (fun q hq => h q (List.mem_cons_of_mem _ hq))
    exact ⟨a.trans (atKey_put_other hp _ _), b.trans (has_put_other hp _)⟩
theorem putAll_some (s : List UInt8) (z : VD) : ∀ (l : List (List UInt8 × SetC)) (D : VD), IsMap D → (l.map (·.1)).Nodup → ∀ x, l.find? (fun p => decide (p.1 = s)) = some x → (putAll D l).atKey (.string s) z = .held x.2.val ∧ has (putAll D l) (.string s) = true
  | [], D, _, _, x, hx => by cases hx
  | p :: l, D, hD, hn, x, hx => by
    rw [List.map_cons, List.nodup_cons] at hn
    by_cases hp : p.1 = s
    · rw [List.find?_cons_of_pos (by simpa using hp)] at hx
      cases hx
      have hl : ∀ q ∈ l, q.1 ≠ s := fun q hq e => hn.1 (by rw [hp, ← e]; exact List.mem_map_of_mem hq)
      obtain ⟨a, b⟩ := putAll_none s z l (D.put (.string p.1) (.held p.2.val)) hl
      refine ⟨a.trans ?_, b.trans ?_⟩
      · rw [hp]; exact atKey_put_same hD (strKey s) _ _
      · rw [hp]; exact has_put_same hD (strKey s) _
    · rw [List.find?_cons_of_neg (by simpa using hp)] at hx
      exact putAll_some s z l _ (isMap_put hD _ _) hn.2 x hx
def langD : VD := putAll (.map []) langL
theorem langD_some {s : List UInt8} {x : SetC} (h : langOf s = some x) (z : VD) : langD.atKey (.string s) z = .held x.val ∧ has langD (.string s) = true := by
  unfold langOf at h
  obtain ⟨p, hp, rfl⟩ := Option.map_eq_some_iff.1 h
  exact putAll_some s z langL (.map []) ⟨_, rfl⟩ (by decide) p hp
theorem langD_none {s : List UInt8} (h : langOf s = none) (z : VD) : langD.atKey (.string s) z = z ∧ has langD (.string s) = false := by
  unfold langOf at h
  have h' := Option.map_eq_none_iff.1 h
  rw [List.find?_eq_none] at h'
  obtain ⟨a, b⟩ := putAll_none s z langL (.map []) (fun p hp e => by have := h' p hp; simp [e] at this)
  exact ⟨a, b⟩
/-- a language is one of these -/
theorem langOf_cases {s : List UInt8} {x : SetC} (h : langOf s = some x) : x = enS ∨ x = deS ∨ x = frS ∨ x = jaS ∨ x = plS ∨ x = ruS ∨ x = arS ∨ x = lvS := by
  unfold langOf at h
  obtain ⟨p, hp, rfl⟩ := Option.map_eq_some_iff.1 h
  have := List.mem_of_find?_eq_some hp
  unfold langL at this
  simp only [List.mem_cons, List.mem_nil_iff, or_false] at this
  rcases this with rfl | rfl | rfl | rfl | rfl | rfl | rfl | rfl <;> simp
end Go.Proofs.YtplaohmdllindaaGreatDoor

/- lang.rules and lang.Rules. -/
namespace Go.Proofs.YtplaohmdllindaaGreatDoor
open Go.RowKit Go.Maps Go.WideMaps

theorem zero_set (w : World) : (zeroValue 26).run Tryz.prog w = .ok (.agg #[.string ⟨#[]⟩, .string ⟨#[]⟩, .string ⟨#[]⟩, .string ⟨#[]⟩, .string ⟨#[]⟩]) w := by kernel_rfl

set_option maxHeartbeats 4000000 in
set_option maxRecDepth 100000 in
theorem lang_rules (w : World) :
    Calls Tryz.prog 19 #[] w fun e w' => (∃ b, e = .returned (.map (some b)) ∧ w'.ownsMap Tryz.prog 9 heldE b 8 langD) ∧ Below w.heap.size w w' := by
  have hmm := @run_makeMap Tryz.prog
  obtain ⟨w0, hw0⟩ : ∃ w0, w0 = (w.alloc (.cells #[.string ⟨#[]⟩, .string ⟨#[105, 32, 61, 32, 49, 32, 97, 110, 100, 32, 118, 32, 61, 32, 48]⟩, .string ⟨#[]⟩, .string ⟨#[]⟩, .string ⟨#[]⟩] 26)).alloc (.map #[] 0) := ⟨_, rfl⟩
  have hown0 : w0.ownsMap Tryz.prog 9 heldE (w.heap.size + 1) 0 (.map []) := by rw [hw0]; have := World.ownsMap_made (w.alloc (.cells #[.string ⟨#[]⟩, .string ⟨#[105, 32, 61, 32, 49, 32, 97, 110, 100, 32, 118, 32, 61, 32, 48]⟩, .string ⟨#[]⟩, .string ⟨#[]⟩, .string ⟨#[]⟩] 26)) Tryz.prog 9 heldE; simpa using this
  have c0_0 : w0.cell? ⟨w.heap.size, 0, none⟩ = some (.string ⟨#[]⟩) := by rw [hw0]; go_simp
  have c1_0 : w0.cell? ⟨w.heap.size, 1, none⟩ = some (.string ⟨#[105, 32, 61, 32, 49, 32, 97, 110, 100, 32, 118, 32, 61, 32, 48]⟩) := by rw [hw0]; go_simp
  have c2_0 : w0.cell? ⟨w.heap.size, 2, none⟩ = some (.string ⟨#[]⟩) := by rw [hw0]; go_simp
  have c3_0 : w0.cell? ⟨w.heap.size, 3, none⟩ = some (.string ⟨#[]⟩) := by rw [hw0]; go_simp
  have c4_0 : w0.cell? ⟨w.heap.size, 4, none⟩ = some (.string ⟨#[]⟩) := by rw [hw0]; go_simp
  obtain ⟨w1, hr1, hown1, hg1⟩ := World.ownsMap.update hown0 (string_keyed Tryz.underlying9) Tryz.underlying67 (by decide) (strK ⟨#[101, 110]⟩ (by decide)) (show heldE (.agg #[.string ⟨#[]⟩, .string ⟨#[105, 32, 61, 32, 49, 32, 97, 110, 100, 32, 118, 32, 61, 32, 48]⟩, .string ⟨#[]⟩, .string ⟨#[]⟩, .string ⟨#[]⟩]) = some (.held (enS).val, []) from rfl)
  have hf1 := grown_off (l := [w.heap.size + 1]) hg1 (fun k hk => by cases hk; simp)
  have c0_1 := hf1.cell c0_0 (by first | (simp; done) | (simp; omega))
  have c1_1 := hf1.cell c1_0 (by first | (simp; done) | (simp; omega))
  have c2_1 := hf1.cell c2_0 (by first | (simp; done) | (simp; omega))
  have c3_1 := hf1.cell c3_0 (by first | (simp; done) | (simp; omega))
  have c4_1 := hf1.cell c4_0 (by first | (simp; done) | (simp; omega))
  obtain ⟨w2, hr2, hown2, hg2⟩ := World.ownsMap.update hown1 (string_keyed Tryz.underlying9) Tryz.underlying67 (by decide) (strK ⟨#[100, 101]⟩ (by decide)) (show heldE (.agg #[.string ⟨#[]⟩, .string ⟨#[105, 32, 61, 32, 49, 32, 97, 110, 100, 32, 118, 32, 61, 32, 48]⟩, .string ⟨#[]⟩, .string ⟨#[]⟩, .string ⟨#[]⟩]) = some (.held (deS).val, []) from rfl)
  have hf2 := grown_off (l := [w.heap.size + 1]) hg2 (fun k hk => by cases hk; simp)
  have c0_2 := hf2.cell c0_1 (by first | (simp; done) | (simp; omega))
  have c1_2 := hf2.cell c1_1 (by first | (simp; done) | (simp; omega))
  have c2_2 := hf2.cell c2_1 (by first | (simp; done) | (simp; omega))
  have c3_2 := hf2.cell c3_1 (by first | (simp; done) | (simp; omega))
  have c4_2 := hf2.cell c4_1 (by first | (simp; done) | (simp; omega))
  obtain ⟨w3, hr3, hown3, hg3⟩ := World.ownsMap.update hown2 (string_keyed Tryz.underlying9) Tryz.underlying67 (by decide) (strK ⟨#[102, 114]⟩ (by decide)) (show heldE (.agg #[.string ⟨#[]⟩, .string ⟨#[105, 32, 61, 32, 48, 44, 49]⟩, .string ⟨#[]⟩, .string ⟨#[]⟩, .string ⟨#[]⟩]) = some (.held (frS).val, []) from rfl)
  have hf3 := grown_off (l := [w.heap.size + 1]) hg3 (fun k hk => by cases hk; simp)
  have c0_3 := hf3.cell c0_2 (by first | (simp; done) | (simp; omega))
  have c1_3 := hf3.cell c1_2 (by first | (simp; done) | (simp; omega))
  have c2_3 := hf3.cell c2_2 (by first | (simp; done) | (simp; omega))
  have c3_3 := hf3.cell c3_2 (by first | (simp; done) | (simp; omega))
  have c4_3 := hf3.cell c4_2 (by first | (simp; done) | (simp; omega))
  obtain ⟨w4, hr4, hown4, hg4⟩ := World.ownsMap.update hown3 (string_keyed Tryz.underlying9) Tryz.underlying67 (by decide) (strK ⟨#[106, 97]⟩ (by decide)) (show heldE (.agg #[.string ⟨#[]⟩, .string ⟨#[]⟩, .string ⟨#[]⟩, .string ⟨#[]⟩, .string ⟨#[]⟩]) = some (.held (jaS).val, []) from rfl)
  have hf4 := grown_off (l := [w.heap.size + 1]) hg4 (fun k hk => by cases hk; simp)
  have c0_4 := hf4.cell c0_3 (by first | (simp; done) | (simp; omega))
  have c1_4 := hf4.cell c1_3 (by first | (simp; done) | (simp; omega))
  have c2_4 := hf4.cell c2_3 (by first | (simp; done) | (simp; omega))
  have c3_4 := hf4.cell c3_3 (by first | (simp; done) | (simp; omega))
  have c4_4 := hf4.cell c4_3 (by first | (simp; done) | (simp; omega))
  obtain ⟨w5, hr5, hown5, hg5⟩ := World.ownsMap.update hown4 (string_keyed Tryz.underlying9) Tryz.underlying67 (by decide) (strK ⟨#[112, 108]⟩ (by decide)) (show heldE (.agg #[.string ⟨#[]⟩, .string ⟨#[105, 32, 61, 32, 49, 32, 97, 110, 100, 32, 118, 32, 61, 32, 48]⟩, .string ⟨#[]⟩, .string ⟨#[118, 32, 61, 32, 48, 32, 97, 110, 100, 32, 105, 32, 37, 32, 49, 48, 32, 61, 32, 50, 46, 46, 52, 32, 97, 110, 100, 32, 105, 32, 37, 32, 49, 48, 48, 32, 33, 61, 32, 49, 50, 46, 46, 49, 52]⟩, .string ⟨#[118, 32, 61, 32, 48, 32, 97, 110, 100, 32, 105, 32, 33, 61, 32, 49, 32, 97, 110, 100, 32, 105, 32, 37, 32, 49, 48, 32, 61, 32, 48, 46, 46, 49, 32, 111, 114, 32, 118, 32, 61, 32, 48, 32, 97, 110, 100, 32, 105, 32, 37, 32, 49, 48, 32, 61, 32, 53, 46, 46, 57, 32, 111, 114, 32, 118, 32, 61, 32, 48, 32, 97, 110, 100, 32, 105, 32, 37, 32, 49, 48, 48, 32, 61, 32, 49, 50, 46, 46, 49, 52]⟩]) = some (.held (plS).val, []) from rfl)
  have hf5 := grown_off (l := [w.heap.size + 1]) hg5 (fun k hk => by cases hk; simp)
  have c0_5 := hf5.cell c0_4 (by first | (simp; done) | (simp; omega))
  have c1_5 := hf5.cell c1_4 (by first | (simp; done) | (simp; omega))
  have c2_5 := hf5.cell c2_4 (by first | (simp; done) | (simp; omega))
  have c3_5 := hf5.cell c3_4 (by first | (simp; done) | (simp; omega))
  have c4_5 := hf5.cell c4_4 (by first | (simp; done) | (simp; omega))
  obtain ⟨w6, hr6, hown6, hg6⟩ := World.ownsMap.update hown5 (string_keyed Tryz.underlying9) Tryz.underlying67 (by decide) (strK ⟨#[114, 117]⟩ (by decide)) (show heldE (.agg #[.string ⟨#[]⟩, .string ⟨#[118, 32, 61, 32, 48, 32, 97, 110, 100, 32, 105, 32, 37, 32, 49, 48, 32, 61, 32, 49, 32, 97, 110, 100, 32, 105, 32, 37, 32, 49, 48, 48, 32, 33, 61, 32, 49, 49]⟩, .string ⟨#[]⟩, .string ⟨#[118, 32, 61, 32, 48, 32, 97, 110, 100, 32, 105, 32, 37, 32, 49, 48, 32, 61, 32, 50, 46, 46, 52, 32, 97, 110, 100, 32, 105, 32, 37, 32, 49, 48, 48, 32, 33, 61, 32, 49, 50, 46, 46, 49, 52]⟩, .string ⟨#[118, 32, 61, 32, 48, 32, 97, 110, 100, 32, 105, 32, 37, 32, 49, 48, 32, 61, 32, 48, 32, 111, 114, 32, 118, 32, 61, 32, 48, 32, 97, 110, 100, 32, 105, 32, 37, 32, 49, 48, 32, 61, 32, 53, 46, 46, 57, 32, 111, 114, 32, 118, 32, 61, 32, 48, 32, 97, 110, 100, 32, 105, 32, 37, 32, 49, 48, 48, 32, 61, 32, 49, 49, 46, 46, 49, 52]⟩]) = some (.held (ruS).val, []) from rfl)
  have hf6 := grown_off (l := [w.heap.size + 1]) hg6 (fun k hk => by cases hk; simp)
  have c0_6 := hf6.cell c0_5 (by first | (simp; done) | (simp; omega))
  have c1_6 := hf6.cell c1_5 (by first | (simp; done) | (simp; omega))
  have c2_6 := hf6.cell c2_5 (by first | (simp; done) | (simp; omega))
  have c3_6 := hf6.cell c3_5 (by first | (simp; done) | (simp; omega))
  have c4_6 := hf6.cell c4_5 (by first | (simp; done) | (simp; omega))
  obtain ⟨w7, hr7, hown7, hg7⟩ := World.ownsMap.update hown6 (string_keyed Tryz.underlying9) Tryz.underlying67 (by decide) (strK ⟨#[97, 114]⟩ (by decide)) (show heldE (.agg #[.string ⟨#[110, 32, 61, 32, 48]⟩, .string ⟨#[110, 32, 61, 32, 49]⟩, .string ⟨#[110, 32, 61, 32, 50]⟩, .string ⟨#[110, 32, 37, 32, 49, 48, 48, 32, 61, 32, 51, 46, 46, 49, 48]⟩, .string ⟨#[110, 32, 37, 32, 49, 48, 48, 32, 61, 32, 49, 49, 46, 46, 57, 57]⟩]) = some (.held (arS).val, []) from rfl)
  have hf7 := grown_off (l := [w.heap.size + 1]) hg7 (fun k hk => by cases hk; simp)
  have c0_7 := hf7.cell c0_6 (by first | (simp; done) | (simp; omega))
  have c1_7 := hf7.cell c1_6 (by first | (simp; done) | (simp; omega))
  have c2_7 := hf7.cell c2_6 (by first | (simp; done) | (simp; omega))
  have c3_7 := hf7.cell c3_6 (by first | (simp; done) | (simp; omega))
  have c4_7 := hf7.cell c4_6 (by first | (simp; done) | (simp; omega))
  obtain ⟨w8, hr8, hown8, hg8⟩ := World.ownsMap.update hown7 (string_keyed Tryz.underlying9) Tryz.underlying67 (by decide) (strK ⟨#[108, 118]⟩ (by decide)) (show heldE (.agg #[.string ⟨#[110, 32, 37, 32, 49, 48, 32, 61, 32, 48, 32, 111, 114, 32, 110, 32, 37, 32, 49, 48, 48, 32, 61, 32, 49, 49, 46, 46, 49, 57, 32, 111, 114, 32, 118, 32, 61, 32, 50, 32, 97, 110, 100, 32, 102, 32, 37, 32, 49, 48, 48, 32, 61, 32, 49, 49, 46, 46, 49, 57]⟩, .string ⟨#[110, 32, 37, 32, 49, 48, 32, 61, 32, 49, 32, 97, 110, 100, 32, 110, 32, 37, 32, 49, 48, 48, 32, 33, 61, 32, 49, 49, 32, 111, 114, 32, 118, 32, 61, 32, 50, 32, 97, 110, 100, 32, 102, 32, 37, 32, 49, 48, 32, 61, 32, 49, 32, 97, 110, 100, 32, 102, 32, 37, 32, 49, 48, 48, 32, 33, 61, 32, 49, 49, 32, 111, 114, 32, 118, 32, 33, 61, 32, 50, 32, 97, 110, 100, 32, 102, 32, 37, 32, 49, 48, 32, 61, 32, 49]⟩, .string ⟨#[]⟩, .string ⟨#[]⟩, .string ⟨#[]⟩]) = some (.held (lvS).val, []) from rfl)
  have hf8 := grown_off (l := [w.heap.size + 1]) hg8 (fun k hk => by cases hk; simp)
  have c0_8 := hf8.cell c0_7 (by first | (simp; done) | (simp; omega))
  have c1_8 := hf8.cell c1_7 (by first | (simp; done) | (simp; omega))
  have c2_8 := hf8.cell c2_7 (by first | (simp; done) | (simp; omega))
  have c3_8 := hf8.cell c3_7 (by first | (simp; done) | (simp; omega))
  have c4_8 := hf8.cell c4_7 (by first | (simp; done) | (simp; omega))
  have hf0n : Off [w.heap.size + 1] w0 w8 := (((((((hf1.trans hf2).trans hf3).trans hf4).trans hf5).trans hf6).trans hf7).trans hf8)
  have hb0n : Below w.heap.size w w8 := by
    have h0 : Below w.heap.size w w0 := by rw [hw0]; exact belx
    exact h0.trans (hf0n.toBelow (by simp) h0.size)
  have HB := Lib.hid hb0n
  have HO : Hid (w8.ownsMap Tryz.prog 9 heldE (w.heap.size + 1) 8 langD) := Lib.hid hown8
  rw [hw0] at hr1
  clear hf0n hb0n hw0 hown0 hown1 hown2 hown3 hown4 hown5 hown6 hown7 hown8 hg1 hf1 hg2 hf2 hg3 hf3 hg4 hf4 hg5 hf5 hg6 hf6 hg7 hf7 hg8 hf8 c0_0 c0_2 c0_3 c0_4 c0_5 c0_6 c0_7 c0_8 c1_0 c1_2 c1_3 c1_4 c1_5 c1_6 c1_7 c1_8 c2_0 c2_2 c2_3 c2_4 c2_5 c2_6 c2_7 c2_8 c3_0 c3_2 c3_3 c3_4 c3_5 c3_6 c3_7 c3_8 c4_0 c4_2 c4_3 c4_4 c4_5 c4_6 c4_7 c4_8
  go_enter Tryz.func19, Tryz.ntmps19
  go_wp2_with fail
  go_ret
  exact ⟨⟨_, rfl, HO.out⟩, HB.out⟩


set_option maxRecDepth 100000 in
set_option maxHeartbeats 2000000 in
/-- lang.Rules of one of these -/
theorem lang_known (s : ByteArray) (x : SetC) (w : World) (hs : s.size ≤ maxLen) (h : langOf s.data.toList = some x) :
    Calls Tryz.prog 6 #[.string s] w fun e w' => e = .returned (.tuple #[setV x.s0 x.s1 x.s2 x.s3 x.s4, .nilIface]) ∧ Below w.heap.size w w' := by
  have HD := Lib.hid (langD_some h)
  have HK := Lib.hid (strK s hs)
  obtain ⟨x0, x1, x2, x3, x4⟩ := x
  clear h hs
  simp only at *
  go_enter Tryz.func6, Tryz.ntmps6
  go_wp2_with fail
  refine (lang_rules _).mono ?_
  rintro e w1 ⟨⟨b, rfl, ho⟩, hb⟩
  have HO := Lib.hid ho
  have c0 : w1.cell? ⟨w.heap.size, 0, none⟩ = some (.string ⟨#[]⟩) := carry hb (by go_simp)
  have c1 : w1.cell? ⟨w.heap.size, 1, none⟩ = some (.string ⟨#[]⟩) := carry hb (by go_simp)
  have c2 : w1.cell? ⟨w.heap.size, 2, none⟩ = some (.string ⟨#[]⟩) := carry hb (by go_simp)
  have c3 : w1.cell? ⟨w.heap.size, 3, none⟩ = some (.string ⟨#[]⟩) := carry hb (by go_simp)
  have c4 : w1.cell? ⟨w.heap.size, 4, none⟩ = some (.string ⟨#[]⟩) := carry hb (by go_simp)
  have f0 : ∀ j, w1.frozen? ⟨w.heap.size, j, none⟩ = false := fun j => (Below.frozen hb (p := ⟨w.heap.size, j, none⟩) (by simp)).trans (by go_simp)
  have s1 := lt_of_cell c0
  have HB : Hid (Below w.heap.size w w1) := Lib.hid belx
  clear ho hb
  obtain ⟨v, ps, hlook, hv⟩ := World.ownsMap.look_ok HO.out (string_keyed Tryz.underlying9) Tryz.underlying67 (zero_set _) (show heldE (.agg #[.string ⟨#[]⟩, .string ⟨#[]⟩, .string ⟨#[]⟩, .string ⟨#[]⟩, .string ⟨#[]⟩]) = some (.held (.agg #[.string ⟨#[]⟩, .string ⟨#[]⟩, .string ⟨#[]⟩, .string ⟨#[]⟩, .string ⟨#[]⟩]), []) from rfl) HK.out
  obtain ⟨h1, h2⟩ := HD.out (.held (.agg #[.string ⟨#[]⟩, .string ⟨#[]⟩, .string ⟨#[]⟩, .string ⟨#[]⟩, .string ⟨#[]⟩]))
  rw [h2] at hlook
  rw [h1] at hv
  simp only [heldE, Option.some.injEq, Prod.mk.injEq, DataW.held.injEq] at hv
  obtain ⟨rfl, _⟩ := hv
  unfold SetC.val at hlook
  clear h1 h2
  simp only [Nat.add_zero] at hlook
  have f00 := f0 0
  have f01 := f0 1
  have f02 := f0 2
  have f03 := f0 3
  have f04 := f0 4
  clear f0
  go_wp2_with fail
  exact bodyPost_ret (v := .tuple #[setV x0 x1 x2 x3 x4, .nilIface]) (by simp [results, Tryz.results6, go_sem, c0, c1, c2, c3, c4, s1]) rfl ⟨rfl, (((((HB.out.setCell (by simp) _).setCell (by simp) _).setCell (by simp) _).setCell (by simp) _).setCell (by simp) _).alloc (by have := HB.out.size; simp; omega) _⟩

set_option maxRecDepth 100000 in
set_option maxHeartbeats 2000000 in
/-- lang.Rules of no language that there is -/
theorem lang_none (s : ByteArray) (w : World) (hs : s.size ≤ maxLen) (h : langOf s.data.toList = none) :
    Calls Tryz.prog 6 #[.string s] w fun e w' => e = .returned (.tuple #[.agg #[.string ⟨#[]⟩, .string ⟨#[]⟩, .string ⟨#[]⟩, .string ⟨#[]⟩, .string ⟨#[]⟩], .iface 70 (.int .i64 2)]) ∧ Below w.heap.size w w' := by
  have HD := Lib.hid (fun z => langD_none h z)
  have HK := Lib.hid (strK s hs)
  clear h hs
  go_enter Tryz.func6, Tryz.ntmps6
  go_wp2_with fail
  refine (lang_rules _).mono ?_
  rintro e w1 ⟨⟨b, rfl, ho⟩, hb⟩
  have HO := Lib.hid ho
  have c0 : w1.cell? ⟨w.heap.size, 0, none⟩ = some (.string ⟨#[]⟩) := carry hb (by go_simp)
  have c1 : w1.cell? ⟨w.heap.size, 1, none⟩ = some (.string ⟨#[]⟩) := carry hb (by go_simp)
  have c2 : w1.cell? ⟨w.heap.size, 2, none⟩ = some (.string ⟨#[]⟩) := carry hb (by go_simp)
  have c3 : w1.cell? ⟨w.heap.size, 3, none⟩ = some (.string ⟨#[]⟩) := carry hb (by go_simp)
  have c4 : w1.cell? ⟨w.heap.size, 4, none⟩ = some (.string ⟨#[]⟩) := carry hb (by go_simp)
  have f0 : ∀ j, w1.frozen? ⟨w.heap.size, j, none⟩ = false := fun j => (Below.frozen hb (p := ⟨w.heap.size, j, none⟩) (by simp)).trans (by go_simp)
  have s1 := lt_of_cell c0
  have HB : Hid (Below w.heap.size w w1) := Lib.hid belx
  clear ho hb
  obtain ⟨v, ps, hlook, hv⟩ := World.ownsMap.look_ok HO.out (string_keyed Tryz.underlying9) Tryz.underlying67 (zero_set _) (show heldE (.agg #[.string ⟨#[]⟩, .string ⟨#[]⟩, .string ⟨#[]⟩, .string ⟨#[]⟩, .string ⟨#[]⟩]) = some (.held (.agg #[.string ⟨#[]⟩, .string ⟨#[]⟩, .string ⟨#[]⟩, .string ⟨#[]⟩, .string ⟨#[]⟩]), []) from rfl) HK.out
  obtain ⟨h1, h2⟩ := HD.out (.held (.agg #[.string ⟨#[]⟩, .string ⟨#[]⟩, .string ⟨#[]⟩, .string ⟨#[]⟩, .string ⟨#[]⟩]))
  rw [h2] at hlook
  rw [h1] at hv
  simp only [heldE, Option.some.injEq, Prod.mk.injEq, DataW.held.injEq] at hv
  obtain ⟨rfl, _⟩ := hv
  clear h1 h2
  have f00 := f0 0
  have f01 := f0 1
  have f02 := f0 2
  have f03 := f0 3
  have f04 := f0 4
  clear f0
  go_wp2_with fail
  exact bodyPost_ret (v := .tuple #[.agg #[.string ⟨#[]⟩, .string ⟨#[]⟩, .string ⟨#[]⟩, .string ⟨#[]⟩, .string ⟨#[]⟩], .iface 70 (.int .i64 2)]) (by simp [results, Tryz.results6, go_sem, c0, c1, c2, c3, c4, s1]) rfl ⟨rfl, (((((HB.out.setCell (by simp) _).setCell (by simp) _).setCell (by simp) _).setCell (by simp) _).setCell (by simp) _).alloc (by have := HB.out.size; simp; omega) _⟩
end Go.Proofs.YtplaohmdllindaaGreatDoor

/- eval's speaker: a builder that lies behind other fields: copyCheck, WriteString, String. -/
set_option linter.unusedVariables false
namespace Go.Proofs.YtplaohmdllindaaGreatDoor
open Go.Shelf Go.RowKit Go.Maps

theorem szBuilder : (Tryz.prog.info? 95).map (·.size) = some 2 := by kernel_rfl
theorem liesB6 : liesAt Tryz.prog Tryz.prog.depth 97 (8 / Tryz.prog.cellsOf 97) 6 95 1 = true := by kernel_rfl
theorem infoB : (Tryz.prog.info? 5).map (fun i => (i.zero, i.size, i.bytes)) = some (some (.int .u8 0), 1, 1) := by kernel_rfl

/-- the block of a speaker -/
def spkC (S : SetC) (mb : Nat) (p v : Value) : Array Value := #[.string S.s0, .string S.s1, .string S.s2, .string S.s3, .string S.s4, .map (some mb), p, v]
/-- a speaker at b, with what it has told -/
def SpkAt (w : World) (B b mb : Nat) (S : SetC) (p : Value) (bs : List Value) : Prop :=
  B ≤ b ∧ ∃ v, w.heap[b]? = some (.cells (spkC S mb p v) 97 (0, 0)) ∧ w.ownsRow B 5 1 v bs.length bs ∧ v.ownBlock ≠ some b
def Spk (w : World) (B b mb : Nat) (S : SetC) (bs : List Value) : Prop := SpkAt w B b mb S (.pointer none) bs ∨ SpkAt w B b mb S (.pointer (some ⟨b, 6, none⟩)) bs

section
variable {w w' : World} {B b mb : Nat} {S : SetC} {p : Value} {bs : List Value}
theorem SpkAt.cell (h : SpkAt w B b mb S p bs) : ∃ v, w.heap[b]? = some (.cells (spkC S mb p v) 97 (0, 0)) := by
  obtain ⟨_, v, h, _⟩ := h
  exact ⟨v, h⟩
theorem SpkAt.lt (h : SpkAt w B b mb S p bs) : b < w.heap.size := by
  obtain ⟨_, v, h, _⟩ := h
  exact (Array.getElem?_eq_some_iff.1 h).1
theorem Spk.lt (h : Spk w B b mb S bs) : b < w.heap.size := h.elim SpkAt.lt SpkAt.lt
/-- its fields -/
theorem Spk.cells (h : Spk w B b mb S bs) : w.cell? ⟨b, 0, none⟩ = some (.string S.s0) ∧ w.cell? ⟨b, 1, none⟩ = some (.string S.s1) ∧ w.cell? ⟨b, 2, none⟩ = some (.string S.s2) ∧ w.cell? ⟨b, 3, none⟩ = some (.string S.s3) ∧ w.cell? ⟨b, 4, none⟩ = some (.string S.s4) ∧ w.cell? ⟨b, 5, none⟩ = some (.map (some mb)) := by
  have : ∃ p v, w.heap[b]? = some (.cells (spkC S mb p v) 97 (0, 0)) := by
    rcases h with h | h
    · obtain ⟨v, h⟩ := h.cell; exact ⟨_, v, h⟩
    · obtain ⟨v, h⟩ := h.cell; exact ⟨_, v, h⟩
  obtain ⟨p, v, hb⟩ := this
  exact ⟨by rw [Lib.cell_of_heap hb]; rfl, by rw [Lib.cell_of_heap hb]; rfl, by rw [Lib.cell_of_heap hb]; rfl, by rw [Lib.cell_of_heap hb]; rfl, by rw [Lib.cell_of_heap hb]; rfl, by rw [Lib.cell_of_heap hb]; rfl⟩
theorem ownsRow_below {base : Nat} {e : TypeId} {v : Value} {n : Nat} {xs : List Value} (h : w.ownsRow base e 1 v n xs) (hb : Below w.heap.size w w') : w'.ownsRow base e 1 v n xs := by
  refine ⟨h.1, ?_⟩
  rcases h.2 with h2 | ⟨g, cap, cur, rfl, h3, h4, h5⟩
  · exact .inl h2
  · exact .inr ⟨g, cap, cur, rfl, h3, (hb.block g (Array.getElem?_eq_some_iff.1 h4).1).trans h4, h5⟩
theorem SpkAt.below (h : SpkAt w B b mb S p bs) (hb : Below w.heap.size w w') : SpkAt w' B b mb S p bs := by
  have hlt := h.lt
  obtain ⟨h1, v, h2, h3, h4⟩ := h
  exact ⟨h1, v, (hb.block b hlt).trans h2, ownsRow_below h3 hb, h4⟩
theorem Spk.below (h : Spk w B b mb S bs) (hb : Below w.heap.size w w') : Spk w' B b mb S bs := h.elim (fun h => .inl (h.below hb)) (fun h => .inr (h.below hb))
end

set_option maxHeartbeats 1000000 in
set_option maxRecDepth 100000 in
theorem spk_check_used (b : Nat) (w : World) (h0 : w.cell? ⟨b, 6, none⟩ = some (.pointer (some ⟨b, 6, none⟩))) :
    Calls Tryz.prog 147 #[.pointer (some ⟨b, 6, none⟩)] w fun e w' => e = .returned (.tuple #[]) ∧ w' = w := by
  obtain ⟨j, hj, _⟩ := Option.map_eq_some_iff.1 szBuilder
  go_enter Tryz.func147, Tryz.ntmps147
  go_wp2
  rw [Lib.run_neq_ptr_same w _ Tryz.underlying92 hj]
  go_wp2
  go_end0
  exact ⟨rfl, rfl⟩

set_option maxHeartbeats 1000000 in
set_option maxRecDepth 100000 in
theorem spk_check_fresh (b : Nat) (w : World) (h0 : w.cell? ⟨b, 6, none⟩ = some (.pointer none)) (hsh : w.shape? b = some (97, 8)) (hfz : w.frozen? ⟨b, 6, none⟩ = false) :
    Calls Tryz.prog 147 #[.pointer (some ⟨b, 6, none⟩)] w fun e w' => e = .returned (.tuple #[]) ∧ w' = w.setCell ⟨b, 6, none⟩ (.pointer (some ⟨b, 6, none⟩)) := by
  obtain ⟨j, hj, hjs⟩ := Option.map_eq_some_iff.1 szBuilder
  go_enter Tryz.func147, Tryz.ntmps147
  go_wp2
  rw [Lib.run_to_unsafe w ⟨b, 6, none⟩ Tryz.underlying92 Tryz.underlying290 hj (by rw [hjs]; decide) hsh (by show 6 < 8; omega)]
  simp only [Result.andThen]
  rw [Oper.upon_value]
  go_wp2
  rw [run_callFunc_extern Tryz.func195 (by kernel_rfl) (by kernel_rfl) (by kernel_rfl) (e := Extern.AbiNoEscape.same) (by kernel_rfl)]
  rw [Lib.run_noEscape]
  simp only [Result.andThen]
  rw [Oper.upon_value]
  go_wp2
  rw [Lib.run_from_unsafe w ⟨b, 6, none⟩ Tryz.underlying290 Tryz.underlying92 hj hsh liesB6]
  simp only [Result.andThen]
  rw [Oper.upon_value]
  go_wp2
  go_end0
  exact ⟨rfl, rfl⟩

theorem spk_set {w : World} {b mb : Nat} {S : SetC} {p v p' : Value} (h : w.heap[b]? = some (.cells (spkC S mb p v) 97 (0, 0))) : (w.setCell ⟨b, 6, none⟩ p').heap[b]? = some (.cells (spkC S mb p' v) 97 (0, 0)) := by
  rw [setCell_eq_setRow w b 6 _ _ _ p' h]
  exact setRow_heap w b _ _ _ _ h
theorem spk_setv {w : World} {b mb : Nat} {S : SetC} {p v v' : Value} (h : w.heap[b]? = some (.cells (spkC S mb p v) 97 (0, 0))) : (w.setCell ⟨b, 7, none⟩ v').heap[b]? = some (.cells (spkC S mb p v') 97 (0, 0)) := by
  rw [setCell_eq_setRow w b 7 _ _ _ v' h]
  exact setRow_heap w b _ _ _ _ h
theorem ownsRow_set {w : World} {base : Nat} {e : TypeId} {v : Value} {n : Nat} {xs : List Value} {a : Addr} {u : Value} (h : w.ownsRow base e 1 v n xs) (hne : v.ownBlock ≠ some a.block) : (w.setCell a u).ownsRow base e 1 v n xs := by
  refine ⟨h.1, ?_⟩
  rcases h.2 with h2 | ⟨g, cap, cur, rfl, h3, h4, h5⟩
  · exact .inl h2
  · refine .inr ⟨g, cap, cur, rfl, h3, ?_, h5⟩
    rw [Below.heap_setCell _ _ _ _ (fun e => hne (by rw [e]; rfl))]
    exact h4
theorem spk_check {w : World} {B b mb : Nat} {S : SetC} {bs : List Value} (h : Spk w B b mb S bs) :
    Calls Tryz.prog 147 #[.pointer (some ⟨b, 6, none⟩)] w fun e w' => e = .returned (.tuple #[]) ∧ SpkAt w' B b mb S (.pointer (some ⟨b, 6, none⟩)) bs ∧ Below B w w' ∧ ∀ k, k ≠ b → w'.heap[k]? = w.heap[k]? := by
  rcases h with h | h
  · obtain ⟨h1, v, h2, h3, h4⟩ := h
    refine (spk_check_fresh b w (by rw [Lib.cell_of_heap h2]; rfl) (by simp [World.shape?, h2, spkC]) (Lib.frozen_of_heap h2 6)).mono ?_
    rintro e w' ⟨rfl, rfl⟩
    exact ⟨rfl, ⟨h1, v, spk_set h2, ownsRow_set h3 h4, h4⟩, (Below.refl B w).setCell (p := ⟨b, 6, none⟩) h1 _, fun k hk => Below.heap_setCell _ _ _ _ (fun e => hk e)⟩
  · obtain ⟨h1, v, h2, h3, h4⟩ := h
    refine (spk_check_used b w (by rw [Lib.cell_of_heap h2]; rfl)).mono ?_
    rintro e w' ⟨rfl, rfl⟩
    exact ⟨rfl, ⟨h1, v, h2, h3, h4⟩, Below.refl B _, fun _ _ => rfl⟩

set_option maxHeartbeats 2000000 in
set_option maxRecDepth 100000 in
/-- WriteString of a speaker: what it has told behind it; each map stands. -/
theorem spk_write {w : World} {B b mb : Nat} {S : SetC} {bs : List Value} (s : ByteArray) (h : Spk w B b mb S bs) (hlen : bs.length + s.size ≤ 140737488355328) (hBw : B ≤ w.heap.size) :
    Calls Tryz.prog 83 #[.pointer (some ⟨b, 6, none⟩), .string s] w fun e w' => e = .returned (.tuple #[.int .i64 s.size, .nilIface]) ∧ Spk w' B b mb S (bs ++ Lib.strCells s) ∧ Below B w w' ∧ (∀ (k : Nat) es c, w.heap[k]? = some (Obj.map es c) → w'.heap[k]? = w.heap[k]?) ∧ Lib.OthersKept 5 (some b) w w' := by
  obtain ⟨i0, hi, hz0, hz1, hz2⟩ := info_parts infoB
  go_enter Tryz.func83, Tryz.ntmps83
  go_wp2_with (go_at_call 147; refine (spk_check h).mono ?_)
  rintro e w1 ⟨rfl, h1, hb1, hk1⟩
  obtain ⟨hB, v, hbk, hown, hne⟩ := h1
  have c1 : w1.cell? ⟨b, 7, none⟩ = some v := by rw [Lib.cell_of_heap hbk]; rfl
  go_wp2_with (at_builtin; refine Lib.wpList_append_own_string _ rfl _ _ 93 9 rfl B 5 i0 Tryz.underlying93 Tryz.underlying9 hi hz0 hz1 hz2 _ _ _ rfl hown s rfl ?c3 ?c4 ?c5 ?_)
  case c3 => unfold maxLen; omega
  case c4 => omega
  case c5 => have := hb1.size; omega
  intro v' w2 hown' hgrow _
  have hlt : b < w1.heap.size := by
    rcases Nat.lt_or_ge b w1.heap.size with h' | h'
    · exact h'
    · simp [Array.getElem?_eq_none h'] at hbk
  have hb2 : w2.heap[b]? = some (.cells (spkC S mb (.pointer (some ⟨b, 6, none⟩)) v) 97 (0, 0)) := by
    rw [hgrow.block b hlt (fun e => hne e.symm)]
    exact hbk
  have d1 : w2.cell? ⟨b, 7, none⟩ = some v := by rw [Lib.cell_of_heap hb2]; rfl
  have f1 : w2.frozen? ⟨b, 7, none⟩ = false := Lib.frozen_of_heap hb2 7
  have hvb : v'.ownBlock ≠ some b := by
    intro e
    rcases hown'.2 with ⟨hv, _⟩ | ⟨g, cap, cur, hv, _, hg, _⟩
    · rw [hv] at e; simp [Value.ownBlock] at e
    · rw [hv] at e
      simp [Value.ownBlock] at e
      subst e
      rw [hb2] at hg
      cases hg
  have HM : Hid (∀ (k : Nat) es c, w.heap[k]? = some (Obj.map es c) → (w2.setCell ⟨b, 7, none⟩ v').heap[k]? = w.heap[k]?) := Lib.hid (fun k es c hk => by
    have hkb : k ≠ b := by
      rintro rfl
      have := h.cells.1
      simp [World.cell?, hk] at this
    rw [Below.heap_setCell _ _ _ _ (fun e => hkb e)]
    have hk' := (hk1 k hkb).trans hk
    have hlt' := (Array.getElem?_eq_some_iff.1 hk').1
    refine (hgrow.block k hlt' (fun e => ?_)).trans (hk1 k hkb)
    rcases hown.2 with ⟨hv, _⟩ | ⟨g, cap, cur, hv, _, hg, _⟩
    · rw [hv] at e; simp [Value.ownBlock] at e
    · rw [hv] at e
      simp [Value.ownBlock] at e
      subst e
      rw [hk'] at hg
      cases hg)
  have HN : Hid (Spk (w2.setCell ⟨b, 7, none⟩ v') B b mb S (bs ++ Lib.strCells s)) := Lib.hid (.inr ⟨hB, v', spk_setv hb2, ownsRow_set (by simpa [Lib.strCells_length] using hown') hvb, hvb⟩)
  have HB : Hid (Below B w (w2.setCell ⟨b, 7, none⟩ v')) := Lib.hid ((hb1.grown hgrow (by have := hb1.size; omega) (fun k hk => (hown.lt k hk).1)).setCell (p := ⟨b, 7, none⟩) hB _)
  have HOK : Hid (Lib.OthersKept 5 (some b) w (w2.setCell ⟨b, 7, none⟩ v')) := Lib.hid (by
    have k1 : Lib.OthersKept 5 (some b) w w1 := fun k o hk hb ho => (hk1 k (fun e => hb (by rw [e]))).trans hk
    exact (k1.grown hgrow (Lib.ownsRowF_kind (World.ownsRowF_of hown))).setCell ⟨b, 7, none⟩ rfl _)
  clear hvb h hk1 hb1 hgrow hne hlt hb2 hbk hown
  obtain ⟨ao, n', cap, rfl⟩ : ∃ ao n' cap, v' = .slice ao n' cap := by
    rcases hown'.2 with ⟨hv, _⟩ | ⟨g, cap, cur, hv, _⟩
    · exact ⟨_, _, _, hv⟩
    · exact ⟨_, _, _, hv⟩
  go_wp2
  go_ret2
  exact ⟨rfl, HN.out, HB.out, HM.out, HOK.out⟩

set_option maxHeartbeats 2000000 in
set_option maxRecDepth 100000 in
/-- String of a speaker -/
theorem spk_string {w : World} {B b mb : Nat} {S : SetC} {l : List UInt8} (h : Spk w B b mb S (Lib.byteCells l)) (hBw : B ≤ w.heap.size) :
    Calls Tryz.prog 30 #[.pointer (some ⟨b, 6, none⟩)] w fun e w' => e = .returned (.string ⟨l.toArray⟩) ∧ Below B w w' := by
  obtain ⟨p, hB, v, hbk, hown, hne⟩ : ∃ p, SpkAt w B b mb S p (Lib.byteCells l) := by
    rcases h with h | h
    · exact ⟨_, h⟩
    · exact ⟨_, h⟩
  have hlt : b < w.heap.size := (Array.getElem?_eq_some_iff.1 hbk).1
  rw [Lib.byteCells_length] at hown
  have hUN : ∀ (W : World) (q : Option Addr), (Builtin.unsafeString_ #[166, 3] 9 #[.pointer q, .int .i64 0]).run Tryz.prog W = .ok (.string .empty) W := fun W q => Lib.run_unsafeString_none W _ _ _ q
  have c1 : w.drew.cell? ⟨b, 7, none⟩ = some v := by
    have : w.drew.heap[b]? = some (.cells (spkC S mb p v) 97 (0, 0)) := hbk
    rw [Lib.cell_of_heap this]; rfl
  rcases hown.2 with ⟨rfl, hz⟩ | ⟨g, cap, cur, rfl, hbg, hg, hnc, hcm, hcs, htake⟩
  · obtain rfl : l = [] := List.length_eq_zero_iff.1 hz
    have hSD : (Builtin.unsafeSliceData_ #[93] 166 #[.slice none 0 0]).run Tryz.prog w.drew = .ok (.pointer none) w.drew := rfl
    clear h hbk hown
    go_enter Tryz.func30, Tryz.ntmps30
    go_wp2
    go_region
    all_goals (go_wp2; go_ret; exact ⟨rfl, Below.drew (Below.refl B w)⟩)
  · by_cases h0 : l = []
    · subst h0
      simp only [List.length_nil] at c1 hown hnc htake
      by_cases hc0 : cap = 0
      · subst hc0
        have hSD : (Builtin.unsafeSliceData_ #[93] 166 #[.slice (some ⟨g, 0, none⟩) 0 0]).run Tryz.prog w.drew = .ok (.pointer (some ⟨w.drew.heap.size, 0, none⟩)) (w.drew.alloc (.view ⟨g, 0, none⟩ 5)) :=
          Lib.run_unsafeSliceData_zero w.drew _ _ 5 Tryz.underlying166 ⟨g, 0, none⟩ 0 (5, cur.size) (by have hg' : w.drew.heap[g]? = some (.cells cur 5 (0, 0)) := hg; simp [World.shape?, hg'])
        have c2 : (w.drew.alloc (.view ⟨g, 0, none⟩ 5)).cell? ⟨b, 7, none⟩ = some (.slice (some ⟨g, 0, none⟩) 0 0) := by
          have : (w.drew.alloc (.view ⟨g, 0, none⟩ 5)).heap[b]? = _ := (Lib.alloc_old w.drew _ b hlt).trans hbk
          rw [Lib.cell_of_heap this]; rfl
        have c3 : (w.alloc (.view ⟨g, 0, none⟩ 5)).drew.cell? ⟨b, 7, none⟩ = some (.slice (some ⟨g, 0, none⟩) 0 0) := c2
        have c0 : w.cell? ⟨b, 7, none⟩ = some (.slice (some ⟨g, 0, none⟩) 0 0) := c1
        clear h hbk hown
        go_enter Tryz.func30, Tryz.ntmps30
        go_wp2
        go_region
        all_goals (go_wp2; go_ret; exact ⟨rfl, (Below.drew (Below.refl B w)).alloc hBw _⟩)
      · have hSD : (Builtin.unsafeSliceData_ #[93] 166 #[.slice (some ⟨g, 0, none⟩) 0 cap]).run Tryz.prog w.drew = .ok (.pointer (some ⟨g, 0, none⟩)) w.drew :=
          Lib.run_unsafeSliceData_row _ _ _ _ _ _ hc0
        clear hc0 h hbk hown
        go_enter Tryz.func30, Tryz.ntmps30
        go_wp2
        go_region
        all_goals (go_wp2; go_ret; exact ⟨rfl, Below.drew (Below.refl B w)⟩)
    · have hl0 : l.length ≠ 0 := by simpa using h0
      have hSD : (Builtin.unsafeSliceData_ #[93] 166 #[.slice (some ⟨g, 0, none⟩) l.length cap]).run Tryz.prog w.drew = .ok (.pointer (some ⟨g, 0, none⟩)) w.drew :=
        Lib.run_unsafeSliceData_row _ _ _ _ _ _ (by omega)
      have hUS : (Builtin.unsafeString_ #[166, 3] 9 #[.pointer (some ⟨g, 0, none⟩), .int .i64 l.length]).run Tryz.prog w.drew = .ok (.string ⟨l.toArray⟩) (w.drew.freeze ⟨g, 0, none⟩ l.length) := by
        refine Lib.run_unsafeString_row w.drew 166 3 9 5 Tryz.underlying166 (by kernel_rfl) g cur.size (by have hg' : w.drew.heap[g]? = some (.cells cur 5 (0, 0)) := hg; simp [World.shape?, hg']) l h0 (by omega) (by unfold maxLen at hcm; omega) ?_
        intro j x hx
        exact hown.cells (g := g) rfl j (.int .u8 x.toNat) (by simp [Lib.byteCells, hx])
      clear h hbk hown
      go_enter Tryz.func30, Tryz.ntmps30
      go_wp2
      go_region
      all_goals (go_wp2; go_ret; exact ⟨rfl, Lib.below_freeze (Below.drew (Below.refl B w)) (p := ⟨g, 0, none⟩) hbg _⟩)
end Go.Proofs.YtplaohmdllindaaGreatDoor
