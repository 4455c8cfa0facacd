/- The rules of languages as plain data. No program stands here. -/
import Derived.Test.YtkklemhhimcahaaGreatDoorOpenFive
import Derived.Maps.Views
namespace Go.Proofs.YtkklemhhimcahaaGreatDoor
open Go Go.Maps

abbrev VD := DataW Value
def enS : SetC := ⟨⟨#[]⟩, ⟨#[105, 32, 61, 32, 49, 32, 97, 110, 100, 32, 118, 32, 61, 32, 48]⟩, ⟨#[]⟩, ⟨#[]⟩, ⟨#[]⟩⟩
def deS : SetC := ⟨⟨#[]⟩, ⟨#[105, 32, 61, 32, 49, 32, 97, 110, 100, 32, 118, 32, 61, 32, 48]⟩, ⟨#[]⟩, ⟨#[]⟩, ⟨#[]⟩⟩
def frS : SetC := ⟨⟨#[]⟩, ⟨#[105, 32, 61, 32, 48, 44, 49]⟩, ⟨#[]⟩, ⟨#[]⟩, ⟨#[]⟩⟩
def jaS : SetC := ⟨⟨#[]⟩, ⟨#[]⟩, ⟨#[]⟩, ⟨#[]⟩, ⟨#[]⟩⟩
def plS : SetC := ⟨⟨#[]⟩, ⟨#[105, 32, 61, 32, 49, 32, 97, 110, 100, 32, 118, 32, 61, 32, 48]⟩, ⟨#[]⟩, ⟨#[118, 32, 61, 32, 48, 32, 97, 110, 100, 32, 105, 32, 37, 32, 49, 48, 32, 61, 32, 50, 46, 46, 52, 32, 97, 110, 100, 32, 105, 32, 37, 32, 49, 48, 48, 32, 33, 61, 32, 49, 50, 46, 46, 49, 52]⟩, ⟨#[118, 32, 61, 32, 48, 32, 97, 110, 100, 32, 105, 32, 33, 61, 32, 49, 32, 97, 110, 100, 32, 105, 32, 37, 32, 49, 48, 32, 61, 32, 48, 46, 46, 49, 32, 111, 114, 32, 118, 32, 61, 32, 48, 32, 97, 110, 100, 32, 105, 32, 37, 32, 49, 48, 32, 61, 32, 53, 46, 46, 57, 32, 111, 114, 32, 118, 32, 61, 32, 48, 32, 97, 110, 100, 32, 105, 32, 37, 32, 49, 48, 48, 32, 61, 32, 49, 50, 46, 46, 49, 52]⟩⟩
def ruS : SetC := ⟨⟨#[]⟩, ⟨#[118, 32, 61, 32, 48, 32, 97, 110, 100, 32, 105, 32, 37, 32, 49, 48, 32, 61, 32, 49, 32, 97, 110, 100, 32, 105, 32, 37, 32, 49, 48, 48, 32, 33, 61, 32, 49, 49]⟩, ⟨#[]⟩, ⟨#[118, 32, 61, 32, 48, 32, 97, 110, 100, 32, 105, 32, 37, 32, 49, 48, 32, 61, 32, 50, 46, 46, 52, 32, 97, 110, 100, 32, 105, 32, 37, 32, 49, 48, 48, 32, 33, 61, 32, 49, 50, 46, 46, 49, 52]⟩, ⟨#[118, 32, 61, 32, 48, 32, 97, 110, 100, 32, 105, 32, 37, 32, 49, 48, 32, 61, 32, 48, 32, 111, 114, 32, 118, 32, 61, 32, 48, 32, 97, 110, 100, 32, 105, 32, 37, 32, 49, 48, 32, 61, 32, 53, 46, 46, 57, 32, 111, 114, 32, 118, 32, 61, 32, 48, 32, 97, 110, 100, 32, 105, 32, 37, 32, 49, 48, 48, 32, 61, 32, 49, 49, 46, 46, 49, 52]⟩⟩
def arS : SetC := ⟨⟨#[110, 32, 61, 32, 48]⟩, ⟨#[110, 32, 61, 32, 49]⟩, ⟨#[110, 32, 61, 32, 50]⟩, ⟨#[110, 32, 37, 32, 49, 48, 48, 32, 61, 32, 51, 46, 46, 49, 48]⟩, ⟨#[110, 32, 37, 32, 49, 48, 48, 32, 61, 32, 49, 49, 46, 46, 57, 57]⟩⟩
def lvS : SetC := ⟨⟨#[110, 32, 37, 32, 49, 48, 32, 61, 32, 48, 32, 111, 114, 32, 110, 32, 37, 32, 49, 48, 48, 32, 61, 32, 49, 49, 46, 46, 49, 57, 32, 111, 114, 32, 118, 32, 61, 32, 50, 32, 97, 110, 100, 32, 102, 32, 37, 32, 49, 48, 48, 32, 61, 32, 49, 49, 46, 46, 49, 57]⟩, ⟨#[110, 32, 37, 32, 49, 48, 32, 61, 32, 49, 32, 97, 110, 100, 32, 110, 32, 37, 32, 49, 48, 48, 32, 33, 61, 32, 49, 49, 32, 111, 114, 32, 118, 32, 61, 32, 50, 32, 97, 110, 100, 32, 102, 32, 37, 32, 49, 48, 32, 61, 32, 49, 32, 97, 110, 100, 32, 102, 32, 37, 32, 49, 48, 48, 32, 33, 61, 32, 49, 49, 32, 111, 114, 32, 118, 32, 33, 61, 32, 50, 32, 97, 110, 100, 32, 102, 32, 37, 32, 49, 48, 32, 61, 32, 49]⟩, ⟨#[]⟩, ⟨#[]⟩, ⟨#[]⟩⟩
def SetC.val (s : SetC) : Value := setV s.s0 s.s1 s.s2 s.s3 s.s4
def noS : SetC := ⟨⟨#[]⟩, ⟨#[]⟩, ⟨#[]⟩, ⟨#[]⟩, ⟨#[]⟩⟩
def langL : List (List UInt8 × SetC) := [([101, 110], enS), ([100, 101], deS), ([102, 114], frS), ([106, 97], jaS), ([112, 108], plS), ([114, 117], ruS), ([97, 114], arS), ([108, 118], lvS)]
def langOf (s : List UInt8) : Option SetC := (langL.find? (fun p => decide (p.1 = s))).map (·.2)
def putAll (D : VD) (l : List (List UInt8 × SetC)) : VD := l.foldl (fun D p => D.put (.string p.1) (.held p.2.val)) D
theorem isMap_put {H : Type} {D : DataW H} (h : IsMap D) (k : Lit) (d : DataW H) : IsMap (D.put k d) := by
  obtain ⟨es, rfl⟩ := h
  exact ⟨_, rfl⟩
theorem strKey (l : List UInt8) : WideAt.IsKeyLit (.string l) := by simp [WideAt.IsKeyLit]
theorem putAll_none (s : List UInt8) (z : VD) : ∀ (l : List (List UInt8 × SetC)) (D : VD), (∀ p ∈ l, p.1 ≠ s) → (putAll D l).atKey (.string s) z = D.atKey (.string s) z ∧ has (putAll D l) (.string s) = has D (.string s)
  | [], D, _ => ⟨rfl, rfl⟩
  | p :: l, D, h => by
    have hp : Lit.string s ≠ .string p.1 := fun e => h p (by simp) (by injection e with e; exact e.symm)
    obtain ⟨a, b⟩ := putAll_none s z l (D.put (.string p.1) (.held p.2.val)) (fun q hq => h q (List.mem_cons_of_mem _ hq))
    exact ⟨a.trans (atKey_put_other hp _ _), b.trans (has_put_other hp _)⟩
theorem putAll_some (s : List UInt8) (z : VD) : ∀ (l : List (List UInt8 × SetC)) (D : VD), IsMap D → (l.map (·.1)).Nodup → ∀ x, l.find? (fun p => decide (p.1 = s)) = some x → (putAll D l).atKey (.string s) z = .held x.2.val ∧ has (putAll D l) (.string s) = true
  | [], D, _, _, x, hx => by cases hx
  | p :: l, D, hD, hn, x, hx => by
    rw [List.map_cons, List.nodup_cons] at hn
    by_cases hp : p.1 = s
    · rw [List.find?_cons_of_pos (by simpa using hp)] at hx
      cases hx
      have hl : ∀ q ∈ l, q.1 ≠ s := fun q hq e => hn.1 (by rw [hp, ← e]; exact List.mem_map_of_mem hq)
      obtain ⟨a, b⟩ := putAll_none s z l (D.put (.string p.1) (.held p.2.val)) hl
      refine ⟨a.trans ?_, b.trans ?_⟩
      · rw [hp]; exact atKey_put_same hD (strKey s) _ _
      · rw [hp]; exact has_put_same hD (strKey s) _
    · rw [List.find?_cons_of_neg (by simpa using hp)] at hx
      exact putAll_some s z l _ (isMap_put hD _ _) hn.2 x hx
def langD : VD := putAll (.map []) langL
theorem langD_some {s : List UInt8} {x : SetC} (h : langOf s = some x) (z : VD) : langD.atKey (.string s) z = .held x.val ∧ has langD (.string s) = true := by
  unfold langOf at h
  obtain ⟨p, hp, rfl⟩ := Option.map_eq_some_iff.1 h
  exact putAll_some s z langL (.map []) ⟨_, rfl⟩ (by decide) p hp
theorem langD_none {s : List UInt8} (h : langOf s = none) (z : VD) : langD.atKey (.string s) z = z ∧ has langD (.string s) = false := by
  unfold langOf at h
  have h' := Option.map_eq_none_iff.1 h
  rw [List.find?_eq_none] at h'
  obtain ⟨a, b⟩ := putAll_none s z langL (.map []) (fun p hp e => by have := h' p hp; simp [e] at this)
  exact ⟨a, b⟩
/-- a language is one of these -/
theorem langOf_cases {s : List UInt8} {x : SetC} (h : langOf s = some x) : x = enS ∨ x = deS ∨ x = frS ∨ x = jaS ∨ x = plS ∨ x = ruS ∨ x = arS ∨ x = lvS := by
  unfold langOf at h
  obtain ⟨p, hp, rfl⟩ := Option.map_eq_some_iff.1 h
  have := List.mem_of_find?_eq_some hp
  unfold langL at this
  simp only [List.mem_cons, List.mem_nil_iff, or_false] at this
  rcases this with rfl | rfl | rfl | rfl | rfl | rfl | rfl | rfl <;> simp
end Go.Proofs.YtkklemhhimcahaaGreatDoor
