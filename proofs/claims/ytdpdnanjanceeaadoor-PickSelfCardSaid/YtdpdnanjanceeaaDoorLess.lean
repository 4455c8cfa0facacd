/- chain.less. -/
import Derived.Test.YtdpdnanjanceeaaDoorTagRow
namespace Go.Proofs.YtdpdnanjanceeaaDoor
open Go.RowKit

theorem StrsIn.front {w : World} {A : Option Addr} {vs : List ByteArray} (h : StrsIn w A vs) (m : Nat) : StrsIn w A (vs.take m) := by
  rcases h with h | ⟨bk, o, hA, hc⟩
  · subst h; exact .inl (by simp)
  · refine .inr ⟨bk, o, hA, fun j x hx => hc j x ?_⟩
    rw [List.getElem?_take] at hx
    split at hx
    · exact hx
    · cases hx
def strNe (s : ByteArray) : Prop := s.data.toList.isEmpty = false
theorem ne_facts {s : ByteArray} (h : s.data.toList.isEmpty = false) : ¬ s.toList = [] ∧ s.toList.isEmpty = false := by
  have h1 : ¬ s.toList = [] := by rw [Lib.toList_data]; intro hq; rw [hq] at h; cases h
  exact ⟨h1, by cases hq : s.toList with | nil => exact absurd hq h1 | cons x xl => rfl⟩
theorem emp_facts {s : ByteArray} (h : s.data.toList.isEmpty = true) : s.toList = [] := by rw [Lib.toList_data]; exact List.isEmpty_iff.1 h

theorem wpList_append_n {w : World} {ops : Array Oper} {rest : List Oper} {o : Oper} {a : Act} {Q : Exit → Act → World → Prop} (hgd : o.guard = none) (s x : Operand)
    (ho : o.op = .call { callee := .builtin .append, args := #[s, x], argTypes := #[22, 22] }) {base : Nat} {v : Value} {xs ys : List ByteArray} {A : Option Addr} {m c : Nat} (hm : ys.length = m)
    (hs : a.eval s = v) (hx : a.eval x = .slice A m c) (hown : OwnsS w base v xs) (hy : StrsIn w A ys) (hA : A = none → c = 0) (hb : base ≤ w.heap.size) (hn : xs.length + m ≤ 8000000000000)
    (h : ∀ v' w', OwnsS w' base v' (xs ++ ys) → Off v.ownBlock.toList w w' → wpList Tryd.prog ops Q rest (a.put o.dst v') w') : wpList Tryd.prog ops Q (o :: rest) a w := by
  subst hm
  exact wpList_append_many hgd s x ho hs hx hown hy hA hb hn h

theorem bel_fin {B : Nat} {a b c : World} (h : Below B a b) (k : Below B b c) : Below B a c := h.trans k

set_option maxHeartbeats 1000000 in
theorem less_vs (t : TagD) (m : Nat) (w : World) (h : t.ok w) (hm : t.c.vs.length = m + 1) (h3 : m ≤ 1000) :
    Calls Tryd.prog 44 #[t.val] w fun e w' => ∃ t' : TagD, t'.c = { t.c with vs := t.c.vs.dropLast } ∧ e = .returned (.tuple #[t'.val, .bool true]) ∧ t'.ok w' ∧ Below w.heap.size w w' := by
  obtain ⟨⟨l, s, r, vs⟩, A, n⟩ := t
  simp only [TagD.val] at hm ⊢
  have hd : vs.dropLast = vs.take m := by rw [List.dropLast_eq_take, hm]; rfl
  rw [hm, hd]
  have hlen : (vs.take m).length = m := by rw [List.length_take]; omega
  have hX := h.1.strs.front m
  have hA : A = none → n = 0 := h.2.1
  have hn : m + 1 ≤ n := by have := h.2.2; simp only at this; omega
  generalize vs.take m = us at *
  clear h hd
  have HX := Lib.hid hX
  have HA := Lib.hid hA
  have HL := Lib.hid hlen
  clear hX hA hlen hm
  have HLIT : Hid (∀ W : World, W.heap.size = w.heap.size + 1 + 1 → OwnsS (W.alloc (.cells #[] 9)) (w.heap.size + 1 + 1) (.slice (some ⟨w.heap.size + 1 + 1, 0, none⟩) 0 0) []) := Lib.hid fun W hW => by
    have := OwnsS.lit W (base := w.heap.size + 1 + 1) (by omega)
    rw [hW] at this
    exact this
  go_enter Tryd.func44, Tryd.ntmps44
  go_wp2_with
    (at_builtin
     refine wpList_append_n rfl _ _ rfl HL.out (xs := []) rfl rfl (HLIT.out _ (by simp)) (((HX.out.alloc _).alloc _).alloc _) HA.out (by first | (simp; done) | (simp; omega)) (by first | (simp; done) | (simp; omega)) ?_
     intro v1 w1 ho1 hf1
     have hf2 : Off [w.heap.size + 1 + 1] _ w1 := hf1
     have ho2 : OwnsS w1 (w.heap.size + 1 + 1) v1 us := by simpa using ho1
     have hb1 : Below w.heap.size w w1 := ((((Below.refl w.heap.size w).alloc (Nat.le_refl _) _).alloc (by simp) _).alloc (by simp; omega) _).trans (hf2.toBelow (by simp; omega) (by simp; omega))
     have hs1 : w.heap.size + 1 + 1 < w1.heap.size := by have := hf2.size; simp at this; omega
     have x0 : w1.cell? ⟨w.heap.size, 0, none⟩ = some (.string l) := hf2.cell (by go_simp) (by first | (simp; done) | (simp; omega))
     have x1 : w1.cell? ⟨w.heap.size, 1, none⟩ = some (.string s) := hf2.cell (by go_simp) (by first | (simp; done) | (simp; omega))
     have x2 : w1.cell? ⟨w.heap.size, 2, none⟩ = some (.string r) := hf2.cell (by go_simp) (by first | (simp; done) | (simp; omega))
     have x3 : w1.cell? ⟨w.heap.size, 3, none⟩ = some (.slice A (m + 1) n) := hf2.cell (by go_simp) (by first | (simp; done) | (simp; omega))
     have xf0 : w1.frozen? ⟨w.heap.size, 0, none⟩ = false := (hf2.frozen (by first | (simp; done) | (simp; omega)) (by first | (simp; done) | (simp; omega))).trans (by go_simp)
     have xf1 : w1.frozen? ⟨w.heap.size, 1, none⟩ = false := (hf2.frozen (by first | (simp; done) | (simp; omega)) (by first | (simp; done) | (simp; omega))).trans (by go_simp)
     have xf2 : w1.frozen? ⟨w.heap.size, 2, none⟩ = false := (hf2.frozen (by first | (simp; done) | (simp; omega)) (by first | (simp; done) | (simp; omega))).trans (by go_simp)
     have xf3 : w1.frozen? ⟨w.heap.size, 3, none⟩ = false := (hf2.frozen (by first | (simp; done) | (simp; omega)) (by first | (simp; done) | (simp; omega))).trans (by go_simp)
     have y0 : w1.cell? ⟨w.heap.size + 1, 0, none⟩ = some (.string ⟨#[]⟩) := hf2.cell (by go_simp) (by first | (simp; done) | (simp; omega))
     have y1 : w1.cell? ⟨w.heap.size + 1, 1, none⟩ = some (.string ⟨#[]⟩) := hf2.cell (by go_simp) (by first | (simp; done) | (simp; omega))
     have y2 : w1.cell? ⟨w.heap.size + 1, 2, none⟩ = some (.string ⟨#[]⟩) := hf2.cell (by go_simp) (by first | (simp; done) | (simp; omega))
     have y3 : w1.cell? ⟨w.heap.size + 1, 3, none⟩ = some (.slice none 0 0) := hf2.cell (by go_simp) (by first | (simp; done) | (simp; omega))
     have yf0 : w1.frozen? ⟨w.heap.size + 1, 0, none⟩ = false := (hf2.frozen (by first | (simp; done) | (simp; omega)) (by first | (simp; done) | (simp; omega))).trans (by go_simp)
     have yf1 : w1.frozen? ⟨w.heap.size + 1, 1, none⟩ = false := (hf2.frozen (by first | (simp; done) | (simp; omega)) (by first | (simp; done) | (simp; omega))).trans (by go_simp)
     have yf2 : w1.frozen? ⟨w.heap.size + 1, 2, none⟩ = false := (hf2.frozen (by first | (simp; done) | (simp; omega)) (by first | (simp; done) | (simp; omega))).trans (by go_simp)
     have yf3 : w1.frozen? ⟨w.heap.size + 1, 3, none⟩ = false := (hf2.frozen (by first | (simp; done) | (simp; omega)) (by first | (simp; done) | (simp; omega))).trans (by go_simp)
     obtain ⟨A1, c1, rfl, k1, _, k2⟩ := ho2.form
     have HO := Lib.hid ho2
     have HB := Lib.hid hb1
     have HK := Lib.hid k1
     have HK2 := Lib.hid k2
     clear ho1 hf1 hf2 ho2 hb1 k1 k2)
  exact bodyPost_ret (v := .tuple #[tagV l s r A1 us.length c1, .bool true]) (by simp [results, Tryd.results44, go_sem, World.cell?_setCell_same, World.cell?_setCell_other, x0, x1, x2, x3, y0, y1, y2, y3]) rfl
    ⟨⟨⟨l, s, r, us⟩, A1, c1⟩, rfl, rfl, ⟨(OwnsS.off (l := [w.heap.size, w.heap.size + 1]) HO.out (by repeat (first | exact Off.refl _ _ | refine Off.setCell ?_ _ _ (by simp))) (fun k hk => by have := (HK2.out k hk).1; simp; omega)).typed, HK.out, HO.out.cap.2⟩, bel_fin HB.out ((by (repeat (first | with_reducible exact Below.refl _ _ | with_reducible refine bel_set ?_ ?_ | with_reducible refine bel_alloc ?_ ?_ | with_reducible refine Below.drew ?_ | with_reducible refine bel_drewN _ ?_ | with_reducible refine bel_call ?_ (by assumption) ?_)); all_goals (first | (simp; done) | omega | (simp; omega))))⟩


set_option maxHeartbeats 1000000 in
theorem less_r (l s r : ByteArray) (A : Option Addr) (n : Nat) (w : World) (hr : r.data.toList.isEmpty = false) :
    Calls Tryd.prog 44 #[tagV l s r A 0 n] w fun e w' => e = .returned (.tuple #[tagV l s ⟨#[]⟩ A 0 n, .bool true]) ∧ Below w.heap.size w w' := by
  obtain ⟨r1, r2⟩ := ne_facts hr
  clear hr
  go_enter Tryd.func44, Tryd.ntmps44
  go_wp2_with fail
  exact bodyPost_ret (v := .tuple #[tagV l s ⟨#[]⟩ A 0 n, .bool true]) (by simp [results, Tryd.results44, go_sem]) rfl ⟨rfl, (by (repeat (first | with_reducible exact Below.refl _ _ | with_reducible refine bel_set ?_ ?_ | with_reducible refine bel_alloc ?_ ?_ | with_reducible refine Below.drew ?_ | with_reducible refine bel_drewN _ ?_ | with_reducible refine bel_call ?_ (by assumption) ?_)); all_goals (first | (simp; done) | omega | (simp; omega)))⟩

set_option maxHeartbeats 1000000 in
theorem less_s (l s r : ByteArray) (A : Option Addr) (n : Nat) (w : World) (hr : r.data.toList.isEmpty = true) (hs : s.data.toList.isEmpty = false) :
    Calls Tryd.prog 44 #[tagV l s r A 0 n] w fun e w' => e = .returned (.tuple #[tagV l ⟨#[]⟩ r A 0 n, .bool true]) ∧ Below w.heap.size w w' := by
  have r1 := emp_facts hr
  obtain ⟨s1, s2⟩ := ne_facts hs
  clear hr hs
  go_enter Tryd.func44, Tryd.ntmps44
  go_wp2_with fail
  exact bodyPost_ret (v := .tuple #[tagV l ⟨#[]⟩ r A 0 n, .bool true]) (by simp [results, Tryd.results44, go_sem]) rfl ⟨rfl, (by (repeat (first | with_reducible exact Below.refl _ _ | with_reducible refine bel_set ?_ ?_ | with_reducible refine bel_alloc ?_ ?_ | with_reducible refine Below.drew ?_ | with_reducible refine bel_drewN _ ?_ | with_reducible refine bel_call ?_ (by assumption) ?_)); all_goals (first | (simp; done) | omega | (simp; omega)))⟩

set_option maxHeartbeats 1000000 in
theorem less_no (l s r : ByteArray) (A : Option Addr) (n : Nat) (w : World) (hr : r.data.toList.isEmpty = true) (hs : s.data.toList.isEmpty = true) :
    Calls Tryd.prog 44 #[tagV l s r A 0 n] w fun e w' => e = .returned (.tuple #[tagV l s r A 0 n, .bool false]) ∧ Below w.heap.size w w' := by
  have r1 := emp_facts hr
  have s1 := emp_facts hs
  clear hr hs
  go_enter Tryd.func44, Tryd.ntmps44
  go_wp2_with fail
  exact bodyPost_ret (v := .tuple #[tagV l s r A 0 n, .bool false]) (by simp [results, Tryd.results44, go_sem]) rfl ⟨rfl, (by (repeat (first | with_reducible exact Below.refl _ _ | with_reducible refine bel_set ?_ ?_ | with_reducible refine bel_alloc ?_ ?_ | with_reducible refine Below.drew ?_ | with_reducible refine bel_drewN _ ?_ | with_reducible refine bel_call ?_ (by assumption) ?_)); all_goals (first | (simp; done) | omega | (simp; omega)))⟩

def LessRes (t : TagD) (e : Ending) (w' : World) : Prop :=
  (∀ c', lessC t.c = some c' → ∃ t' : TagD, t'.c = c' ∧ e = .returned (.tuple #[t'.val, .bool true]) ∧ t'.ok w') ∧ (lessC t.c = none → e = .returned (.tuple #[t.val, .bool false]))
theorem chain_less (t : TagD) (w : World) (h : t.ok w) (h3 : t.c.vs.length ≤ 1000) :
    Calls Tryd.prog 44 #[t.val] w fun e w' => LessRes t e w' ∧ Below w.heap.size w w' := by
  by_cases hv : t.c.vs = []
  · obtain ⟨⟨l, s, r, vs⟩, A, n⟩ := t
    simp only at hv
    subst hv
    have ok' : ∀ (l s r : ByteArray) (w' : World), (⟨⟨l, s, r, []⟩, A, n⟩ : TagD).ok w' := fun _ _ _ w' => ⟨.inl rfl, h.2.1, Nat.zero_le _⟩
    cases hr : r.data.toList.isEmpty
    · have hl : lessC ⟨l, s, r, []⟩ = some ⟨l, s, ⟨#[]⟩, []⟩ := by unfold lessC; rw [if_neg (by simp), if_pos hr]
      refine (less_r l s r A n w hr).mono ?_
      rintro e w' ⟨rfl, hb⟩
      exact ⟨⟨fun c' hc => by
        rw [hl] at hc
        cases hc
        exact ⟨⟨⟨l, s, ⟨#[]⟩, []⟩, A, n⟩, rfl, rfl, ok' _ _ _ _⟩, fun hc => by rw [hl] at hc; cases hc⟩, hb⟩
    · cases hs : s.data.toList.isEmpty
      · have hl : lessC ⟨l, s, r, []⟩ = some ⟨l, ⟨#[]⟩, r, []⟩ := by unfold lessC; rw [if_neg (by simp), if_neg (by rw [hr]; decide), if_pos hs]
        refine (less_s l s r A n w hr hs).mono ?_
        rintro e w' ⟨rfl, hb⟩
        exact ⟨⟨fun c' hc => by
          rw [hl] at hc
          cases hc
          exact ⟨⟨⟨l, ⟨#[]⟩, r, []⟩, A, n⟩, rfl, rfl, ok' _ _ _ _⟩, fun hc => by rw [hl] at hc; cases hc⟩, hb⟩
      · have hl : lessC ⟨l, s, r, []⟩ = none := by unfold lessC; rw [if_neg (by simp), if_neg (by rw [hr]; decide), if_neg (by rw [hs]; decide)]
        refine (less_no l s r A n w hr hs).mono ?_
        rintro e w' ⟨rfl, hb⟩
        exact ⟨⟨(fun c' hc => by rw [hl] at hc; cases hc), fun _ => rfl⟩, hb⟩
  · have hp : 0 < t.c.vs.length := List.length_pos_iff.2 hv
    have hl : lessC t.c = some { t.c with vs := t.c.vs.dropLast } := by unfold lessC; rw [if_pos hv]
    refine (less_vs t (t.c.vs.length - 1) w h (by omega) (by omega)).mono ?_
    rintro e w' ⟨t', h1, h2, h3, hb⟩
    exact ⟨⟨fun c' hc => by
      rw [hl] at hc
      cases hc
      exact ⟨t', h1, h2, h3⟩, fun hc => by rw [hl] at hc; cases hc⟩, hb⟩
end Go.Proofs.YtdpdnanjanceeaaDoor
