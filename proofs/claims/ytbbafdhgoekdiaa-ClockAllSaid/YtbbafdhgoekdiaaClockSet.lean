/- clock.Cache: what a store makes of it. -/
import Derived.Test.YtbbafdhgoekdiaaClock
namespace Go.Proofs.Ytbbafdhgoekdiaa
open Go.RowKit

theorem CacheAt.setK {w : World} {cb pb n h : Nat} {S : Cch} (c : CacheAt w cb pb n S h) {i : Nat} (hi : i < n) (x : ByteArray) :
    CacheAt (w.setCell ⟨pb, i * 4, none⟩ (.string x)) cb pb n { S with K := fun j => if j = i then x else S.K j } h := by
  have hne := c.ne
  refine ⟨c.n0, c.n1, c.hh, c.ne, cell_other c.head (by intro e; simp only [Addr.mk.injEq] at e; omega), cell_other c.hand (by intro e; simp only [Addr.mk.injEq] at e; omega), ?_, ?_, ?_, ?_, fun o => by rw [World.frozen?_setCell]; exact c.fc o, fun o => by rw [World.frozen?_setCell]; exact c.fp o⟩
  · intro j hj
    show _ = some (Value.string (if j = i then x else S.K j))
    by_cases e : j = i
    · subst e
      rw [if_pos rfl]
      exact cell_same (c.k j hj)
    · rw [if_neg e]
      exact cell_other (c.k j hj) (by intro e; simp only [Addr.mk.injEq] at e; omega)
  · exact fun j hj => cell_other (c.v j hj) (by intro e; simp only [Addr.mk.injEq] at e; omega)
  · exact fun j hj => cell_other (c.u j hj) (by intro e; simp only [Addr.mk.injEq] at e; omega)
  · exact fun j hj => cell_other (c.m j hj) (by intro e; simp only [Addr.mk.injEq] at e; omega)
theorem CacheAt.setV {w : World} {cb pb n h : Nat} {S : Cch} (c : CacheAt w cb pb n S h) {i : Nat} (hi : i < n) (x : ByteArray) :
    CacheAt (w.setCell ⟨pb, i * 4 + 1, none⟩ (.string x)) cb pb n { S with V := fun j => if j = i then x else S.V j } h := by
  have hne := c.ne
  refine ⟨c.n0, c.n1, c.hh, c.ne, cell_other c.head (by intro e; simp only [Addr.mk.injEq] at e; omega), cell_other c.hand (by intro e; simp only [Addr.mk.injEq] at e; omega), ?_, ?_, ?_, ?_, fun o => by rw [World.frozen?_setCell]; exact c.fc o, fun o => by rw [World.frozen?_setCell]; exact c.fp o⟩
  · exact fun j hj => cell_other (c.k j hj) (by intro e; simp only [Addr.mk.injEq] at e; omega)
  · intro j hj
    show _ = some (Value.string (if j = i then x else S.V j))
    by_cases e : j = i
    · subst e
      rw [if_pos rfl]
      exact cell_same (c.v j hj)
    · rw [if_neg e]
      exact cell_other (c.v j hj) (by intro e; simp only [Addr.mk.injEq] at e; omega)
  · exact fun j hj => cell_other (c.u j hj) (by intro e; simp only [Addr.mk.injEq] at e; omega)
  · exact fun j hj => cell_other (c.m j hj) (by intro e; simp only [Addr.mk.injEq] at e; omega)
theorem CacheAt.setU {w : World} {cb pb n h : Nat} {S : Cch} (c : CacheAt w cb pb n S h) {i : Nat} (hi : i < n) (x : Bool) :
    CacheAt (w.setCell ⟨pb, i * 4 + 2, none⟩ (.bool x)) cb pb n { S with U := fun j => if j = i then x else S.U j } h := by
  have hne := c.ne
  refine ⟨c.n0, c.n1, c.hh, c.ne, cell_other c.head (by intro e; simp only [Addr.mk.injEq] at e; omega), cell_other c.hand (by intro e; simp only [Addr.mk.injEq] at e; omega), ?_, ?_, ?_, ?_, fun o => by rw [World.frozen?_setCell]; exact c.fc o, fun o => by rw [World.frozen?_setCell]; exact c.fp o⟩
  · exact fun j hj => cell_other (c.k j hj) (by intro e; simp only [Addr.mk.injEq] at e; omega)
  · exact fun j hj => cell_other (c.v j hj) (by intro e; simp only [Addr.mk.injEq] at e; omega)
  · intro j hj
    show _ = some (Value.bool (if j = i then x else S.U j))
    by_cases e : j = i
    · subst e
      rw [if_pos rfl]
      exact cell_same (c.u j hj)
    · rw [if_neg e]
      exact cell_other (c.u j hj) (by intro e; simp only [Addr.mk.injEq] at e; omega)
  · exact fun j hj => cell_other (c.m j hj) (by intro e; simp only [Addr.mk.injEq] at e; omega)
theorem CacheAt.setM {w : World} {cb pb n h : Nat} {S : Cch} (c : CacheAt w cb pb n S h) {i : Nat} (hi : i < n) (x : Bool) :
    CacheAt (w.setCell ⟨pb, i * 4 + 3, none⟩ (.bool x)) cb pb n { S with M := fun j => if j = i then x else S.M j } h := by
  have hne := c.ne
  refine ⟨c.n0, c.n1, c.hh, c.ne, cell_other c.head (by intro e; simp only [Addr.mk.injEq] at e; omega), cell_other c.hand (by intro e; simp only [Addr.mk.injEq] at e; omega), ?_, ?_, ?_, ?_, fun o => by rw [World.frozen?_setCell]; exact c.fc o, fun o => by rw [World.frozen?_setCell]; exact c.fp o⟩
  · exact fun j hj => cell_other (c.k j hj) (by intro e; simp only [Addr.mk.injEq] at e; omega)
  · exact fun j hj => cell_other (c.v j hj) (by intro e; simp only [Addr.mk.injEq] at e; omega)
  · exact fun j hj => cell_other (c.u j hj) (by intro e; simp only [Addr.mk.injEq] at e; omega)
  · intro j hj
    show _ = some (Value.bool (if j = i then x else S.M j))
    by_cases e : j = i
    · subst e
      rw [if_pos rfl]
      exact cell_same (c.m j hj)
    · rw [if_neg e]
      exact cell_other (c.m j hj) (by intro e; simp only [Addr.mk.injEq] at e; omega)
theorem CacheAt.setHand {w : World} {cb pb n h : Nat} {S : Cch} (c : CacheAt w cb pb n S h) {g : Nat} (hg : g < n) : CacheAt (w.setCell ⟨cb, 1, none⟩ (.int .i64 g)) cb pb n S g := by
  have hne := c.ne
  refine ⟨c.n0, c.n1, hg, c.ne, cell_other c.head (by intro e; simp only [Addr.mk.injEq] at e; omega), cell_same c.hand, ?_, ?_, ?_, ?_, fun o => by rw [World.frozen?_setCell]; exact c.fc o, fun o => by rw [World.frozen?_setCell]; exact c.fp o⟩
  · exact fun j hj => cell_other (c.k j hj) (by intro e; simp only [Addr.mk.injEq] at e; omega)
  · exact fun j hj => cell_other (c.v j hj) (by intro e; simp only [Addr.mk.injEq] at e; omega)
  · exact fun j hj => cell_other (c.u j hj) (by intro e; simp only [Addr.mk.injEq] at e; omega)
  · exact fun j hj => cell_other (c.m j hj) (by intro e; simp only [Addr.mk.injEq] at e; omega)

/-- A place written whole. -/
def Cch.put (S : Cch) (i : Nat) (key val : ByteArray) : Cch :=
  ⟨fun j => if j = i then key else S.K j, fun j => if j = i then val else S.V j, fun j => if j = i then true else S.U j, fun j => if j = i then true else S.M j⟩
def Cch.mark (S : Cch) (i : Nat) (x : Bool) : Cch := { S with M := fun j => if j = i then x else S.M j }

theorem get_no (key : ByteArray) (cb pb n h : Nat) (S : Cch) (w : World) (hc : CacheAt w cb pb n S h) (hr : ∀ j, j < n → isAt S key j = false) :
    Calls Try.prog 13 #[.pointer (some ⟨cb, 0, none⟩), .string key] w fun e w' => e = .returned (.tuple #[.string ⟨#[]⟩, .bool false]) ∧ Below w.heap.size w w' := by
  have H := Lib.hid hc
  have lc := hc.lcb
  have HR := Lib.hid hr
  clear hc hr
  go_enter Try.func13, Try.ntmps13
  go_wp2_with fail
  refine (at_gen (-1) key cb pb n h S _ H.out (.inr ⟨rfl, HR.out⟩)).mono ?_
  rintro e w1 ⟨rfl, hb1⟩
  have s1 := hb1.size
  go_wp2_with fail
  go_ret2
  exact ⟨rfl, (by (repeat (first | with_reducible exact Below.refl _ _ | with_reducible refine bel_set ?_ ?_ | with_reducible refine bel_alloc ?_ ?_ | with_reducible refine Below.drew ?_ | with_reducible refine bel_drewN _ ?_ | with_reducible refine bel_call ?_ (by assumption) ?_)); all_goals (first | (simp; done) | omega | (simp; omega)))⟩

theorem get_yes (i : Nat) (key : ByteArray) (cb pb n h : Nat) (S : Cch) (w : World) (hc : CacheAt w cb pb n S h) (hi : i < n) (h1 : isAt S key i = true) (h2 : ∀ j, j < i → isAt S key j = false) :
    Calls Try.prog 13 #[.pointer (some ⟨cb, 0, none⟩), .string key] w fun e w' => e = .returned (.tuple #[.string (S.V i), .bool true]) ∧ CacheAt w' cb pb n (S.mark i true) h ∧ Off [cb, pb] w w' := by
  have H := Lib.hid hc
  have lc := hc.lcb
  have lp := hc.lpb
  have H1 := Lib.hid h1
  have H2 := Lib.hid h2
  clear hc h1 h2
  go_enter Try.func13, Try.ntmps13
  go_wp2_with fail
  refine (at_gen i key cb pb n h S _ H.out (.inl ⟨i, hi, rfl, H1.out, H2.out⟩)).mono ?_
  rintro e w1 ⟨rfl, hb1⟩
  have s1 := hb1.size
  have H3 := Lib.hid (H.out.below hb1)
  have H4 := Lib.hid (H3.out.setM hi true)
  have c0 := H3.out.head
  have cm := H3.out.m i hi
  have fm := H3.out.fp (i * 4 + 3)
  have d0 := H4.out.head
  have dv := H4.out.v i hi
  simp only at dv
  have i1 : (0 : Int) ≤ (i : Int) := by omega
  have i2 : (i : Int) < (n : Int) := by omega
  go_wp2_with fail
  go_ret2
  exact ⟨rfl, H4.out, ((Off.refl _ _).below hb1 (Nat.le_refl _)).setCell _ _ (by simp)⟩

end Go.Proofs.Ytbbafdhgoekdiaa
