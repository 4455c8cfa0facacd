/- msg.reader.message at "{a}". -/
import Derived.Test.YthlcjlmaaaappaaGreatDoorMsgReader
import Derived.Test.YthlcjlmaaaappaaGreatDoorAppendG
import Derived.Test.YthlcjlmaaaappaaGreatDoorMsgSize
import Derived.Defers
namespace Go.Proofs.YthlcjlmaaaappaaGreatDoor
open Go.RowKit

structure NodeC where
  kd : Int
  t : ByteArray
  off : Int
  A : Option Addr
  n : Nat
  c : Nat
def NodeC.cells (x : NodeC) : List Value := [.int .i64 x.kd, .string x.t, .int .i64 x.off, .slice x.A x.n x.c]
def kNode : Kind NodeC where
  e := 30
  sl := 23
  size := 4
  bytes := 56
  cells := NodeC.cells
  zero := .agg #[.int .i64 0, .string ⟨#[]⟩, .int .i64 0, .slice none 0 0]
  hsl := Tryz.underlying23
  hi := by
    have h : (Tryz.prog.info? 30).map (fun i => (i.zero, i.size, i.bytes)) = some (some (.agg #[.int .i64 0, .string ⟨#[]⟩, .int .i64 0, .slice none 0 0]), 4, 56) := by kernel_rfl
    obtain ⟨i, hi, h2⟩ := Option.map_eq_some_iff.1 h
    simp only [Prod.mk.injEq] at h2
    exact ⟨i, hi, h2.1, h2.2.1, h2.2.2⟩
  hzs := rfl
  hpos := by decide
  hlen := fun _ => rfl
  hone := fun x u hu => by
    simp only [NodeC.cells, List.mem_cons, List.not_mem_nil, or_false] at hu
    rcases hu with rfl | rfl | rfl | rfl <;> rfl
def nodeA : NodeC := ⟨2, ⟨#[97]⟩, 0, none, 0, 0⟩

def slLeft : Value → Nat
  | .slice _ n _ => 1 - n
  | _ => 0

theorem message_end (b r : Nat) (u : FrameMode) (w : World) (hb : w.cell? ⟨b, 0, none⟩ = some (.pointer (some ⟨r, 0, none⟩))) (h1 : w.cell? ⟨r, 1, none⟩ = some (.int .i64 1)) (hf : w.frozen? ⟨r, 1, none⟩ = false) :
    CallsD Tryz.prog 43 #[.pointer (some ⟨b, 0, none⟩)] u w fun e u' w' => u' = u ∧ (e = .returned (.tuple #[]) ∧ w' = w.setCell ⟨r, 1, none⟩ (.int .i64 0)) := by
  have e1 : IntKind.i64.wrap ((1 : Int) - 1) = 0 := by decide
  go_enter_d Tryz.func43, Tryz.ntmps43
  go_wp2_with fail
  exact bodyPost_end (results_none rfl _ _ _) rfl ⟨rfl, rfl⟩

set_option maxHeartbeats 2000000 in
theorem message_at (r : Nat) (w : World) (h : RdAt w r braceA 0) :
    Calls Tryz.prog 21 #[.pointer (some ⟨r, 0, none⟩), .bool false] w fun e w' => ∃ g c, 1 ≤ c ∧ w.heap.size ≤ g ∧ e = .returned (.slice (some ⟨g, 0, none⟩) 1 c) ∧ NodeAt w' g 2 ⟨#[97]⟩ 0 none 0 0 ∧ RdAt w' r ⟨#[]⟩ 0 ∧ Off [r] w w' := by
  have hmf : ∀ (fn : Fn) (first cap : Array Value) (w : World), (Instr.makeFunc fn first cap).run Tryz.prog w = .ok (.func fn first cap) w := fun _ _ _ _ => rfl
  have e1 : IntKind.i64.wrap ((0 : Int) + 1) = 1 := by decide
  have hlt := lt_of_cell h.1
  have hne : r ≠ w.heap.size := by omega
  have hne2 : w.heap.size ≠ r := by omega
  have hb1 : Below w.heap.size w (w.alloc (.cells #[.pointer (some ⟨r, 0, none⟩)] 59)) := (Below.refl _ _).alloc (Nat.le_refl _) _
  obtain ⟨a0, a1, a2, a3⟩ := h.below hb1
  have hb2 : Below (w.setCell ⟨r, 1, none⟩ (.int .i64 1)).heap.size (w.setCell ⟨r, 1, none⟩ (.int .i64 1)) ((w.setCell ⟨r, 1, none⟩ (.int .i64 1)).alloc (.cells #[.pointer (some ⟨r, 0, none⟩)] 59)) := (Below.refl _ _).alloc (Nat.le_refl _) _
  have g0 : ((w.setCell ⟨r, 1, none⟩ (.int .i64 1)).alloc (.cells #[.pointer (some ⟨r, 0, none⟩)] 59)).cell? ⟨r, 0, none⟩ = some (.string braceA) := carry hb2 (cell_other h.1 (by simp))
  have g1 : ((w.setCell ⟨r, 1, none⟩ (.int .i64 1)).alloc (.cells #[.pointer (some ⟨r, 0, none⟩)] 59)).cell? ⟨r, 1, none⟩ = some (.int .i64 1) := carry hb2 (cell_same h.2.1)
  have g2 : ((w.setCell ⟨r, 1, none⟩ (.int .i64 1)).alloc (.cells #[.pointer (some ⟨r, 0, none⟩)] 59)).frozen? ⟨r, 0, none⟩ = false := carryF hb2 (by simpa using hlt) (by rw [World.frozen?_setCell]; exact h.2.2.1)
  have g3 : ((w.setCell ⟨r, 1, none⟩ (.int .i64 1)).alloc (.cells #[.pointer (some ⟨r, 0, none⟩)] 59)).frozen? ⟨r, 1, none⟩ = false := carryF hb2 (by simpa using hlt) (by rw [World.frozen?_setCell]; exact h.2.2.2)
  have gx : ((w.setCell ⟨r, 1, none⟩ (.int .i64 1)).alloc (.cells #[.pointer (some ⟨r, 0, none⟩)] 59)).cell? ⟨w.heap.size, 0, none⟩ = some (.pointer (some ⟨r, 0, none⟩)) := by go_simp
  have go2 : Off [r] w ((w.setCell ⟨r, 1, none⟩ (.int .i64 1)).alloc (.cells #[.pointer (some ⟨r, 0, none⟩)] 59)) := ((Off.refl [r] w).setCell _ _ (by simp)).alloc _
  obtain ⟨W2, hW2⟩ : ∃ W2, W2 = ((w.setCell ⟨r, 1, none⟩ (.int .i64 1)).alloc (.cells #[.pointer (some ⟨r, 0, none⟩)] 59)) := ⟨_, rfl⟩
  have HG := Lib.hid (And.intro g0 (And.intro g1 (And.intro g2 (And.intro g3 (And.intro gx go2)))))
  rw [← hW2] at HG
  have HW2 := Lib.hid hW2
  clear hb1 hb2 h hW2
  go_enter_defers Tryz.func21, Tryz.ntmps21
  go_wp2_with fail
  rw [← HW2.out]
  clear a0 a1 a2 a3 g0 g1 g2 g3 gx go2 HW2
  go_loopw [5] (fun o wr => (o = .slice none 0 0 ∧ W2 = wr) ∨ (∃ g c, o = .slice (some ⟨g, 0, none⟩) 1 c ∧ 1 ≤ c ∧ w.heap.size ≤ g ∧ Hid (NodeAt wr g 2 ⟨#[97]⟩ 0 none 0 0 ∧ RdAt wr r ⟨#[]⟩ 1 ∧ wr.cell? ⟨w.heap.size, 0, none⟩ = some (.pointer (some ⟨r, 0, none⟩)) ∧ Off [r] w wr))) (fun o _ => slLeft o)
  case atStart => exact .inl ⟨rfl, rfl⟩
  case round =>
    rcases hrel with ⟨rfl, rfl⟩ | ⟨g, c, rfl, hc1, hge, HR⟩
    · obtain ⟨g0, g1, g2, g3, gx, go2⟩ := HG.out
      go_wp2_with fail
      refine (bare_open _).mono ?_
      rintro e w1 ⟨rfl, hb⟩
      have R1 : RdAt w1 r braceA 1 := RdAt.below ⟨g0, g1, g2, g3⟩ hb
      have k0 := carry hb gx
      have go3 : Off [r] w w1 := go2.below hb go2.size
      obtain ⟨d0, d1, d2, d3⟩ := R1
      have xb : braceA.extract 0 3 = braceA := by decide
      have xs : braceA.size = 3 := rfl
      clear g0 g1 g2 g3 gx go2 hb
      go_wp2_with fail
      go_region
      have S5 : RdAt (w1.setCell ⟨r, 0, none⟩ (.string braceA)).drew r braceA 1 := RdAt.set ⟨d0, d1, d2, d3⟩ braceA
      have x5 : (w1.setCell ⟨r, 0, none⟩ (.string braceA)).drew.cell? ⟨w.heap.size, 0, none⟩ = some (.pointer (some ⟨r, 0, none⟩)) := cell_other k0 (by simp [hne, hne2])
      have o5 : Off [r] w (w1.setCell ⟨r, 0, none⟩ (.string braceA)).drew := (go3.setCell _ _ (by simp)).drewN 1
      clear d0 d1 d2 d3 k0 go3
      obtain ⟨W5, hW5⟩ : ∃ W5, W5 = (w1.setCell ⟨r, 0, none⟩ (.string braceA)).drew := ⟨_, rfl⟩
      rw [← hW5] at S5 x5 o5 ⊢
      clear hW5
      obtain ⟨d0, d1, d2, d3⟩ := S5
      go_wp2_with fail
      refine (cut_yes r braceA ⟨#[123]⟩ ⟨#[97, 125]⟩ _ d0 d2 (by decide) (by decide)).mono ?_
      rintro e w6 ⟨rfl, rfl⟩
      have S6 : RdAt (W5.setCell ⟨r, 0, none⟩ (.string ⟨#[97, 125]⟩)) r ⟨#[97, 125]⟩ 1 := RdAt.set ⟨d0, d1, d2, d3⟩ _
      have x6 : (W5.setCell ⟨r, 0, none⟩ (.string ⟨#[97, 125]⟩)).cell? ⟨w.heap.size, 0, none⟩ = some (.pointer (some ⟨r, 0, none⟩)) := cell_other x5 (by simp [hne, hne2])
      have o6 : Off [r] w (W5.setCell ⟨r, 0, none⟩ (.string ⟨#[97, 125]⟩)) := o5.setCell _ _ (by simp)
      clear d0 d1 d2 d3 x5 o5
      obtain ⟨W6, hW6⟩ : ∃ W6, W6 = W5.setCell ⟨r, 0, none⟩ (.string ⟨#[97, 125]⟩) := ⟨_, rfl⟩
      rw [← hW6] at S6 x6 o6 ⊢
      clear hW6
      go_wp2_with fail
      refine (arg_at r 1 _ S6).mono ?_
      rintro e w7 ⟨rfl, S7, o7⟩
      have x7 := o7.cell x6 (by simp [hne2])
      have o8 := o6.trans o7
      clear x6 o6 o7 S6
      have hl : LiesG kNode (w7.alloc (.cells #[.int .i64 2, .string ⟨#[97]⟩, .int .i64 0, .slice none 0 0] 30)) (some ⟨w7.heap.size, 0, none⟩) [nodeA] := by
        refine .inr ⟨_, 0, rfl, ?_⟩
        intro j t i u ht hu
        have hj : j = 0 := by
          have := (List.getElem?_eq_some_iff.1 ht).1
          simp at this
          exact this
        subst hj
        simp only [List.getElem?_cons_zero, Option.some.injEq] at ht
        subst ht
        have hi : i < 4 := (List.getElem?_eq_some_iff.1 hu).1
        match i, hi, hu with
        | 0, _, hu => injection hu with hu; subst hu; go_simp; rfl
        | 1, _, hu => injection hu with hu; subst hu; go_simp; rfl
        | 2, _, hu => injection hu with hu; subst hu; go_simp; rfl
        | 3, _, hu => injection hu with hu; subst hu; go_simp; exact ⟨rfl, rfl, rfl⟩
      have HL := Lib.hid hl
      clear hl
      go_wp2_with (at_builtin; refine wpList_append_manyG (k := kNode) rfl _ _ rfl (ys := [nodeA]) (base := w7.heap.size) rfl rfl (OwnsG.nil _ _) HL.out (fun h => by cases h) (by simp) (by decide) (by decide) ?_; intro v' w' ho hoff)
      have hoff2 : Off [] (w7.alloc (.cells #[.int .i64 2, .string ⟨#[97]⟩, .int .i64 0, .slice none 0 0] 30)) w' := hoff
      have hall := hoff2.toBelow (fun k h => by cases h) (Nat.le_refl _)
      have hb7 : Below w7.heap.size w7 w' := ((Below.refl _ _).alloc (Nat.le_refl _) _).trans (hall.mono (by simp))
      obtain ⟨A', c', rfl, hlc, _, _, hg⟩ := ho.form
      have h7 := o8.size
      rcases hg with hg | ⟨g, rfl, hg7, _, hc⟩
      · cases hg
      · refine ⟨.inr ⟨g, c', rfl, hlc, by omega, Lib.hid ⟨⟨hc 0 nodeA 0 _ rfl rfl, hc 0 nodeA 1 _ rfl rfl, hc 0 nodeA 2 _ rfl rfl, hc 0 nodeA 3 _ rfl rfl⟩, S7.below hb7, carry hb7 x7, o8.below hb7 o8.size⟩⟩, ?_⟩
        show 1 - ([] ++ [nodeA]).length < 1 - 0
        simp
    · obtain ⟨hN, hR, hx, hO⟩ := HR.out
      obtain ⟨d0, d1, d2, d3⟩ := hR
      go_wp2_with fail
      refine (bare_none _).mono ?_
      rintro e w1 ⟨rfl, hb⟩
      have N1 := hN.below hb
      have R1 : RdAt w1 r ⟨#[]⟩ 1 := RdAt.below ⟨d0, d1, d2, d3⟩ hb
      have x1 := carry hb hx
      have o1 : Off [r] w w1 := hO.below hb hO.size
      have HNN := Lib.hid N1
      clear hN hx hO hb N1 d0 d1 d2 d3
      obtain ⟨d0, d1, d2, d3⟩ := R1
      have xb : (⟨#[]⟩ : ByteArray).extract 0 0 = ⟨#[]⟩ := by decide
      go_wp2_with fail
      go_region
      have S5 : RdAt (w1.setCell ⟨r, 0, none⟩ (.string ByteArray.empty)).drew r ⟨#[]⟩ 1 := RdAt.set ⟨d0, d1, d2, d3⟩ _
      have x5 : (w1.setCell ⟨r, 0, none⟩ (.string ByteArray.empty)).drew.cell? ⟨w.heap.size, 0, none⟩ = some (.pointer (some ⟨r, 0, none⟩)) := cell_other x1 (by simp [hne, hne2])
      have o5 : Off [r] w (w1.setCell ⟨r, 0, none⟩ (.string ByteArray.empty)).drew := (o1.setCell _ _ (by simp)).drewN 1
      have hgr : g ≠ r := by omega
      have hrg : r ≠ g := by omega
      have n5 : NodeAt (w1.setCell ⟨r, 0, none⟩ (.string ByteArray.empty)).drew g 2 ⟨#[97]⟩ 0 none 0 0 :=
        ⟨cell_other HNN.out.1 (by simp [hgr, hrg]), cell_other HNN.out.2.1 (by simp [hgr, hrg]), cell_other HNN.out.2.2.1 (by simp [hgr, hrg]), cell_other HNN.out.2.2.2 (by simp [hgr, hrg])⟩
      clear d0 d1 d2 d3 x1 o1 HNN
      obtain ⟨W5, hW5⟩ : ∃ W5, W5 = (w1.setCell ⟨r, 0, none⟩ (.string ByteArray.empty)).drew := ⟨_, rfl⟩
      rw [← hW5] at S5 x5 o5 n5 ⊢
      clear hW5
      obtain ⟨d0, d1, d2, d3⟩ := S5
      go_wp2_with fail
      refine (cut_no r ⟨#[]⟩ ⟨#[123]⟩ _ d0 (by decide)).mono ?_
      rintro e w6 ⟨rfl, rfl⟩
      go_wp2_with fail
      refine leaves_cons (f := 43) (args := #[.pointer (some ⟨w.heap.size, 0, none⟩)]) (by simp) (by simp [go_sem]) ?_
      refine (message_end w.heap.size r .returning _ x5 d1 d3).mono ?_
      rintro e u' w7 ⟨rfl, rfl, rfl⟩
      obtain ⟨q0, q1, q2, q3⟩ := n5
      refine ⟨_, results_tmp rfl _ _ _, ?_⟩
      refine ⟨g, c, hc1, hge, rfl, ⟨cell_other q0 (by simp [hgr, hrg]), cell_other q1 (by simp [hgr, hrg]), cell_other q2 (by simp [hgr, hrg]), cell_other q3 (by simp [hgr, hrg])⟩, ⟨cell_other d0 (by simp), cell_same d1, by rw [World.frozen?_setCell]; exact d2, by rw [World.frozen?_setCell]; exact d3⟩, o5.setCell _ _ (by simp)⟩
end Go.Proofs.YthlcjlmaaaappaaGreatDoor
