/- DecFault, WrapsStep: texts put together. -/
import Derived.Test.YthlcjlmaaaappaaGreatDoorEw7
import Derived.Test.YthlcjlmaaaappaaGreatDoorEw9
import Derived.Test.YthlcjlmaaaappaaGreatDoorEw27
import Derived.Test.YthlcjlmaaaappaaGreatDoorEw32
import Derived.Test.YthlcjlmaaaappaaGreatDoorEw25
set_option linter.unusedVariables false
set_option linter.unusedSimpArgs false
/- The reference's DecFault; linguistersame.Told of two numbers. -/
namespace Go.Proofs.YthlcjlmaaaappaaGreatDoor
open Go.RowKit

theorem dec_fault (c s : Int) (w : World) :
    Calls Tryz.prog 18 #[decV c s] w fun e w' => e = .returned (.bool (decide (¬ decOk c s))) ∧ Below w.heap.size w w' := by
  by_cases h : decOk c s
  · rw [decide_eq_false (fun hn => hn h)]
    obtain ⟨h1, h2, h3, h4⟩ := h
    have k1 : ¬ s < 0 := by omega
    have k2 : ¬ 9 < s := by omega
    have k3 : ¬ c < -1000000000000000 := by omega
    have k4 : ¬ 1000000000000000 < c := by omega
    clear h1 h2 h3 h4
    go_enter Tryz.func18, Tryz.ntmps18
    go_wp2_with fail
    go_ret
    exact ⟨rfl, (by (repeat (first | with_reducible exact Below.refl _ _ | with_reducible refine bel_set ?_ ?_ | with_reducible refine bel_alloc ?_ ?_ | with_reducible refine Below.drew ?_ | with_reducible refine bel_drewN _ ?_ | with_reducible refine bel_call ?_ (by assumption) ?_)); all_goals (first | (simp; done) | omega | (simp; omega)))⟩
  · rw [decide_eq_true h]
    by_cases k1 : s < 0
    · clear h
      go_enter Tryz.func18, Tryz.ntmps18
      go_wp2_with fail
      go_ret
      exact ⟨rfl, (by (repeat (first | with_reducible exact Below.refl _ _ | with_reducible refine bel_set ?_ ?_ | with_reducible refine bel_alloc ?_ ?_ | with_reducible refine Below.drew ?_ | with_reducible refine bel_drewN _ ?_ | with_reducible refine bel_call ?_ (by assumption) ?_)); all_goals (first | (simp; done) | omega | (simp; omega)))⟩
    · by_cases k2 : 9 < s
      · clear h
        go_enter Tryz.func18, Tryz.ntmps18
        go_wp2_with fail
        go_ret
        exact ⟨rfl, (by (repeat (first | with_reducible exact Below.refl _ _ | with_reducible refine bel_set ?_ ?_ | with_reducible refine bel_alloc ?_ ?_ | with_reducible refine Below.drew ?_ | with_reducible refine bel_drewN _ ?_ | with_reducible refine bel_call ?_ (by assumption) ?_)); all_goals (first | (simp; done) | omega | (simp; omega)))⟩
      · by_cases k3 : c < -1000000000000000
        · clear h
          go_enter Tryz.func18, Tryz.ntmps18
          go_wp2_with fail
          go_ret
          exact ⟨rfl, (by (repeat (first | with_reducible exact Below.refl _ _ | with_reducible refine bel_set ?_ ?_ | with_reducible refine bel_alloc ?_ ?_ | with_reducible refine Below.drew ?_ | with_reducible refine bel_drewN _ ?_ | with_reducible refine bel_call ?_ (by assumption) ?_)); all_goals (first | (simp; done) | omega | (simp; omega)))⟩
        · have k4 : 1000000000000000 < c := Classical.byContradiction fun hn => h ⟨by omega, by omega, by omega, by omega⟩
          clear h
          go_enter Tryz.func18, Tryz.ntmps18
          go_wp2_with fail
          go_ret
          exact ⟨rfl, (by (repeat (first | with_reducible exact Below.refl _ _ | with_reducible refine bel_set ?_ ?_ | with_reducible refine bel_alloc ?_ ?_ | with_reducible refine Below.drew ?_ | with_reducible refine bel_drewN _ ?_ | with_reducible refine bel_call ?_ (by assumption) ?_)); all_goals (first | (simp; done) | omega | (simp; omega)))⟩
theorem told_same (k1 k2 : Int) (w : World) (hE : ErrT w) : Calls Tryz.prog 19 #[errOf k1, errOf k2] w fun v w' => v = .returned (.bool (k1 == k2)) ∧ Below w.heap.size w w' := by
  have K1 := Lib.hid (told_of k1 w hE)
  have K2 := Lib.hid (fun W (hb : Below w.heap.size w W) => told_of k2 W (hE.below hb))
  clear hE
  generalize errOf k1 = v1 at *
  generalize errOf k2 = v2 at *
  go_enter Tryz.func19, Tryz.ntmps19
  go_wp2_with fail
  refine K1.out.mono ?_
  rintro e w1 ⟨rfl, hb1⟩
  go_wp2_with fail
  refine (K2.out _ hb1).mono ?_
  rintro e w2 ⟨rfl, hb2⟩
  go_wp2_with fail
  go_ret
  exact ⟨rfl, hb1.trans (hb2.mono hb1.size)⟩
end Go.Proofs.YthlcjlmaaaappaaGreatDoor

/- EvalWraps: what is kept of the blocks that a drawn region makes. -/
namespace Go.Proofs.YthlcjlmaaaappaaGreatDoor
open Go.RowKit Go.Maps

def NodeBlk (w : World) (n : Nat) (kd : Int) (cb : Nat) : Prop :=
  TyAt w n 30 ∧ w.cell? ⟨n, 0, none⟩ = some (.int .i64 kd) ∧ w.cell? ⟨n, 1, none⟩ = some (.string zzS) ∧ w.cell? ⟨n, 2, none⟩ = some (.int .i64 0) ∧ w.cell? ⟨n, 3, none⟩ = some (.slice (some ⟨cb, 0, none⟩) 1 1)
theorem NodeBlk.off {w w' : World} {n cb : Nat} {kd : Int} {m : List Nat} (h : NodeBlk w n kd cb) (hm : Off m w w') (hb : n ∉ m) : NodeBlk w' n kd cb :=
  ⟨h.1.off hm hb, hm.cell h.2.1 hb, hm.cell h.2.2.1 hb, hm.cell h.2.2.2.1 hb, hm.cell h.2.2.2.2 hb⟩
theorem NodeBlk.below {w w' : World} {n cb : Nat} {kd : Int} (h : NodeBlk w n kd cb) (hb : Below w.heap.size w w') : NodeBlk w' n kd cb :=
  ⟨h.1.below hb, carry hb h.2.1, carry hb h.2.2.1, carry hb h.2.2.2.1, carry hb h.2.2.2.2⟩
theorem NodeBlk.new (w : World) (kd : Int) (cb : Nat) : NodeBlk (w.alloc (.cells #[.int .i64 kd, .string zzS, .int .i64 0, .slice (some ⟨cb, 0, none⟩) 1 1] 30)) w.heap.size kd cb := by
  refine ⟨TyAt.new _ _ _, ?_, ?_, ?_, ?_⟩ <;> go_simp
def ArgBlk (w : World) (a : Nat) (t : ArgC) : Prop := a < w.heap.size ∧ ∀ i u, (kArg.cells t)[i]? = some u → w.cell? ⟨a, i, none⟩ = some u
theorem ArgBlk.off {w w' : World} {a : Nat} {t : ArgC} {m : List Nat} (h : ArgBlk w a t) (hm : Off m w w') (hb : a ∉ m) : ArgBlk w' a t :=
  ⟨Nat.lt_of_lt_of_le h.1 hm.size, fun i u hu => hm.cell (h.2 i u hu) hb⟩
theorem ArgBlk.below {w w' : World} {a : Nat} {t : ArgC} (h : ArgBlk w a t) (hb : Below w.heap.size w w') : ArgBlk w' a t :=
  ⟨Nat.lt_of_lt_of_le h.1 hb.size, fun i u hu => carry hb (h.2 i u hu)⟩
theorem ArgBlk.new (w : World) (t : ArgC) : ArgBlk (w.alloc (.cells #[.string t.name, .bool t.isNum, .int .i64 t.coef, .int .i64 t.scale, .string t.text] 53)) w.heap.size t := by
  refine ⟨by simp, fun i u hu => ?_⟩
  match i, u, hu with
  | 0, _, hu => injection hu with hu; subst hu; go_simp
  | 1, _, hu => injection hu with hu; subst hu; go_simp
  | 2, _, hu => injection hu with hu; subst hu; go_simp
  | 3, _, hu => injection hu with hu; subst hu; go_simp
  | 4, _, hu => injection hu with hu; subst hu; go_simp
def LitAt (w : World) (e : Nat) : Prop := e < w.heap.size ∧ OwnsG kArg w e (.slice (some ⟨e, 0, none⟩) 0 0) []
theorem LitAt.below {w w' : World} {e : Nat} (h : LitAt w e) (hb : Below w.heap.size w w') : LitAt w' e := ⟨Nat.lt_of_lt_of_le h.1 hb.size, h.2.below hb⟩
theorem LitAt.new (w : World) : LitAt (w.alloc (.cells #[] 53)) w.heap.size := ⟨by simp, World.ownsRow_lit (size := 5) w #[] 0 (Nat.le_refl _) (by simp [maxLen]) rfl⟩
theorem bell (w : World) (o : Obj) : Below w.heap.size w (w.alloc o) := (Below.refl _ _).alloc (Nat.le_refl _) o
/-- what is held through the region: the box's cells -/
def S9 (w w10 : World) (dc ds : Int) (x : World) : Prop :=
  x.cell? ⟨w.heap.size, 0, none⟩ = some (.int .i64 dc) ∧ x.cell? ⟨w.heap.size, 1, none⟩ = some (.int .i64 ds) ∧ Hid (Below w10.heap.size w10 x) ∧ Hid (w.heap.size < w10.heap.size)
theorem S9.step {w w10 x x' : World} {dc ds : Int} {B : Nat} (h : S9 w w10 dc ds x) (hb : Below B x x') (hB : w10.heap.size ≤ B) : S9 w w10 dc ds x' := by
  have hlt : w.heap.size < B := Nat.lt_of_lt_of_le h.2.2.2.out hB
  exact ⟨(hb.cell (p := ⟨w.heap.size, 0, none⟩) hlt).trans h.1, (hb.cell (p := ⟨w.heap.size, 1, none⟩) hlt).trans h.2.1, Lib.hid (h.2.2.1.out.trans (hb.mono hB)), h.2.2.2⟩
/-- a row of args that is the call's own, its base in the world -/
def RowAt (w : World) (e : Nat) (v : Value) (ags : List ArgC) : Prop := e ≤ w.heap.size ∧ OwnsG kArg w e v ags
theorem RowAt.below {w w' : World} {e : Nat} {v : Value} {ags : List ArgC} (h : RowAt w e v ags) (hb : Below w.heap.size w w') : RowAt w' e v ags := ⟨Nat.le_trans h.1 hb.size, h.2.below hb⟩
theorem wrapK_in {f : Nat} {v : Value} {ms : List Nd} (kd : Int) (hk : kd = 4 ∨ kd = 5) (w : World) (b c : Nat) (hN : NodesIn f w v ms)
    (h0 : w.cell? ⟨b, 0, none⟩ = some (.int .i64 kd)) (h1 : w.cell? ⟨b, 1, none⟩ = some (.string zzS)) (h2 : w.cell? ⟨b, 2, none⟩ = some (.int .i64 0)) (h3 : w.cell? ⟨b, 3, none⟩ = some (.slice (some ⟨c, 0, none⟩) 1 1))
    (h4 : w.cell? ⟨c, 0, none⟩ = some (.string otherS)) (h5 : w.cell? ⟨c, 1, none⟩ = some v) : NodesIn (f + 1) w (.slice (some ⟨b, 0, none⟩) 1 1) (wrapK kd zzS ms) := by
  have one : (1 : Nat) ≤ 3518437208800 := by decide
  have zb : (-9223372036854775808 : Int) ≤ 0 ∧ (0 : Int) ≤ 9223372036854775807 := by decide
  have ob : otherS.size ≤ 140737488355328 := by decide
  have hkd : -9223372036854775808 ≤ kd ∧ kd ≤ 9223372036854775807 := by omega
  refine ⟨_, 1, rfl, Nat.le_refl _, by omega, one, .inr ⟨b, 0, rfl, fun j x hx => ?_⟩⟩
  obtain rfl : j = 0 := by have h : j < (wrapK kd zzS ms).length := (List.getElem?_eq_some_iff.1 hx).1; simp [wrapK] at h; omega
  cases hx
  refine ⟨(by decide : zzS.size ≤ 140737488355328), zb, hkd, ?_, ?_, ?_, _, ?_, ⟨_, 1, rfl, Nat.le_refl _, by omega, one, .inr ⟨c, 0, rfl, fun j x hx => ?_⟩⟩⟩
  · exact h0
  · exact h1
  · exact h2
  · exact h3
  · obtain rfl : j = 0 := by have h : j < ([(otherS, ms)] : List (ByteArray × List Nd)).length := (List.getElem?_eq_some_iff.1 hx).1; simp at h; omega
    cases hx
    exact ⟨ob, h4, v, h5, hN⟩
theorem node_in {f : Nat} {W : World} {n cb : Nat} {v : Value} {ms : List Nd} (h : NodeBlk W n 4 cb) (c0 : W.cell? ⟨cb, 0, none⟩ = some (.string otherS)) (c1 : W.cell? ⟨cb, 1, none⟩ = some v) (hN : NodesIn f W v ms) :
    NodesIn (f + 1) W (.slice (some ⟨n, 0, none⟩) 1 1) (wrapK 4 zzS ms) := wrapK_in 4 (.inl rfl) W n cb hN h.2.1 h.2.2.1 h.2.2.2.1 h.2.2.2.2 c0 c1
/-- an append of many at a step of a region that draws its order -/
theorem step_append_manyG {α : Type} {k : Kind α} {w : World} {ops : Array Oper} {o : Oper} {a : Act} {K : Act → World → Prop} {Q : Exit → Act → World → Prop} {E : Prop} (hgd : o.guard = none) (s x : Operand)
    (ho : o.op = .call { callee := .builtin .append, args := #[s, x], argTypes := #[k.sl, k.sl] }) {base : Nat} {v : Value} {ts ys : List α} {A : Option Addr} {c : Nat}
    (hs : a.eval s = v) (hx : a.eval x = .slice A ys.length c) (hown : OwnsG k w base v ts) (hy : LiesG k w A ys) (hA : A = none → c = 0) (hb : base ≤ w.heap.size) (hn : (ts.length + ys.length) * k.bytes ≤ 140737488355328) (hn2 : ts.length + ys.length ≤ 9223372036854775807)
    (h : ∀ v' w', OwnsG k w' base v' (ts ++ ys) → Off v.ownBlock.toList w w' → K (a.put o.dst v') w') :
    if Region.wanted o (yielded ops a.tmps) = true then Oper.wp Tryz.prog o a w K Q else E := by
  have hw : Region.wanted o (yielded ops a.tmps) = true := by simp [Region.wanted, hgd]
  rw [if_pos hw]
  obtain ⟨v', w', hr, h2, h3⟩ := append_manyG hown hy hA o.type hb hn hn2
  unfold Oper.wp execOp
  simp only [ho, resolve, invoke, builtin, Sem.run_bind, Sem.run_pure, Result.andThen_ok, List.map_toArray, List.map_cons, List.map_nil, hs, hx, hr]
  exact h v' w' h2 h3
end Go.Proofs.YthlcjlmaaaappaaGreatDoor
