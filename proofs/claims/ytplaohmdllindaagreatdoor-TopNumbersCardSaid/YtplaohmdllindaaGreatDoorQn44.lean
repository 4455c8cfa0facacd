/- ServeRows: texts put together. -/
import Derived.Test.YtplaohmdllindaaGreatDoorQn43
import Derived.Test.YtplaohmdllindaaGreatDoorQn4
import Derived.Test.YtplaohmdllindaaGreatDoorQn27
set_option linter.unusedVariables false
set_option linter.unusedSimpArgs false
/- Rows of bundles; a map that is cleared; what serve.Load wants. -/
namespace Go.Proofs.YtplaohmdllindaaGreatDoor
open Go.RowKit Go.Maps Go.ChangeMaps Go.MapKept

def bunQ (t : ByteArray) (A : Option Addr) (n c : Nat) : Vals 2 := ⟨[.string t, .slice A n c], rfl, fun u hu => by
  simp only [List.mem_cons, List.not_mem_nil, or_false] at hu
  rcases hu with rfl | rfl <;> rfl⟩
def kBunQ : Kind (Vals 2) where
  e := 64
  sl := 65
  size := 2
  bytes := 40
  cells := fun x => x.1
  zero := .agg #[.string ⟨#[]⟩, .slice none 0 0]
  hsl := Tryz.underlying65
  hi := by
    have h : (Tryz.prog.info? 64).map (fun i => (i.zero, i.size, i.bytes)) = some (some (.agg #[.string ⟨#[]⟩, .slice none 0 0]), 2, 40) := by kernel_rfl
    obtain ⟨i, hi, h2⟩ := Option.map_eq_some_iff.1 h
    simp only [Prod.mk.injEq] at h2
    exact ⟨i, hi, h2.1, h2.2.1, h2.2.2⟩
  hzs := rfl
  hpos := by decide
  hlen := fun t => t.2.1
  hone := fun x u hu => x.2.2 u hu
theorem ent_lit (w : World) : OwnsG kEnt (w.alloc (.cells #[] 61)) w.heap.size (.slice (some ⟨w.heap.size, 0, none⟩) 0 0) [] :=
  World.ownsRow_lit (size := 2) w #[] 0 (Nat.le_refl _) (by simp [maxLen]) rfl

theorem hm_clear {W : World} {mb n : Nat} {l : HL} {t e : TypeId} (h : HMap W mb n l) (ht : Tryz.prog.underlying t = some (.map 9 e)) (ty : TypeId) :
    ∃ W', (Builtin.clear_ #[t] ty #[.map (some mb)]).run Tryz.prog W = .ok (.tuple #[]) W' ∧ HMap W' mb 0 [] ∧ Off [mb] W W' := by
  obtain ⟨es, clock, hb, F, hs, _⟩ := h
  refine ⟨setBlock W mb (.map #[] clock), ?_, ⟨#[], clock, heap_setBlock_same hb _, ⟨by simp, stamped_empty clock, by simp⟩, Nat.le_refl _, rfl⟩, ?_⟩
  · simp [Builtin.clear_, run_underlying ht, MapKept.run_getObj_map hb, MapKept.run_setObj_map _ hb, Result.andThen, setBlock]
  · refine ⟨rfl, rfl, rfl, by simp [setBlock], fun k hk hl => heap_setBlock_other hb _ (by simpa using hl)⟩
theorem step_append_manyS {α : Type} {k : Kind α} {w : World} {ops : Array Oper} {o : Oper} {a : Act} {K : Act → World → Prop} {Q : Exit → Act → World → Prop} {E : Prop} (hgd : o.guard = none) (s x : Operand)
    (ho : o.op = .call { callee := .builtin .append, args := #[s, x], argTypes := #[k.sl, k.sl] }) {base : Nat} {v : Value} {ts ys : List α} {A : Option Addr} {c : Nat}
    (hs : a.eval s = v) (hx : a.eval x = .slice A ys.length c) (hown : OwnsG k w base v ts) (hy : LiesG k w A ys) (hA : A = none → c = 0) (hb : base ≤ w.heap.size) (hn : (ts.length + ys.length) * k.bytes ≤ 140737488355328) (hn2 : ts.length + ys.length ≤ 9223372036854775807)
    (h : ∀ v' w', OwnsG k w' base v' (ts ++ ys) → Off v.ownBlock.toList w w' → K (a.put o.dst v') w') :
    if Region.wanted o (yielded ops a.tmps) = true then Oper.wp Tryz.prog o a w K Q else E := by
  have hw : Region.wanted o (yielded ops a.tmps) = true := by simp [Region.wanted, hgd]
  rw [if_pos hw]
  obtain ⟨v', w', hr, h2, h3⟩ := append_manyG hown hy hA o.type hb hn hn2
  unfold Oper.wp execOp
  simp only [ho, resolve, invoke, builtin, Sem.run_bind, Sem.run_pure, Result.andThen_ok, List.map_toArray, List.map_cons, List.map_nil, hs, hx, hr]
  exact h v' w' h2 h3
end Go.Proofs.YtplaohmdllindaaGreatDoor
