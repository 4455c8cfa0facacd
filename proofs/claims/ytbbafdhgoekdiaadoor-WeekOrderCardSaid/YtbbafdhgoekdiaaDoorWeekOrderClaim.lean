/- WeekOrder: the claim: the law returns true at every argument that its statement speaks of. -/
import Derived.Test.YtbbafdhgoekdiaaDoorCards
import Derived.Test.YtbbafdhgoekdiaaDoorTie
import Derived.Deep.DeepWitnessRowRef
import Derived.LaidMore
import Derived.LaidHandle
import Derived.Lib.LaidTab
import Derived.SevenTiedAt
import Derived.Stop.LaidErr
import Derived.Test.YtbbafdhgoekdiaaDoorFrame
import Derived.Test.YtbbafdhgoekdiaaDoorWeekOrder
set_option linter.unusedVariables false
namespace Go.Proofs.YtbbafdhgoekdiaaDoor.lawWeekOrder
open Go.ChangeShapes Go.WideShapes Go.ChangeAt Go.RowKit Go.Joins Go.Proofs.YtbbafdhgoekdiaaDoor

theorem own : ownKnob Tryd.prog.godebug = none := by kernel_rfl

theorem gPow : Tryd.prog.globalNamed "internal/strconv.uint64pow10" = some 3 := by kernel_rfl
theorem gPowType : (Tryd.prog.globals[3]?).map (·.type) = some 144 := by kernel_rfl
theorem pow {W : World} (h : laidMetH Tryd.prog Rows.weekOrderRow.laid W) : Pow W :=
  Lib.tabIs_of_head (rest := [("linguister/date.ahead", Rows.laid_linguister_date_ahead)]) gPow gPowType Tryd.underlying144 Tryd.underlying127 (by kernel_rfl) (by kernel_rfl) (show laidMet Tryd.prog _ W from h).tail.tail
theorem gAhead : Tryd.prog.globalNamed "linguister/date.ahead" = some 1 := by kernel_rfl
theorem gAheadType : (Tryd.prog.globals[1]?).map (·.type) = some 73 := by kernel_rfl
theorem table {W : World} (h : laidMetH Tryd.prog Rows.weekOrderRow.laid W) : Lib.TabIs Tryd.prog W "linguister/date.ahead" .i64 aheadL :=
  Lib.tabIs_of_head (rest := []) gAhead gAheadType Tryd.underlying73 Tryd.underlying3 (by kernel_rfl) (by kernel_rfl) (show laidMet Tryd.prog _ W from h).tail.tail.tail
theorem ahead {W : World} (h : laidMetH Tryd.prog Rows.weekOrderRow.laid W) : Ahead W := fun i hi => (table h).cell gAhead i hi

theorem walk (y m d y' m' d' : Int) (w : World) (hA : Ahead w) (hP : Pow w) : Calls Tryd.prog 9 #[dateV y m d, dateV y' m' d'] w fun e w' => e = .returned (.bool true) ∧ Below w.heap.size w w' := by
  by_cases h : dateOk y m d
  · by_cases h' : dateOk y' m' d'
    · exact order_ok y m d y' m' d' w hA hP h h'
    · exact order_bad3 y m d y' m' d' w hA h h'
  · by_cases h' : dateOk y' m' d'
    · exact order_bad2 y m d y' m' d' w hA h h'
    · exact order_bad1 y m d y' m' d' w hA h h'

set_option maxRecDepth 100000 in
theorem contract (H : Type) (enc : TypeId × Value → H) (W : World) (base : Nat) (args : Array Value) (ds gs : List (DataW H)) (before : List MemPlace)
    (hval : ∀ (j : Nat) t v, Tryd.f9.params[j]? = some t → args[j]? = some v → Value.okWide Tryd.prog W .any base t v)
    (hW : DataW.Whole enc Tryd.prog Tryd.f9.params.toList Rows.weekOrderSpec.vars false W args.toList ds gs before) (hL : laidMetH Tryd.prog Rows.weekOrderRow.laid W) :
    Calls Tryd.prog 9 args W fun e W' => ∃ v, e = .returned v ∧ Rows.weekOrderSpec.post enc Tryd.prog Tryd.f9 false true false false W args v W' := by
  have hW' := hW
  obtain ⟨p, q, hA0, hV, rfl, hfz, hnd⟩ := hW
  have hA : DataW.TrodAll enc Tryd.prog W 0 (fun _ => true) true Tryd.f9.params.toList args.toList ds p := hA0
  clear hA0
  rw [Tryd.params9] at hA hval
  obtain ⟨v0, vs0, d0, ds0, p0, q0, hargs, rfl, rfl, h0, r0⟩ := trodAll_cons hA
  obtain ⟨v1, vs1, d1, ds1, p1, q1, rfl, rfl, rfl, h1, r1⟩ := trodAll_cons r0
  obtain ⟨rfl, rfl, rfl⟩ := trodAll_nil r1
  obtain rfl : args = #[v0, v1] := by cases args; simp_all
  obtain ⟨rfl, rfl⟩ := trodVars_none hV
  obtain ⟨a0, b0, c0, x0, y0, z0, m0, rfl, rfl, rfl, hx0, hy0, hz0⟩ := open_agg3 Tryd.underlying27 (by kernel_rfl) (by kernel_rfl) (hval 0 27 v0 rfl rfl) h0
  obtain ⟨Y0, hY0, ex0, _⟩ := DataW.trod_int Tryd.underlying3 hx0
  obtain ⟨M0, hM0, ey0, _⟩ := DataW.trod_int Tryd.underlying3 hy0
  obtain ⟨D0, hD0, ez0, _⟩ := DataW.trod_int Tryd.underlying3 hz0
  simp only [List.cons.injEq, and_true] at hY0 hM0 hD0
  obtain rfl := hY0
  obtain rfl := hM0
  obtain rfl := hD0
  obtain ⟨a1, b1, c1, x1, y1, z1, m1, rfl, rfl, rfl, hx1, hy1, hz1⟩ := open_agg3 Tryd.underlying27 (by kernel_rfl) (by kernel_rfl) (hval 1 27 v1 rfl rfl) h1
  obtain ⟨Y1, hY1, ex1, _⟩ := DataW.trod_int Tryd.underlying3 hx1
  obtain ⟨M1, hM1, ey1, _⟩ := DataW.trod_int Tryd.underlying3 hy1
  obtain ⟨D1, hD1, ez1, _⟩ := DataW.trod_int Tryd.underlying3 hz1
  simp only [List.cons.injEq, and_true] at hY1 hM1 hD1
  obtain rfl := hY1
  obtain rfl := hM1
  obtain rfl := hD1
  refine (walk _ _ _ _ _ _ W (ahead hL) (pow hL)).mono fun e W' ⟨he, hb⟩ => ?_
  subst he
  exact ⟨_, rfl, law_post (by kernel_rfl) (by kernel_rfl) (by kernel_rfl) Tryd.underlying4 rfl hW' rfl hb⟩

theorem door_met (os : Os) (args : Array Value) : laidMetH Tryd.prog Rows.weekOrderRow.laid ((World.doorLaid Tryd.prog 400 os).forCall (fun _ _ => 0) ⟨#[], args, []⟩).memory :=
  laidMetH_of_parts3 (fuel := 8) (laidMet_of_run' 8 (by kernel_rfl) (by kernel_rfl)) (by kernel_rfl) (by kernel_rfl)

set_option maxRecDepth 100000 in
theorem reads (os : Os) {H : Type} (enc : TypeId × Value → H) : ∃ places, DataW.whole enc Tryd.prog ((World.doorLaid Tryd.prog 400 os).forCall (fun _ _ => 0) ⟨#[], #[.agg #[.int .i64 0, .int .i64 0, .int .i64 0], .agg #[.int .i64 0, .int .i64 0, .int .i64 0]], []⟩).memory Tryd.f9.params.toList Rows.weekOrderSpec.vars false (#[.agg #[.int .i64 0, .int .i64 0, .int .i64 0], .agg #[.int .i64 0, .int .i64 0, .int .i64 0]] : Array Value).toList 8 = some ([.agg [.lit (.int .i64 0), .lit (.int .i64 0), .lit (.int .i64 0)], .agg [.lit (.int .i64 0), .lit (.int .i64 0), .lit (.int .i64 0)]], [], places) :=
  ⟨[], by kernel_rfl⟩

set_option maxRecDepth 100000 in
theorem lifted (os : Os) (started : os.Started) (H : Type) (enc : TypeId × Value → H) (F : Stop.Interp) :
    ReturnsInHanded {} Tryd.checked os 9 .any ((OpenSpec.ofChange Rows.weekOrderSpec).preRow enc Tryd.prog Tryd.f9 Rows.weekOrderRow.domain false Rows.weekOrderRow.laid) (((OpenSpec.ofChange Rows.weekOrderSpec).at F).post enc Tryd.prog Tryd.f9 false true false false) := by
  obtain ⟨places, hx⟩ := reads os enc
  refine returnsInHanded_of_row (C := Tryd.checked) (s := (OpenSpec.ofChange Rows.weekOrderSpec)) own started (by kernel_rfl) Tryd.func9
    (witness_row_atRef (enc := enc) (C := Tryd.checked) false (World.doorLaid Tryd.prog 400 os) #[.agg #[.int .i64 0, .int .i64 0, .int .i64 0], .agg #[.int .i64 0, .int .i64 0, .int .i64 0]] rfl (by kernel_rfl) (by kernel_rfl) (by kernel_rfl)
      (OpenSpec.preRow_of_cond 8 hx (by kernel_rfl) (fun k hk => by cases hk) (by kernel_rfl) (door_met os _))) ?_
  intro W base args ds gs before hval hW _ hk hz hL _ _
  exact contract H enc W base args ds gs before hval hW hL

theorem said : Rows.WeekOrderSaid :=
  OpenClaim.holds_of_cond 9 Tryd.f9 rfl rfl rfl rfl rfl rfl rfl ⟨rfl, rfl, rfl, rfl, rfl⟩ rfl rfl rfl rfl rfl (by kernel_rfl) Tryd.func9 (by kernel_rfl)
    (of_decide_eq_true (by kernel_rfl)) (by unfold Func.isWrapper; first | (rw [if_pos (by decide +kernel)]; kernel_rfl) | (rw [if_neg (by decide +kernel)]; exact ⟨rfl, rfl⟩))
    (fun os started H enc _ F => by rw [OpenClaim.pre_eq_preRow]; exact lifted os started H enc F)

theorem plain (f : FuncId) (fn : Func) (hf : Tryd.pinned.checked.prog.funcNamed "linguister/linguisterlaw6.WeekOrder" = some f) (hfn : Tryd.pinned.checked.prog.funcs[f]? = some fn) :
    true = Tryd.pinned.checked.prog.looks [] ∧ ∀ (j : Nat) t, fn.params[j]? = some t → Tryd.pinned.checked.prog.wantsStandIn t = false := by
  obtain rfl : f = 9 := Option.some.inj ((show Tryd.prog.funcNamed "linguister/linguisterlaw6.WeekOrder" = some 9 by kernel_rfl).symm.trans hf) |>.symm
  obtain rfl : fn = Tryd.f9 := (Option.some.inj (Tryd.func9.symm.trans hfn)).symm
  refine ⟨by kernel_rfl, fun j t ht => ?_⟩
  rw [Tryd.params9] at ht
  have hm : t ∈ [27] := by simpa using Array.mem_of_getElem? ht
  have hall : ([27].all fun u => !Tryd.prog.wantsStandIn u) = true := by kernel_rfl
  exact (show Tryd.prog.wantsStandIn t = false by simpa using List.all_eq_true.1 hall t hm)

/-- THE CARD. -/
theorem card : Rows.WeekOrderCardSaid :=
  Claim7.holds_tied_plain_at .later [] _ _ _ _ said (fun _ h => by cases h) (by kernel_rfl) (fun _ h => by cases h) weekOrder_row_tie rfl ⟨rfl, rfl⟩ (by kernel_rfl) rfl plain (by kernel_rfl)
#print axioms card
end Go.Proofs.YtbbafdhgoekdiaaDoor.lawWeekOrder
