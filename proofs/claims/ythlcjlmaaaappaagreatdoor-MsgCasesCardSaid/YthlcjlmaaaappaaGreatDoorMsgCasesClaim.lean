/- MsgCases: the claim: the law returns true at every argument that its statement speaks of. -/
import Derived.Test.YthlcjlmaaaappaaGreatDoorCards
import Derived.Test.YthlcjlmaaaappaaGreatDoorTie
import Derived.Deep.DeepWitnessRowRef
import Derived.LaidMore
import Derived.LaidHandle
import Derived.Lib.LaidTab
import Derived.SevenTiedAt
import Derived.Lay
import Derived.MakeChecks
import Derived.HandedShaped
import Derived.Stop.LaidErr
import Derived.Test.YthlcjlmaaaappaaGreatDoorFrame
import Derived.Test.YthlcjlmaaaappaaGreatDoorMKindsLaid
import Derived.Test.YthlcjlmaaaappaaGreatDoorHandleLaid
import Derived.Test.YthlcjlmaaaappaaGreatDoorOpenReach
import Derived.Test.YthlcjlmaaaappaaGreatDoorMsgWalk2
set_option linter.unusedVariables false
namespace Go.Proofs.YthlcjlmaaaappaaGreatDoor.lawMsgCases
open Go.ChangeShapes Go.WideShapes Go.ChangeAt Go.RowKit Go.Joins Go.Proofs.YthlcjlmaaaappaaGreatDoor

theorem own : ownKnob Tryz.prog.godebug = none := by kernel_rfl

theorem env {W : World} (hsh : W.ShapedOpen Tryz.prog) (h : laidMetH Tryz.prog Rows.msgCasesRow.laid W) : RuleEnv W :=
  env_of hsh (plain_of h) (List.mem_filter.2 ⟨.tail _ (.tail _ (.head _)), rfl⟩) (List.mem_filter.2 ⟨.tail _ (.tail _ (.tail _ (.tail _ (.tail _ (.tail _ (.head _)))))), rfl⟩) (List.mem_filter.2 ⟨.tail _ (.tail _ (.tail _ (.tail _ (.tail _ (.head _))))), rfl⟩)
theorem kinds {W : World} (h : laidMetH Tryz.prog Rows.msgCasesRow.laid W) : MKinds W :=
  mkinds_of (plain_of h) (List.mem_filter.2 ⟨.tail _ (.tail _ (.tail _ (.tail _ (.tail _ (.tail _ (.tail _ (.head _))))))), rfl⟩)
theorem errT {W : World} (h : laidMetH Tryz.prog Rows.msgCasesRow.laid W) : ErrT W := errT_of h (.tail _ (.tail _ (.tail _ (.tail _ (.head _)))))
theorem walkM (A : Option Addr) (ks : List ByteArray) (c : Nat) (b : Bool) (w : World) (hE : RuleEnv w) (hT : ErrT w) (hK : MKinds w) (hS : StrsIn w A ks) (hc : ks.length ≤ c) (hz : ∀ k ∈ ks, k.size ≤ 140737488355328) :
    Calls Tryz.prog 3 #[.slice A ks.length c, .bool b] w fun e w' => e = .returned (.bool true) ∧ Below w.heap.size w w' := by
  by_cases h : ks.length ≤ 40
  · exact walk_few A ks c b w hE hT hK hS h hc hz
  · exact walk_big A ks.length c b w (by omega)

set_option maxRecDepth 100000 in
theorem contract (H : Type) (enc : TypeId × Value → H) (W : World) (base : Nat) (args : Array Value) (ds gs : List (DataW H)) (before : List MemPlace)
    (hval : ∀ (j : Nat) t v, Tryz.f3.params[j]? = some t → args[j]? = some v → Value.okWide Tryz.prog W .any base t v)
    (hW : DataW.Whole enc Tryz.prog Tryz.f3.params.toList Rows.msgCasesSpec.vars false W args.toList ds gs before) (hL : laidMetH Tryz.prog Rows.msgCasesRow.laid W) (hsh : W.ShapedOpen Tryz.prog) (hreach : (DataW.weightsEach Tryz.prog (Tryz.f3.params.toList ++ (OpenSpec.ofChange Rows.msgCasesSpec).bare.plain.varTypes Tryz.prog) (ds ++ gs)).all (· ≤ reachBytes) = true) :
    Calls Tryz.prog 3 args W fun e W' => ∃ v, e = .returned v ∧ Rows.msgCasesSpec.post enc Tryz.prog Tryz.f3 false true false false W args v W' := by
  have hW' := hW
  obtain ⟨p, q, hA0, hV, rfl, hfz, hnd⟩ := hW
  have hA : DataW.TrodAll enc Tryz.prog W 0 (fun _ => true) true Tryz.f3.params.toList args.toList ds p := hA0
  clear hA0
  rw [Tryz.params3] at hA hval
  obtain ⟨v0, vs0, d0, ds0, p0, q0, hargs, rfl, rfl, h0, r0⟩ := trodAll_cons hA
  obtain ⟨v1, vs1, d1, ds1, p1, q1, rfl, rfl, rfl, h1, r1⟩ := trodAll_cons r0
  obtain ⟨rfl, rfl, rfl⟩ := trodAll_nil r1
  obtain rfl : args = #[v0, v1] := by cases args; simp_all
  obtain ⟨rfl, rfl⟩ := trodVars_none hV
  simp only [Tryz.params3, List.cons_append, List.nil_append, DataW.weightsEach, List.all_append, Bool.and_eq_true] at hreach
  obtain ⟨hr0, _, _⟩ := hreach
  obtain ⟨A1, c1, xs, rfl, hc1, _, hs1, hn1, hx1⟩ := open_strs_reach Tryz.underlying22 Tryz.underlying9 (by kernel_rfl) (by kernel_rfl) (hval 0 22 v0 rfl rfl) h0 hr0
  obtain ⟨b, rfl⟩ : ∃ b, v1 = .bool b := by
    obtain ⟨fuel, hf⟩ := h1
    obtain ⟨x, e, _⟩ := DataW.trod_bool Tryz.underlying4 hf
    have hw := hval 1 4 v1 rfl rfl
    unfold Value.okWide at hw
    simp only [Tryz.underlying4] at hw
    unfold Cell.okWide at hw
    cases v1 <;> simp [Value.cells, Cell.ok, Tryz.underlying4] at hw e
    exact ⟨_, rfl⟩
  refine (walkM A1 xs c1 b W (env hsh hL) (errT hL) (kinds hL) hs1 hc1 hx1).mono fun e W' ⟨he, hb⟩ => ?_
  subst he
  exact ⟨_, rfl, law_post (by kernel_rfl) (by kernel_rfl) (by kernel_rfl) Tryz.underlying4 rfl hW' rfl hb⟩

theorem door_met (os : Os) (args : Array Value) : laidMetH Tryz.prog Rows.msgCasesRow.laid ((laidH os Rows.msgCasesRow.laid).forCall (fun _ _ => 0) ⟨#[], args, []⟩).memory :=
  laidH_met (os := os) (by simp [World.memory, World.forCall, Input.heap]) (by kernel_rfl) (by kernel_rfl) (by kernel_rfl) (by kernel_rfl)

set_option maxRecDepth 100000 in
theorem reads (os : Os) {H : Type} (enc : TypeId × Value → H) : ∃ places, DataW.whole enc Tryz.prog ((laidH os Rows.msgCasesRow.laid).forCall (fun _ _ => 0) ⟨#[], #[.slice none 0 0, .bool false], []⟩).memory Tryz.f3.params.toList Rows.msgCasesSpec.vars false (#[.slice none 0 0, .bool false] : Array Value).toList 8 = some ([.nil, .lit (.bool false)], [], places) :=
  ⟨[], by kernel_rfl⟩

set_option maxRecDepth 100000 in
theorem lifted (os : Os) (started : os.Started) (H : Type) (enc : TypeId × Value → H) (F : Stop.Interp) :
    ReturnsInHanded {} Tryz.checked os 3 .any ((OpenSpec.ofChange Rows.msgCasesSpec).preRow enc Tryz.prog Tryz.f3 Rows.msgCasesRow.domain false Rows.msgCasesRow.laid) (((OpenSpec.ofChange Rows.msgCasesSpec).at F).post enc Tryz.prog Tryz.f3 false true false false) := by
  obtain ⟨places, hx⟩ := reads os enc
  refine returnsInHanded_of_row (C := Tryz.checked) (s := (OpenSpec.ofChange Rows.msgCasesSpec)) own started (by kernel_rfl) Tryz.func3
    (witness_row_atRef (enc := enc) (C := Tryz.checked) false (laidH os Rows.msgCasesRow.laid) #[.slice none 0 0, .bool false] rfl (by kernel_rfl) (by kernel_rfl) (by kernel_rfl)
      (OpenSpec.preRow_of_cond 8 hx (by kernel_rfl) (fun k hk => by cases hk) (by kernel_rfl) (door_met os _))) ?_
  intro W base args ds gs before hval hW _ hk hz hL hsh _
  exact contract H enc W base args ds gs before hval hW hL hsh hz

theorem said : Rows.MsgCasesSaid :=
  OpenClaim.holds_of_cond 3 Tryz.f3 rfl rfl rfl rfl rfl rfl rfl ⟨rfl, rfl, rfl, rfl, rfl⟩ rfl rfl rfl rfl rfl (by kernel_rfl) Tryz.func3 (by kernel_rfl)
    (of_decide_eq_true (by kernel_rfl)) (by unfold Func.isWrapper; first | (rw [if_pos (by decide +kernel)]; kernel_rfl) | (rw [if_neg (by decide +kernel)]; exact ⟨rfl, rfl⟩))
    (fun os started H enc _ F => by rw [OpenClaim.pre_eq_preRow]; exact lifted os started H enc F)

theorem plain (f : FuncId) (fn : Func) (hf : Tryz.pinned.checked.prog.funcNamed "linguister/linguisterlaw6.MsgCases" = some f) (hfn : Tryz.pinned.checked.prog.funcs[f]? = some fn) :
    true = Tryz.pinned.checked.prog.looks [] ∧ ∀ (j : Nat) t, fn.params[j]? = some t → Tryz.pinned.checked.prog.wantsStandIn t = false := by
  obtain rfl : f = 3 := Option.some.inj ((show Tryz.prog.funcNamed "linguister/linguisterlaw6.MsgCases" = some 3 by kernel_rfl).symm.trans hf) |>.symm
  obtain rfl : fn = Tryz.f3 := (Option.some.inj (Tryz.func3.symm.trans hfn)).symm
  refine ⟨by kernel_rfl, fun j t ht => ?_⟩
  rw [Tryz.params3] at ht
  have hm : t ∈ [22, 4] := by simpa using Array.mem_of_getElem? ht
  have hall : ([22, 4].all fun u => !Tryz.prog.wantsStandIn u) = true := by kernel_rfl
  exact (show Tryz.prog.wantsStandIn t = false by simpa using List.all_eq_true.1 hall t hm)

/-- THE CARD. -/
theorem card : Rows.MsgCasesCardSaid :=
  Claim7.holds_tied_plain_at .later [] _ _ _ _ said (fun _ h => by cases h) (by kernel_rfl) (fun _ h => by cases h) msgCases_row_tie rfl ⟨rfl, rfl⟩ (by kernel_rfl) rfl plain (by kernel_rfl)
#print axioms card
end Go.Proofs.YthlcjlmaaaappaaGreatDoor.lawMsgCases
