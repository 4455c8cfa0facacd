/- EvalWraps: the claim: the law returns true at every argument that its statement speaks of. -/
import Derived.Test.YthlcjlmaaaappaaGreatDoorCards
import Derived.Test.YthlcjlmaaaappaaGreatDoorTie
import Derived.Deep.DeepWitnessRowRef
import Derived.LaidMore
import Derived.LaidHandle
import Derived.Lib.LaidTab
import Derived.SevenTiedAt
import Derived.Lay
import Derived.MakeChecks
import Derived.HandedShaped
import Derived.Stop.LaidErr
import Derived.Test.YthlcjlmaaaappaaGreatDoorEw1
import Derived.Test.YthlcjlmaaaappaaGreatDoorEw15
import Derived.Test.YthlcjlmaaaappaaGreatDoorEw17
import Derived.Test.YthlcjlmaaaappaaGreatDoorEw23
import Derived.Test.YthlcjlmaaaappaaGreatDoorEw34
import Derived.Test.YthlcjlmaaaappaaGreatDoorEw35
set_option linter.unusedVariables false
namespace Go.Proofs.YthlcjlmaaaappaaGreatDoor.lawEvalWraps
open Go.ChangeShapes Go.WideShapes Go.ChangeAt Go.RowKit Go.Joins Go.Proofs.YthlcjlmaaaappaaGreatDoor

theorem own : ownKnob Tryz.prog.godebug = none := by kernel_rfl

theorem env {W : World} (hsh : W.ShapedOpen Tryz.prog) (h : laidMetH Tryz.prog Rows.evalWrapsUptoRow.laid W) : RuleEnv W := env_of hsh (plain_of h) (List.mem_filter.2 ⟨.tail _ (.tail _ (.head _)), rfl⟩) (List.mem_filter.2 ⟨.tail _ (.tail _ (.tail _ (.tail _ (.tail _ (.tail _ (.head _)))))), rfl⟩) (List.mem_filter.2 ⟨.tail _ (.tail _ (.tail _ (.tail _ (.tail _ (.head _))))), rfl⟩)
theorem mk {W : World} (h : laidMetH Tryz.prog Rows.evalWrapsUptoRow.laid W) : MKinds W := mkinds_of (plain_of h) (List.mem_filter.2 ⟨.tail _ (.tail _ (.tail _ (.tail _ (.tail _ (.tail _ (.tail _ (.head _))))))), rfl⟩)
theorem kd {W : World} (h : laidMetH Tryz.prog Rows.evalWrapsUptoRow.laid W) : KindsAt W := kinds_of (plain_of h) (List.mem_filter.2 ⟨.tail _ (.tail _ (.tail _ (.tail _ (.tail _ (.tail _ (.tail _ (.tail _ (.head _)))))))), rfl⟩)
theorem nl {W : World} (h : laidMetH Tryz.prog Rows.evalWrapsUptoRow.laid W) : NumLaid W := num_of (plain_of h) (List.mem_filter.2 ⟨.tail _ (.tail _ (.tail _ (.tail _ (.tail _ (.tail _ (.tail _ (.tail _ (.tail _ (.head _))))))))), rfl⟩) (List.mem_filter.2 ⟨.tail _ (.tail _ (.tail _ (.tail _ (.tail _ (.tail _ (.tail _ (.tail _ (.tail _ (.tail _ (.head _)))))))))), rfl⟩)
theorem et {W : World} (h : laidMetH Tryz.prog Rows.evalWrapsUptoRow.laid W) : ErrT W := errT_of h (.tail _ (.tail _ (.tail _ (.tail _ (.head _)))))

set_option maxRecDepth 100000 in
theorem contract (H : Type) (enc : TypeId × Value → H) (W : World) (base : Nat) (args : Array Value) (ds gs : List (DataW H)) (before : List MemPlace)
    (hval : ∀ (j : Nat) t v, Tryz.f6.params[j]? = some t → args[j]? = some v → Value.okWide Tryz.prog W .any base t v)
    (hW : DataW.Whole enc Tryz.prog Tryz.f6.params.toList Rows.evalWrapsSpec.vars false W args.toList ds gs before) (hL : laidMetH Tryz.prog Rows.evalWrapsUptoRow.laid W) (hk : Rows.uptoSmall H (ds ++ gs) = true) (hsh : W.ShapedOpen Tryz.prog) (hreach : (DataW.weightsEach Tryz.prog (Tryz.f6.params.toList ++ (OpenSpec.ofChange Rows.evalWrapsSpec).bare.plain.varTypes Tryz.prog) (ds ++ gs)).all (· ≤ reachBytes) = true) :
    Calls Tryz.prog 6 args W fun e W' => ∃ v, e = .returned v ∧ Rows.evalWrapsSpec.post enc Tryz.prog Tryz.f6 false true false false W args v W' := by
  have hW' := hW
  obtain ⟨p, q, hA0, hV, rfl, hfz, hnd⟩ := hW
  have hA : DataW.TrodAll enc Tryz.prog W 0 (fun _ => true) true Tryz.f6.params.toList args.toList ds p := hA0
  clear hA0
  rw [Tryz.params6] at hA hval
  obtain ⟨v0, vs0, d0, ds0, p0, q0, hargs, rfl, rfl, h0, r0⟩ := trodAll_cons hA
  obtain ⟨v1, vs1, d1, ds1, p1, q1, rfl, rfl, rfl, h1, r1⟩ := trodAll_cons r0
  obtain ⟨v2, vs2, d2, ds2, p2, q2, rfl, rfl, rfl, h2, r2⟩ := trodAll_cons r1
  obtain ⟨v3, vs3, d3, ds3, p3, q3, rfl, rfl, rfl, h3, r3⟩ := trodAll_cons r2
  obtain ⟨v4, vs4, d4, ds4, p4, q4, rfl, rfl, rfl, h4, r4⟩ := trodAll_cons r3
  obtain ⟨rfl, rfl, rfl⟩ := trodAll_nil r4
  obtain rfl : args = #[v0, v1, v2, v3, v4] := by cases args; simp_all
  obtain ⟨rfl, rfl⟩ := trodVars_none hV
  simp only [Tryz.params6, List.cons_append, List.nil_append, DataW.weightsEach, List.all_append, Bool.and_eq_true] at hreach
  obtain ⟨hr0, _⟩ := hreach
  obtain ⟨a4, b4, x4, y4, m4, rfl, rfl, hp4, hx4, hy4⟩ := open_agg2 Tryz.underlying51 (by kernel_rfl) (by kernel_rfl) (hval 4 51 v4 rfl rfl) h4
  obtain ⟨Y4, hY4, ex4, _⟩ := DataW.trod_int Tryz.underlying3 hx4
  obtain ⟨M4, hM4, ey4, _⟩ := DataW.trod_int Tryz.underlying3 hy4
  simp only [List.cons.injEq, and_true] at hY4 hM4
  obtain rfl := hY4
  obtain rfl := hM4
  simp only [Rows.uptoSmall, List.append_nil, Rows.uptoBulkAll, decide_eq_true_eq] at hk
  obtain ⟨f, ms, hN, hfit⟩ := open_msgF (L := 1048576) (hval 0 23 v0 rfl rfl) h0 hr0 (by omega)
  obtain ⟨lng, rfl, rfl, rfl, _⟩ := Go.ChangeMaps.open_string Tryz.underlying9 (hval 1 9 v1 rfl rfl) h1
  obtain ⟨A, c, ags, rfl, hc, hc2, hA0, hArg, hl, hz⟩ := open_args (L := 1048576) (hval 2 46 v2 rfl rfl) h2 (by omega)
  obtain ⟨text, rfl, rfl, rfl, _⟩ := Go.ChangeMaps.open_string Tryz.underlying9 (hval 3 9 v3 rfl rfl) h3
  rw [bulk_str, bulk_str] at hk
  refine (walkW 1048576 f v0 ms lng text A c ags _ _ W (env hsh hL) (mk hL) (kd hL) (nl hL) (et hL) hN hArg hA0 hc hc2 (by omega) (by omega) (by omega) hfit (fun a ha => by obtain ⟨z1, z2⟩ := hz a ha; exact ⟨by omega, z2⟩) (by omega) (by omega)).mono fun e W' ⟨he, hb⟩ => ?_
  subst he
  exact ⟨_, rfl, law_post (by kernel_rfl) (by kernel_rfl) (by kernel_rfl) Tryz.underlying4 rfl hW' rfl hb⟩

theorem door_met (os : Os) (args : Array Value) : laidMetH Tryz.prog Rows.evalWrapsUptoRow.laid ((laidH os Rows.evalWrapsUptoRow.laid).forCall (fun _ _ => 0) ⟨#[], args, []⟩).memory :=
  laidH_met (os := os) (by simp [World.memory, World.forCall, Input.heap]) (by kernel_rfl) (by kernel_rfl) (by kernel_rfl) (by kernel_rfl)

set_option maxRecDepth 100000 in
theorem reads (os : Os) {H : Type} (enc : TypeId × Value → H) : ∃ places, DataW.whole enc Tryz.prog ((laidH os Rows.evalWrapsUptoRow.laid).forCall (fun _ _ => 0) ⟨#[], #[.slice none 0 0, .string ⟨#[]⟩, .slice none 0 0, .string ⟨#[]⟩, .agg #[.int .i64 0, .int .i64 0]], []⟩).memory Tryz.f6.params.toList Rows.evalWrapsSpec.vars false (#[.slice none 0 0, .string ⟨#[]⟩, .slice none 0 0, .string ⟨#[]⟩, .agg #[.int .i64 0, .int .i64 0]] : Array Value).toList 8 = some ([.nil, .lit (.string []), .nil, .lit (.string []), .agg [.lit (.int .i64 0), .lit (.int .i64 0)]], [], places) :=
  ⟨[], by kernel_rfl⟩

set_option maxRecDepth 100000 in
theorem lifted (os : Os) (started : os.Started) (H : Type) (enc : TypeId × Value → H) (F : Stop.Interp) :
    ReturnsInHanded {} Tryz.checked os 6 .any ((Rows.OpenSpec.upto Rows.evalWrapsSpec).preRow enc Tryz.prog Tryz.f6 Rows.evalWrapsUptoRow.domain false Rows.evalWrapsUptoRow.laid) (((Rows.OpenSpec.upto Rows.evalWrapsSpec).at F).post enc Tryz.prog Tryz.f6 false true false false) := by
  obtain ⟨places, hx⟩ := reads os enc
  refine returnsInHanded_of_row (C := Tryz.checked) (s := (Rows.OpenSpec.upto Rows.evalWrapsSpec)) own started (by kernel_rfl) Tryz.func6
    (witness_row_atRef (enc := enc) (C := Tryz.checked) false (laidH os Rows.evalWrapsUptoRow.laid) #[.slice none 0 0, .string ⟨#[]⟩, .slice none 0 0, .string ⟨#[]⟩, .agg #[.int .i64 0, .int .i64 0]] rfl (by kernel_rfl) (by kernel_rfl) (by kernel_rfl)
      (OpenSpec.preRow_of_cond 8 hx (by kernel_rfl) (fun k hk => by cases hk; kernel_rfl) (by kernel_rfl) (door_met os _))) ?_
  intro W base args ds gs before hval hW _ hk hz hL hsh _
  exact contract H enc W base args ds gs before hval hW hL (hk _ rfl) hsh hz

theorem said : Rows.EvalWrapsUptoSaid :=
  OpenClaim.holds_of_cond 6 Tryz.f6 rfl rfl rfl rfl rfl rfl rfl ⟨rfl, rfl, rfl, rfl, rfl⟩ rfl rfl rfl rfl rfl (by kernel_rfl) Tryz.func6 (by kernel_rfl)
    (of_decide_eq_true (by kernel_rfl)) (by unfold Func.isWrapper; first | (rw [if_pos (by decide +kernel)]; kernel_rfl) | (rw [if_neg (by decide +kernel)]; exact ⟨rfl, rfl⟩))
    (fun os started H enc _ F => by rw [OpenClaim.pre_eq_preRow]; exact lifted os started H enc F)

theorem plain (f : FuncId) (fn : Func) (hf : Tryz.pinned.checked.prog.funcNamed "linguister/linguisterlaw6.EvalWraps" = some f) (hfn : Tryz.pinned.checked.prog.funcs[f]? = some fn) :
    true = Tryz.pinned.checked.prog.looks [] ∧ ∀ (j : Nat) t, fn.params[j]? = some t → Tryz.pinned.checked.prog.wantsStandIn t = false := by
  obtain rfl : f = 6 := Option.some.inj ((show Tryz.prog.funcNamed "linguister/linguisterlaw6.EvalWraps" = some 6 by kernel_rfl).symm.trans hf) |>.symm
  obtain rfl : fn = Tryz.f6 := (Option.some.inj (Tryz.func6.symm.trans hfn)).symm
  refine ⟨by kernel_rfl, fun j t ht => ?_⟩
  rw [Tryz.params6] at ht
  have hm : t ∈ [23, 9, 46, 9, 51] := by simpa using Array.mem_of_getElem? ht
  have hall : ([23, 9, 46, 9, 51].all fun u => !Tryz.prog.wantsStandIn u) = true := by kernel_rfl
  exact (show Tryz.prog.wantsStandIn t = false by simpa using List.all_eq_true.1 hall t hm)

/-- THE CARD. -/
theorem card : Rows.EvalWrapsUptoCardSaid :=
  Claim7.holds_tied_plain_at .later [] _ _ _ _ said (fun _ h => by cases h) (by kernel_rfl) (fun _ h => by cases h) evalWrapsUpto_row_tie rfl ⟨rfl, rfl⟩ (by kernel_rfl) rfl plain (by kernel_rfl)
#print axioms card
end Go.Proofs.YthlcjlmaaaappaaGreatDoor.lawEvalWraps
