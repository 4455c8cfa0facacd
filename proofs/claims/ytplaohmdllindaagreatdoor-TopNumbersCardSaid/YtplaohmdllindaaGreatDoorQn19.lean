/- MKindsLaid: texts put together. -/
import Derived.Test.YtplaohmdllindaaGreatDoorQn18
import Derived.Test.YtplaohmdllindaaGreatDoorQn10
import Derived.SliceStrings
set_option linter.unusedVariables false
set_option linter.unusedSimpArgs false
/- What a row that lists msg.kinds gives the walks. -/
namespace Go.Proofs.YtplaohmdllindaaGreatDoor
open Go.RowKit Go.ChangeShapes Go.WideShapes

theorem gMKinds : Tryz.prog.globalNamed "linguister/msg.kinds" = some 4 := by kernel_rfl
theorem gMKindsType : (Tryz.prog.globals[4]?).map (·.type) = some 177 := by kernel_rfl
theorem strs_inj {H : Type} : ∀ {a b : List ByteArray}, strs (H := H) a = strs b → a = b
  | [], [], _ => rfl
  | [], _ :: _, h => by simp [strs] at h
  | _ :: _, [], h => by simp [strs] at h
  | x :: r, y :: q, h => by
    simp only [strs, List.map_cons, List.cons.injEq, DataW.lit.injEq, Lit.string.injEq] at h
    have hx : x = y := ByteArray.ext (Array.ext' h.1)
    rw [hx, strs_inj (a := r) (b := q) h.2]
set_option maxRecDepth 100000 in
theorem mkinds_of {W : World} {l : List (String × DataW Unit)} (h : laidMet Tryz.prog l W) (hm : ("linguister/msg.kinds", Rows.laid_linguister_msg_kinds) ∈ l) : MKinds W := by
  obtain ⟨g', t', cs, fuel, p, hg', ht', hvar, hd⟩ := Lib.laidMet.reads h hm
  obtain rfl := Option.some.inj (gMKinds.symm.trans hg')
  obtain rfl := Option.some.inj (gMKindsType.symm.trans ht')
  rcases open_strings Tryz.underlying177 Tryz.underlying9 (by kernel_rfl) hd with ⟨_, hx⟩ | ⟨a, len, cap, ss, hcs, _, hl, hm, hz, hx, hcell, hws⟩
  · unfold Rows.laid_linguister_msg_kinds at hx
    cases hx
  · have hx1 := congrArg Prod.fst hx
    have hk : Rows.laid_linguister_msg_kinds (H := Unit) = .slice (strs kinds6) [] := rfl
    simp only [hk, DataW.slice.injEq] at hx1
    have hk6 : ss.take len = kinds6 := (strs_inj hx1.1).symm
    have hlen : len = 6 := by
      have h1 : (ss.take len).length = 6 := by rw [hk6]; rfl
      rw [List.length_take, hz, if_pos rfl] at h1
      omega
    have hsl : 6 ≤ ss.length := by rw [hz, if_pos rfl]; omega
    have h0 := hcell 0 (by omega)
    obtain ⟨b, o, rfl⟩ : ∃ b o, a = ⟨b, o, none⟩ := by
      obtain ⟨b, o, spot⟩ := a
      have hspot : spot = none := by simpa [Addr.add] using World.cell?_spot h0
      subst hspot
      exact ⟨b, o, rfl⟩
    refine ⟨b, o, cap, ?_, fun j hj => ?_⟩
    · rw [World.var?_cell gMKinds hvar 0]
      obtain ⟨cs⟩ := cs
      obtain rfl : cs = _ := hcs
      simp [hlen]
    · have := hcell j (by omega)
      rw [Go.WideShapes.add_plain] at this
      rw [this]
      congr 2
      have e : ss[j]? = kinds6[j]? := by
        rw [← hk6, List.getElem?_take, if_pos (by omega)]
      rw [List.getD_eq_getElem?_getD, e, List.getD_eq_getElem?_getD]
      have : j < kinds6.length := hj
      rw [List.getElem?_eq_getElem this]
      rfl
end Go.Proofs.YtplaohmdllindaaGreatDoor
