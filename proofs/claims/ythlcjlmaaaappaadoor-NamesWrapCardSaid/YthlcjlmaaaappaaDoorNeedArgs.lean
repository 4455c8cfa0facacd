/- names.Of. -/
import Derived.Test.YthlcjlmaaaappaaDoorNeedOf
import Derived.Test.YthlcjlmaaaappaaDoorArgs
namespace Go.Proofs.YthlcjlmaaaappaaDoor
open Go.RowKit

def argN (n : Need) : ArgC := ⟨n.name, n.num, 0, 0, ⟨#[]⟩⟩

set_option maxHeartbeats 2000000 in
theorem names_Of_ok (f : Nat) (v : Value) (ms : List Nd) (w : World) (hE : RuleEnv w) (hK : MKinds w) (hN : NodesIn f w v ms) (h : namesP f ms = 0) :
    Calls Tryd.prog 7 #[v] w fun e w' => (∃ v', e = .returned (.tuple #[v', .nilIface]) ∧ OwnsG kArg w' w.heap.size v' ((allN f [] ms).map argN)) ∧ Below w.heap.size w w' := by
  have K := Lib.hid (names_of_ok f v ms w hE hK hN h)
  have hm : msgP f ms = 0 := by
    unfold namesP at h
    split at h
    · rename_i h1; exact h1
    · exact h
  have hlen : (allN f [] ms).length ≤ 60 := by have h1 := (msg_small hm).1; have h2 := allN_length f [] ms; simp at h2; omega
  obtain ⟨A0, d0, rfl, _, _, _⟩ := hN.form
  clear hE hK hN h hm
  generalize allN f [] ms = L at *
  go_enter Tryd.func7, Tryd.ntmps7
  go_wp2_with fail
  refine K.out.mono ?_
  rintro e w1 ⟨⟨A, c, rfl, hc, hc2, hin⟩, hb1⟩
  have HIN := Lib.hid hin
  have HB1 := Lib.hid hb1
  have s1 := hb1.size
  clear hin hb1
  go_wp2_with fail
  go_loopw [6, 19] (fun p i wr => ∃ k : Nat, k ≤ L.length ∧ i = .int .i64 k ∧ Hid (OwnsG kArg wr w1.heap.size p ((L.take k).map argN)) ∧ Hid (Below w1.heap.size w1 wr)) (fun _ i _ => L.length - (intOf i).toNat)
  case atStart => exact ⟨0, Nat.zero_le _, rfl, Lib.hid (OwnsG.nil _ _), Lib.hid (Below.refl _ _)⟩
  case round =>
    obtain ⟨k, hk, rfl, HO, HB⟩ := hrel
    have sB := HB.out.size
    by_cases hlt : k < L.length
    · obtain ⟨b, o, rfl, hat⟩ := (HIN.out.below HB.out).at (by omega)
      obtain ⟨x, hx⟩ : ∃ x, L[k]? = some x := ⟨L[k], List.getElem?_eq_getElem hlt⟩
      obtain ⟨n0, n1, n2⟩ := hat k x hx
      have i0 : (0 : Int) ≤ (k : Int) := by omega
      have i1 : (k : Int) < (L.length : Int) := by omega
      have i2 : (k : Int) ≤ (c : Int) := by omega
      have e1 : IntKind.i64.wrap ((k : Int) + 1) = (k : Int) + 1 := IntWalk.i64_in _ (by omega)
      have HT : Hid ((L.take k).map argN ++ [argN x] = (L.take (k + 1)).map argN) := Lib.hid (by rw [List.take_add_one, hx, List.map_append]; rfl)
      have hlen2 : ((L.take k).map argN).length ≤ 60 := by rw [List.length_map, List.length_take]; omega
      have hbx : Below wr.heap.size wr (wr.alloc (.cells #[.string x.name, .bool x.num, .bool x.text] 55)) := (Below.refl _ _).alloc (Nat.le_refl _) _
      have hby : Below wr.heap.size wr ((wr.alloc (.cells #[.string x.name, .bool x.num, .bool x.text] 55)).alloc (.cells #[.string x.name, .bool x.num, .int .i64 0, .int .i64 0, .string ⟨#[]⟩] 45)) := hbx.alloc hbx.size _
      have HO2 := Lib.hid (HO.out.below hby)
      have HY := Lib.hid hby
      have X0 : Hid (∀ i u, (kArg.cells (argN x))[i]? = some u → ((wr.alloc (.cells #[.string x.name, .bool x.num, .bool x.text] 55)).alloc (.cells #[.string x.name, .bool x.num, .int .i64 0, .int .i64 0, .string ⟨#[]⟩] 45)).cell? ⟨wr.heap.size + 1, i, none⟩ = some u) := Lib.hid (fun i u hu => by
        match i, hu with
        | 0, hu => cases hu; (first | (go_simp; done) | (go_simp; rfl))
        | 1, hu => cases hu; (first | (go_simp; done) | (go_simp; rfl))
        | 2, hu => cases hu; (first | (go_simp; done) | (go_simp; rfl))
        | 3, hu => cases hu; (first | (go_simp; done) | (go_simp; rfl))
        | 4, hu => cases hu; (first | (go_simp; done) | (go_simp; rfl)))
      clear hat hx hbx hby
      generalize (L.take k).map argN = T at *
      go_wp2_with (at_builtin; refine wpList_append_gB (k := kArg) rfl _ _ rfl (argN x) rfl rfl HO2.out X0.out (by simp; omega) (by show (T.length + 1) * 56 ≤ _; omega) (by omega) ?_; intro v' w' ho hoff hfr; have HBL := Lib.hid (HO2.out.grown hoff (by simp; omega)); have HO3 := Lib.hid ho; clear ho hoff hfr)
      have HB2 := Lib.hid (HB.out.trans (HY.out.mono sB) |>.trans HBL.out)
      go_roundw
      case rel => exact ⟨k + 1, by omega, by go_num, Lib.hid (HT.out ▸ HO3.out), HB2⟩
      case measure => simp [intOf]; omega
    · obtain rfl : k = L.length := by omega
      have hr := HO.out
      rw [List.take_length] at hr
      have HR := Lib.hid hr
      clear hr
      go_wp2_with fail
      go_ret2
      exact ⟨⟨_, rfl, HR.out.base s1⟩, HB1.out.trans (HB.out.mono s1)⟩
end Go.Proofs.YthlcjlmaaaappaaDoor
