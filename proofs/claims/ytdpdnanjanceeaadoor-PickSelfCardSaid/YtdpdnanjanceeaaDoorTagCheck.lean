/- tag.script, region, Check. -/
import Derived.Test.YtdpdnanjanceeaaDoorTag
import Derived.Test.YtdpdnanjanceeaaDoorShelf
namespace Go.Proofs.YtdpdnanjanceeaaDoor
open Go.RowKit

theorem made_low' (s : ByteArray) (a b : Nat) (w : World) (v : Bool) (hv : madeB lowB s.data.toList a b = v) (hs : s.size ≤ 9223372036854775807) (ha : a ≤ 100) (hb : b ≤ 100) :
    Calls Tryd.prog 32 #[.func (.func 31) #[] #[], .string s, .int .i64 a, .int .i64 b] w fun e w' => e = .returned (.bool v) ∧ w = w' := hv ▸ made_low s a b w hs ha hb
theorem tag_script (s : ByteArray) (w : World) (hs : s.size ≤ 9223372036854775807) :
    Calls Tryd.prog 36 #[.string s] w fun e w' => e = .returned (.bool (scriptB s.data.toList)) ∧ w = w' := by
  by_cases h4 : s.size = 4
  · have i4 : ((s.size : Int) = 4) := by omega
    have hl : s.data.toList.length = 4 := by simpa using h4
    have h0 : 0 < s.size := by omega
    have i0 : (0 : Int) < (s.size : Int) := by omega
    have i1 : (1 : Int) ≤ (s.size : Int) := by omega
    have e0 : s.data.toList.getD 0 0 = s[0] := by
      rw [List.getD_eq_getElem?_getD, List.getElem?_eq_getElem (by omega)]; rfl
    have e1 : (s.extract 1 s.size).data.toList = s.data.toList.drop 1 := by
      rw [Lib.extract_data, List.take_of_length_le (by rw [List.length_drop]; simp)]
    have E0 := Lib.hid e0
    have E1 := Lib.hid e1
    have HL := Lib.hid hl
    have KH := Lib.hid (fun W => tag_high s[0] W)
    have KM := Lib.hid (fun W => made_low (s.extract 1 s.size) 3 3 W (by simp; omega) (by omega) (by omega))
    have b4 : ((s.size : Int) == 4) = true := by simpa using i4
    clear e0 e1 hl h4 i4
    cases hh : highB s[0]
    · have K2 := Lib.hid (fun W => by have := KH.out W; rw [hh] at this; exact this)
      have HH := Lib.hid hh
      clear hh KH
      go_enter Tryd.func36, Tryd.ntmps36
      go_wp2_with fail
      refine (K2.out _).mono ?_
      rintro e w1 ⟨rfl, rfl⟩
      go_wp2_with fail
      go_ret
      exact ⟨ret_bool (by unfold scriptB; rw [HL.out, E0.out, HH.out]; rfl), rfl⟩
    · have K2 := Lib.hid (fun W => by have := KH.out W; rw [hh] at this; exact this)
      have HH := Lib.hid hh
      clear hh KH
      go_enter Tryd.func36, Tryd.ntmps36
      go_wp2_with fail
      refine (K2.out _).mono ?_
      rintro e w1 ⟨rfl, rfl⟩
      go_wp2_with fail
      refine (KM.out _).mono ?_
      rintro e w1 ⟨rfl, rfl⟩
      go_wp2_with fail
      go_ret
      refine ⟨ret_bool ?_, rfl⟩
      unfold scriptB
      rw [HL.out, E0.out, HH.out]
      first
        | rw [E1.out]
        | rw [List.take_of_length_le (by simp), ← List.drop_one]
      rfl
  · have hd : scriptB s.data.toList = false := by
      unfold scriptB
      have : s.data.toList.length ≠ 4 := by simpa using h4
      rw [decide_eq_false this]; rfl
    have HD := Lib.hid hd
    have b4 : ((s.size : Int) == 4) = false := by simp; omega
    clear hd h4
    go_enter Tryd.func36, Tryd.ntmps36
    go_wp2_with fail
    go_ret
    exact ⟨ret_bool HD.out.symm, rfl⟩
theorem tag_region (s : ByteArray) (w : World) (hs : s.size ≤ 9223372036854775807) :
    Calls Tryd.prog 34 #[.string s] w fun e w' => e = .returned (.bool (regionB s.data.toList)) ∧ w = w' := by
  have KH := Lib.hid (fun W => made_high s 2 2 W hs (by omega) (by omega))
  have KD := Lib.hid (fun W => made_digit s 3 3 W hs (by omega) (by omega))
  cases hh : madeB highB s.data.toList 2 2
  · have K2 := Lib.hid (fun W => by have := KH.out W; rw [hh] at this; exact this)
    have HH := Lib.hid hh
    clear hh KH
    go_enter Tryd.func34, Tryd.ntmps34
    go_wp2_with fail
    refine (K2.out _).mono ?_
    rintro e w1 ⟨rfl, rfl⟩
    go_wp2_with fail
    refine (KD.out _).mono ?_
    rintro e w1 ⟨rfl, rfl⟩
    go_wp2_with fail
    go_ret
    exact ⟨ret_bool (by unfold regionB; rw [HH.out]; rfl), rfl⟩
  · have K2 := Lib.hid (fun W => by have := KH.out W; rw [hh] at this; exact this)
    have HH := Lib.hid hh
    clear hh KH
    go_enter Tryd.func34, Tryd.ntmps34
    go_wp2_with fail
    refine (K2.out _).mono ?_
    rintro e w1 ⟨rfl, rfl⟩
    go_wp2_with fail
    go_ret
    exact ⟨ret_bool (by unfold regionB; rw [HH.out]; rfl), rfl⟩

/-- a tag as a value -/
abbrev tagV (l s r : ByteArray) (A : Option Addr) (n c : Nat) : Value := .agg #[.string l, .string s, .string r, .slice A n c]
abbrev listsOf (vs : List ByteArray) : List Bs := vs.map (·.data.toList)
abbrev errT (k : Int) : Value := .iface 40 (.int .i64 k)
/-- what an error is told as -/
def errOf (k : Int) : Value := if k = 0 then .nilIface else errT k
theorem isEmpty_iff (s : ByteArray) : s.toList = [] ↔ s.data.toList.isEmpty = true := by rw [Lib.toList_data, List.isEmpty_iff]
theorem containsS_lists (zs : List ByteArray) (x : ByteArray) : Lib.containsS zs x = (listsOf zs).contains x.data.toList := by
  rw [Bool.eq_iff_iff, Lib.containsS_iff, List.contains_iff_mem, List.mem_map]
  constructor
  · intro h; exact ⟨x, h, rfl⟩
  · rintro ⟨y, hy, e⟩
    have : y = x := ByteArray.ext (Array.ext' e)
    exact this ▸ hy
/-- slices.Contains of a row of texts -/
theorem contains_strs (A : Option Addr) (c k : Nat) (vs : List ByteArray) (x : ByteArray) (w : World) (h : StrsIn w A vs) (hk : k ≤ vs.length) (hn : vs.length ≤ 9223372036854775807) :
    Calls Tryd.prog 38 #[.slice A k c, .string x] w fun e w' => e = .returned (.bool ((listsOf (vs.take k)).contains x.data.toList)) ∧ w = w' := by
  rcases h with rfl | ⟨bk, o, rfl, hc⟩
  · obtain rfl : k = 0 := by simpa using hk
    refine (Tryd.slices_Contains_string_empty A c x w).mono ?_
    rintro e w' ⟨rfl, rfl⟩
    exact ⟨rfl, rfl⟩
  · refine (Tryd.slices_Contains_string bk o k c vs x w hk (by omega) (fun j hj => ?_)).mono ?_
    · rw [hc j vs[j] (List.getElem?_eq_getElem hj), List.getD_eq_getElem?_getD, List.getElem?_eq_getElem hj]; rfl
    · rintro e w' ⟨rfl, rfl⟩
      exact ⟨by rw [containsS_lists], rfl⟩

theorem varErr_step (vs : List ByteArray) (k : Nat) (v : ByteArray) (h : vs[k]? = some v) : varErr (listsOf (vs.take k)) (listsOf (vs.drop k)) =
    if madeB bothB v.data.toList 5 8 = false then 3 else if (listsOf (vs.take k)).contains v.data.toList then 5 else varErr (listsOf (vs.take (k + 1))) (listsOf (vs.drop (k + 1))) := by
  have hk : k < vs.length := (List.getElem?_eq_some_iff.1 h).1
  have hv : vs[k] = v := (List.getElem?_eq_some_iff.1 h).2
  have e1 : vs.drop k = v :: vs.drop (k + 1) := by rw [List.drop_eq_getElem_cons hk, hv]
  have e2 : vs.take (k + 1) = vs.take k ++ [v] := by rw [List.take_add_one, h]; rfl
  unfold listsOf
  rw [e1, e2, List.map_cons, varErr, List.map_append]
  rfl
end Go.Proofs.YtdpdnanjanceeaaDoor
