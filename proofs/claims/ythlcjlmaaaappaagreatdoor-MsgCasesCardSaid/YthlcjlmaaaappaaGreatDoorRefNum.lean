/- linguisterref1.Starts, NumberOf (at three bytes at most); linguisterref2.Exact. -/
import Derived.Test.YthlcjlmaaaappaaGreatDoorRDigits
import Derived.Test.YthlcjlmaaaappaaGreatDoorMsgExPlain
namespace Go.Proofs.YthlcjlmaaaappaaGreatDoor
open Go.RowKit

def numC (r : List UInt8) : Int := match Lib.decFrom 0 r with
  | some m => if Lib.decDigits m = r then (m : Int) else -1
  | none => -1
theorem numC_some {r : List UInt8} {m : Nat} (h : Lib.decFrom 0 r = some m) : numC r = if Lib.decDigits m = r then (m : Int) else -1 := by
  unfold numC; rw [h]
theorem numC_none {r : List UInt8} {k : Nat} {b : UInt8} (hb : r[k]? = some b) (hd : Lib.digitVal b = none) : numC r = -1 := by
  unfold numC
  cases h : Lib.decFrom 0 r with
  | none => rfl
  | some m =>
    obtain ⟨d, h2⟩ := Lib.digit_of_decFrom r 0 m h k b hb
    rw [hd] at h2; cases h2
theorem num_three {r : List UInt8} {m : Nat} (h : Lib.decFrom 0 r = some m) (hl : r.length ≤ 3) : m ≤ 999 := by
  have := Lib.decFrom_lt r 0 m h
  have h2 : 10 ^ r.length ≤ 10 ^ 3 := Nat.pow_le_pow_right (by omega) hl
  omega
theorem ex_num {r : List UInt8} (hl : r.length ≤ 3) : exC (61 :: r) = numC r := by
  show ((match Lib.decFrom 0 r with
    | some m' => if m' ≤ 999 ∧ Lib.decDigits m' = r then (m' : Int) else -1
    | none => -1) : Int) = numC r
  unfold numC
  cases h : Lib.decFrom 0 r with
  | none => rfl
  | some m =>
    have := num_three h hl
    simp only [this, true_and]
theorem ex_long {r : List UInt8} (hl : ¬ r.length ≤ 3) : exC (61 :: r) = -1 := ex_no fun m hm he => hl (by rw [← he]; exact dd_three m hm)

set_option maxHeartbeats 1000000 in
theorem ref_number (s : ByteArray) (w : World) (hs : s.size ≤ 3) :
    Calls Tryz.prog 49 #[.string s] w fun e w' => e = .returned (.int .i64 (numC s.data.toList)) ∧ Below w.heap.size w w' := by
  have hlen : s.data.toList.length = s.size := by simp
  by_cases h0 : s.size = 0
  · have he : s = ⟨#[]⟩ := ByteArray.ext (Array.eq_empty_of_size_eq_zero h0)
    subst he
    have HD : Hid (numC (⟨#[]⟩ : ByteArray).data.toList = -1) := Lib.hid (by decide +kernel)
    go_enter Tryz.func49, Tryz.ntmps49
    go_wp2_with fail
    go_ret
    exact ⟨ret_int HD.out.symm, Below.refl _ _⟩
  · have z0 : ((s.size : Int) == 0) = false := by rw [beq_eq_false_iff_ne]; omega
    have z2 : ¬ (16 : Int) < (s.size : Int) := by omega
    have z1 : (s.size : Int) ≤ 16 := by omega
    have HN := Lib.hid hlen
    clear hlen
    generalize hR : numC s.data.toList = R
    have HR := Lib.hid hR
    clear hR
    go_enter Tryz.func49, Tryz.ntmps49
    go_wp2_with fail
    go_loopw [3, 4] (fun nv i wr => ∃ k n : Nat, k ≤ s.size ∧ i = .int .i64 k ∧ nv = .int .i64 n ∧ n ≤ 999 ∧ Hid (Lib.decFrom 0 (s.data.toList.take k) = some n) ∧ w = wr) (fun _ i _ => s.size - (intOf i).toNat)
    case atStart => exact ⟨0, 0, by omega, rfl, rfl, by omega, Lib.hid rfl, rfl⟩
    case round =>
      obtain ⟨k, n, hk, rfl, rfl, hn, HF, rfl⟩ := hrel
      by_cases hlt : k < s.size
      · have hb : s.data.toList[k]? = some s[k] := by
          rw [List.getElem?_eq_getElem (by rw [HN.out]; exact hlt)]
          rfl
        have i0 : (0 : Int) ≤ (k : Int) := by omega
        have i1 : (k : Int) < (s.size : Int) := by omega
        have hc := s[k].toNat_lt
        by_cases hd : 48 ≤ s[k].toNat ∧ s[k].toNat ≤ 57
        · have hv : Lib.digitVal s[k] = some (s[k].toNat - 48) := by unfold Lib.digitVal; rw [if_pos hd]
          have hstep := Lib.decFrom_take s.data.toList k 0 n _ _ HF.out hb hv
          have hle := num_three hstep (by rw [List.length_take]; have := HN.out; omega)
          have HS := Lib.hid hstep
          obtain ⟨d0, d1⟩ := hd
          have t0 : ¬ (s[k].toNat : Int) < 48 := by omega
          have t1 : ¬ (57 : Int) < (s[k].toNat : Int) := by omega
          have t2 : (48 : Int) ≤ (s[k].toNat : Int) := by omega
          have t3 : (s[k].toNat : Int) ≤ 57 := by omega
          clear hstep hb hv
          go_wp2_with fail
          refine ⟨⟨k + 1, n * 10 + (s[k].toNat - 48), by omega, by congr 1, ?_, hle, HS, trivial⟩, ?_⟩
          · congr 1
            omega
          · simp [intOf]; omega
        · have hv : Lib.digitVal s[k] = none := by unfold Lib.digitVal; rw [if_neg hd]
          have hx := HR.out.symm.trans (numC_none hb hv)
          subst hx
          by_cases q : (s[k].toNat : Int) < 48
          · clear hb hv hd
            go_wp2_with fail
            go_ret
            exact ⟨rfl, Below.refl _ _⟩
          · have q2 : (57 : Int) < (s[k].toNat : Int) := by omega
            clear hb hv hd
            go_wp2_with fail
            go_ret
            exact ⟨rfl, Below.refl _ _⟩
      · obtain rfl : k = s.size := by omega
        have hf := HF.out
        rw [← HN.out, List.take_length] at hf
        have hr := HR.out.symm.trans (numC_some hf)
        have KD := Lib.hid (ref_digits n n (Nat.le_refl _) (by omega) w)
        have n0 : ¬ (1000000000000000 : Int) < (n : Int) := by omega
        by_cases he : Lib.decDigits n = s.data.toList
        · rw [if_pos he] at hr
          subst hr
          have hq : (⟨(Lib.decDigits n).toArray⟩ : ByteArray) = s := by rw [he]
          rw [hq] at KD
          clear hf he hq
          go_wp2_with fail
          refine KD.out.mono ?_
          rintro e w1 ⟨rfl, hb⟩
          go_wp2_with fail
          go_ret
          exact ⟨rfl, hb⟩
        · rw [if_neg he] at hr
          subst hr
          generalize hq : (⟨(Lib.decDigits n).toArray⟩ : ByteArray) = t at *
          have n1 : ¬ t.toList = s.toList := by
            rw [Lib.toList_data, Lib.toList_data, ← hq]
            exact he
          have n2 : (t.toList == s.toList) = false := by rw [beq_eq_false_iff_ne]; exact n1
          clear hf he hq
          go_wp2_with fail
          refine KD.out.mono ?_
          rintro e w1 ⟨rfl, hb⟩
          go_wp2_with fail
          go_ret
          exact ⟨rfl, hb⟩
end Go.Proofs.YthlcjlmaaaappaaGreatDoor
