/- MsgCases: the walk at forty keys at most. -/
import Derived.Test.YthlcjlmaaaappaaGreatDoorMsgWalk
import Derived.Test.YthlcjlmaaaappaaGreatDoorSameErr
import Derived.Test.YthlcjlmaaaappaaGreatDoorRowSet
import Derived.Deep.RegionLaw
import Derived.Deep.DeepCutAuto
import Derived.StillTailTactics
namespace Go.Proofs.YthlcjlmaaaappaaGreatDoor
open Go.RowKit

/-- the law's own node: its cases so far -/
def MCAt (w wr : World) (gb : Nat) (kd : Int) (xs : List ByteArray) : Prop :=
  Below w.heap.size w wr ∧ wr.cell? ⟨gb, 0, none⟩ = some (.int .i64 kd) ∧ wr.cell? ⟨gb, 1, none⟩ = some (.string ⟨#[115]⟩) ∧ wr.cell? ⟨gb, 2, none⟩ = some (.int .i64 0) ∧ wr.frozen? ⟨gb, 3, none⟩ = false ∧
    ∃ A c, wr.cell? ⟨gb, 3, none⟩ = some (.slice A xs.length c) ∧ OwnsG kCase wr w.heap.size (.slice A xs.length c) xs ∧ gb ∉ (Value.slice A xs.length c).ownBlock.toList
theorem MCAt.below {w wr wx : World} {gb : Nat} {kd : Int} {xs : List ByteArray} (h : MCAt w wr gb kd xs) (hb : Below wr.heap.size wr wx) : MCAt w wx gb kd xs := by
  obtain ⟨h0, h1, h2, h3, h4, A, c, h5, h6, h7⟩ := h
  exact ⟨h0.trans (hb.mono h0.size), carry hb h1, carry hb h2, carry hb h3, carryF hb (lt_of_cell h5) h4, A, c, carry hb h5, h6.below hb, h7⟩

theorem lists_contains (xs : List ByteArray) (x : ByteArray) : (listsOf xs).contains x.data.toList = Lib.containsS xs x := by
  rw [Bool.eq_iff_iff, Lib.containsS_iff, List.contains_iff_mem]
  constructor
  · intro hm
    obtain ⟨y, hy, hye⟩ := List.mem_map.1 hm
    have : y = x := ByteArray.ext (Array.ext' hye)
    exact this ▸ hy
  · exact fun h => List.mem_map_of_mem h
set_option maxRecDepth 100000 in
set_option maxHeartbeats 4000000 in
/-- the loop, and what stands behind it -/
theorem walk_few (A : Option Addr) (ks : List ByteArray) (c : Nat) (plain : Bool) (w : World) (hE : RuleEnv w) (hT : ErrT w) (hK : MKinds w) (hS : StrsIn w A ks) (hn : ks.length ≤ 40) (hc : ks.length ≤ c) (hz : ∀ k ∈ ks, k.size ≤ 140737488355328) :
    Calls Tryz.prog 3 #[.slice A ks.length c, .bool plain] w fun e w' => e = .returned (.bool true) ∧ Below w.heap.size w w' := by
  have i40 : ¬ (40 : Int) < (ks.length : Int) := by omega
  have i41 : (ks.length : Int) ≤ 40 := by omega
  obtain ⟨kd, hkd⟩ : ∃ kd : Int, kd = if plain then 4 else 5 := ⟨_, rfl⟩
  have hk45 : kd = 4 ∨ kd = 5 := by cases plain <;> simp at hkd <;> omega
  have HKD := Lib.hid hkd
  have HE := Lib.hid hE
  have HT := Lib.hid hT
  have HK := Lib.hid hK
  have HS := Lib.hid hS
  have HZ := Lib.hid hz
  clear hE hT hK hS hz hkd
  go_enter Tryz.func3, Tryz.ntmps3
  go_wp2_with fail
  refine (parse_a _).mono ?_
  rintro e w1 ⟨g, d, rfl, hb⟩
  have HB1 := Lib.hid hb
  have s1 := hb.size
  clear hb
  go_upto_if 35 with fail
  go_cut [] (fun wx => Hid (MCAt w wx w1.heap.size kd []))
  case first =>
    have hbx : Below w.heap.size w (w1.alloc (.cells #[.int .i64 5, .string ⟨#[115]⟩, .int .i64 0, .slice none 0 0] 30)) := HB1.out.alloc s1 _
    have HBX := Lib.hid hbx
    clear hbx
    cases plain
    · obtain rfl : kd = 5 := by simpa using HKD.out
      go_wp2_with fail
      go_meet
      exact Lib.hid ⟨HBX.out, by go_simp, by go_simp, by go_simp, by go_simp, none, 0, by go_simp, OwnsG.nil _ _, by simp [Value.ownBlock]⟩
    · obtain rfl : kd = 4 := by simpa using HKD.out
      go_wp2_with fail
      go_meet
      exact Lib.hid ⟨HB1.out.alloc s1 _, by go_simp, by go_simp, by go_simp, by go_simp, none, 0, by go_simp, OwnsG.nil _ _, by simp [Value.ownBlock]⟩
  case rest =>
    have HM := Lib.hid hcut.out
    clear hcut
    generalize w1.heap.size = gb at *
    have HX : Hid (faultAt kd ks 0 0 = caseErr kd [] ks) := Lib.hid rfl
    generalize hRR : caseErr kd [] ks = R at *
    have HRR := Lib.hid hRR
    clear hRR
    go_wp2_with fail
    go_loopw [8, 9] (fun ev i wr => ∃ (j : Nat) (e : Int), j ≤ ks.length ∧ i = .int .i64 j ∧ ev = .int .i64 e ∧ Hid (e = 0 ∨ e = 3 ∨ e = 5) ∧ Hid (faultAt kd ks j e = R) ∧ Hid (MCAt w wr gb kd (ks.take j))) (fun _ i _ => ks.length - (intOf i).toNat)
    case atStart => exact ⟨0, 0, Nat.zero_le _, rfl, rfl, Lib.hid (.inl rfl), HX, HM⟩
    case round =>
      obtain ⟨j, e, hj, rfl, rfl, H3, HF, HM⟩ := hrel
      by_cases hlt : j < ks.length
      · obtain ⟨hB, m0, m1, m2, m3, A1, c1, m4, hO, hni⟩ := HM.out
        obtain ⟨b, o, rfl, hat⟩ : ∃ b o, A = some ⟨b, o, none⟩ ∧ ∀ (j : Nat) x, ks[j]? = some x → w.cell? ⟨b, o + j, none⟩ = some (.string x) := by
          rcases HS.out with h | h
          · rw [h] at hlt; simp at hlt
          · exact h
        obtain ⟨x, hx⟩ : ∃ x, ks[j]? = some x := ⟨ks[j], List.getElem?_eq_getElem hlt⟩
        have k0 := carry hB (hat j x hx)
        have hxz := HZ.out x (List.mem_of_getElem? hx)
        have i0 : (0 : Int) ≤ (j : Int) := by omega
        have i1 : (j : Int) < (ks.length : Int) := by omega
        have i2 : (j : Int) ≤ (c : Int) := by omega
        have e1 : IntKind.i64.wrap ((j : Int) + 1) = (j : Int) + 1 := IntWalk.i64_in _ (by omega)
        have lt : (ks.take j).length = j := by rw [List.length_take]; omega
        have ht1 : ks.take j ++ [x] = ks.take (j + 1) := by rw [List.take_add_one, hx]; rfl
        have sB := hB.size
        obtain ⟨W2, hW2⟩ : ∃ W2, W2 = (wr.alloc (.cells #[.string x, .slice none 0 0] 33)).drew := ⟨_, rfl⟩
        have hb2 : Below wr.heap.size wr W2 := by rw [hW2]; exact (by (repeat (first | with_reducible exact Below.refl _ _ | with_reducible refine bel_set ?_ ?_ | with_reducible refine bel_alloc ?_ ?_ | with_reducible refine Below.drew ?_ | with_reducible refine bel_drewN _ ?_ | with_reducible refine bel_call ?_ (by assumption) ?_)); all_goals (first | (simp; done) | omega | (simp; omega)))
        have HO2 := Lib.hid (hO.below hb2)
        have HOW := Lib.hid (hO.below hb2)
        have hgb := lt_of_cell m4
        have X0 : Hid (∀ i u, (kCase.cells x)[i]? = some u → W2.cell? ⟨wr.heap.size, i, none⟩ = some u) := Lib.hid (fun i u hu => by
          rw [hW2]
          match i, hu with
          | 0, hu => cases hu; go_simp
          | 1, hu => cases hu; go_simp)
        have s2 := hb2.size
        have HS2 : Hid (w.heap.size ≤ W2.heap.size) := Lib.hid (by omega)
        have HL1 : Hid (((ks.take j).length + 1) * kCase.bytes ≤ 140737488355328) := Lib.hid (by show ((ks.take j).length + 1) * 40 ≤ _; omega)
        have HL2 : Hid ((ks.take j).length + 1 ≤ 9223372036854775807) := Lib.hid (by omega)
        have P0 := Lib.hid (carry hb2 m0)
        have P1 := Lib.hid (carry hb2 m1)
        have P2 := Lib.hid (carry hb2 m2)
        have P3 := Lib.hid (carry hb2 m4)
        have P4 := Lib.hid (carryF hb2 (lt_of_cell m4) m3)
        have HB2 := Lib.hid (hB.trans (hb2.mono sB))
        have HNI := Lib.hid hni
        have p1x := P3.out
        have q1x := carry hb2 k0
        have HX1 := Lib.hid hx
        have HT1 := Lib.hid ht1
        rw [hW2] at HO2 X0 HS2 p1x q1x
        have HW2 := Lib.hid hW2
        clear hb2 s2 hW2 hB hO hni hat hx ht1 m0 m1 m2 sB
        rw [lt] at m4 p1x
        generalize ks.take j = T at *
        go_upto_region 11 with fail
        go_cut [] (fun wx => Hid (MCAt w wx gb kd (T ++ [x])))
        case first =>
          go_region_law (apply step_append_gB (k := kCase) (s := .tmp 44) (x := .tmp 50) (t := x) (hown := HO2.out) (hc := X0.out) (hb := HS2.out) (hn := HL1.out) (hn2 := HL2.out); (any_goals (first | rfl | (rw [lt]; rfl))); intro v' w3 ho hoff hfr; obtain ⟨A3, c3, rfl, _⟩ := ho.form; have HO3 := Lib.hid ho; rw [← HW2.out] at hoff hfr; have HF3 := Lib.hid (Fresh.of hfr); have Q3 := hoff.cell P3.out HNI.out; have Q4 := (hoff.frozen (lt_of_cell P3.out) HNI.out).trans P4.out; have HOFF := Lib.hid hoff; clear ho hfr hoff)
          all_goals
            go_wp2_with fail
            go_meet
            have hbg := HOW.out.grown HOFF.out HB2.out.size
            have ltx : (T ++ [x]).length = j + 1 := by rw [List.length_append, lt]; rfl
            have hng : gb ∉ (Value.slice A3 (T ++ [x]).length c3).ownBlock.toList := HF3.out.not HNI.out (lt_of_cell P3.out)
            have M4 := cell_same (v := .slice A3 (j + 1) c3) Q3
            rw [← ltx] at M4 ⊢
            exact Lib.hid ⟨bel_set (HB2.out.trans hbg) s1, cell_other (HOFF.out.cell P0.out HNI.out) (by simp), cell_other (HOFF.out.cell P1.out HNI.out) (by simp), cell_other (HOFF.out.cell P2.out HNI.out) (by simp), (World.frozen?_setCell ..).trans Q4, A3, c3, M4, OwnsG.off HO3.out ((Off.refl [gb] _).setCell _ _ (by simp)) (fun g hg hm => by
              simp only [List.mem_singleton] at hm
              subst hm
              exact hng (by simpa using hg)), hng⟩
        case rest =>
          have HM2 := Lib.hid hcut.out
          clear hcut k0 m3 m4 p1x q1x HO2 HOW X0 HS2 HL1 HL2 P0 P1 P2 P3 P4 HB2 HNI HW2 HM
          obtain ⟨hB, m0, m1, m2, m3, A2, c2, m4, hO, hni⟩ := HM2.out
          obtain ⟨b2, o2, he, hat⟩ : ∃ b2 o2, (some ⟨b, o, none⟩ : Option Addr) = some ⟨b2, o2, none⟩ ∧ ∀ (j : Nat) x, ks[j]? = some x → w.cell? ⟨b2, o2 + j, none⟩ = some (.string x) := by
            rcases HS.out with h | h
            · rw [h] at hlt; simp at hlt
            · exact h
          cases he
          have k0 := carry hB (hat j x HX1.out)
          have hSx := HS.out.below hB
          have HS2 := Lib.hid hSx
          clear hat hO hni hSx hB
          have HTJ : Hid (T = ks.take j) := Lib.hid (by
            have h1 := HT1.out
            rw [List.take_add_one, HX1.out] at h1
            exact (List.append_inj' h1 rfl).1)
          rcases H3.out with rfl | rfl | rfl
          · have KF := Lib.hid (fun (n : Nat) W => key_fault kd 0 ⟨#[115]⟩ x A2 n c2 W hxz)
            have KI := Lib.hid (fun (W : World) (h : StrsIn W (some ⟨b, o, none⟩) ks) => ref_in (some ⟨b, o, none⟩) c j ks x W h (by omega) (by omega) (by omega))
            have n0 : ({ heap := wc.heap, tape := wc.tape, drawn := wc.drawn + 1, os := wc.os, output := wc.output } : World).cell? ⟨gb, 0, none⟩ = some (.int .i64 kd) := m0
            have n1 : ({ heap := wc.heap, tape := wc.tape, drawn := wc.drawn + 1, os := wc.os, output := wc.output } : World).cell? ⟨gb, 1, none⟩ = some (.string ⟨#[115]⟩) := m1
            have n2 : ({ heap := wc.heap, tape := wc.tape, drawn := wc.drawn + 1, os := wc.os, output := wc.output } : World).cell? ⟨gb, 2, none⟩ = some (.int .i64 0) := m2
            have n3 : ({ heap := wc.heap, tape := wc.tape, drawn := wc.drawn + 1, os := wc.os, output := wc.output } : World).cell? ⟨gb, 3, none⟩ = some (.slice A2 (T ++ [x]).length c2) := m4
            have n4 : ({ heap := wc.heap, tape := wc.tape, drawn := wc.drawn + 1, os := wc.os, output := wc.output } : World).cell? ⟨b, o + j, none⟩ = some (.string x) := k0
            go_wp2_with fail
            go_still_tail 8, (by kernel_rfl)
            change wpList _ _ _ _ _ wc.drew
            go_wp2_with fail
            with_reducible refine (KF.out _ _).mono ?_
            rintro e w3 ⟨rfl, hb3⟩
            have HM3 := Lib.hid (HM2.out.below ((Below.refl wc.heap.size wc).drew.trans hb3))
            have HS3 := Lib.hid ((HS2.out.below (Below.refl wc.heap.size wc).drew).below hb3)
            have k3 : w3.cell? ⟨b, o + j, none⟩ = some (.string x) := carry hb3 k0
            clear n0 n1 n2 n3 n4 hb3 m0 m1 m2 m3 m4 k0
            cases hq : keyB kd x
            · have HR := Lib.hid (fault_key HX1.out hq)
              clear hq
              go_wp2_with fail
              go_quiet (fail)
              go_wp2_with fail
              go_roundw
              case rel => exact ⟨j + 1, 3, by omega, by go_num, rfl, Lib.hid (by decide), Lib.hid (HR.out.trans HF.out), Lib.hid (HT1.out ▸ HM3.out.below (bel_drewN _ (Below.refl _ _)))⟩
              case measure => simp [intOf]; omega
            · have hcl : (listsOf (ks.take j)).contains x.data.toList = Lib.containsS (ks.take j) x := lists_contains _ _
              rw [hcl] at KI
              cases hq2 : Lib.containsS (ks.take j) x
              · have HR := Lib.hid (fault_none HX1.out hq hq2)
                rw [hq2] at KI
                clear hq hq2 hcl
                go_wp2_with fail
                go_quiet ((go_at_call 9; exact Calls.quiet_left (KI.out _ (HS3.out.below (bel_drewN _ (Below.refl _ _))))))
                go_wp2_with fail
                go_roundw
                case rel => exact ⟨j + 1, 0, by omega, by go_num, rfl, Lib.hid (by decide), Lib.hid (HR.out.trans HF.out), Lib.hid (HT1.out ▸ HM3.out.below (bel_drewN _ (Below.refl _ _)))⟩
                case measure => simp [intOf]; omega
              · have HR := Lib.hid (fault_twice HX1.out hq hq2)
                rw [hq2] at KI
                clear hq hq2 hcl
                go_wp2_with fail
                go_quiet ((go_at_call 9; exact Calls.quiet_left (KI.out _ (HS3.out.below (bel_drewN _ (Below.refl _ _))))))
                go_wp2_with fail
                go_roundw
                case rel => exact ⟨j + 1, 5, by omega, by go_num, rfl, Lib.hid (by decide), Lib.hid (HR.out.trans HF.out), Lib.hid (HT1.out ▸ HM3.out.below (bel_drewN _ (Below.refl _ _)))⟩
                case measure => simp [intOf]; omega
          · go_wp2_with fail
            go_quiet (fail)
            go_wp2_with fail
            go_quiet (fail)
            go_wp2_with fail
            go_roundw
            case rel => exact ⟨j + 1, 3, by omega, by go_num, rfl, Lib.hid (by decide), Lib.hid ((fault_kept (by decide)).trans HF.out), Lib.hid (HT1.out ▸ HM2.out.below (bel_drewN _ (Below.refl _ _)))⟩
            case measure => simp [intOf]; omega
          · go_wp2_with fail
            go_quiet (fail)
            go_wp2_with fail
            go_quiet (fail)
            go_wp2_with fail
            go_roundw
            case rel => exact ⟨j + 1, 5, by omega, by go_num, rfl, Lib.hid (by decide), Lib.hid ((fault_kept (by decide)).trans HF.out), Lib.hid (HT1.out ▸ HM2.out.below (bel_drewN _ (Below.refl _ _)))⟩
            case measure => simp [intOf]; omega
      · obtain rfl : j = ks.length := by omega
        have hfl := fault_last kd ks e
        rw [HF.out] at hfl
        have ltk : ks.take ks.length = ks := List.take_length
        rw [ltk] at HM
        have KI := Lib.hid (fun (W : World) (hb : Below w.heap.size w W) => ref_in A c ks.length ks ⟨#[111, 116, 104, 101, 114]⟩ W (HS.out.below hb) (Nat.le_refl _) hc (by omega))
        rw [ltk] at KI
        have hcl : (listsOf ks).contains (⟨#[111, 116, 104, 101, 114]⟩ : ByteArray).data.toList = Lib.containsS ks otherS := lists_contains _ _
        rw [hcl] at KI
        have i9 : ¬ (ks.length : Int) < (ks.length : Int) := by omega
        clear hcl ltk
        rcases H3.out with rfl | rfl | rfl
        · rw [if_pos rfl] at hfl
          cases hq : Lib.containsS ks otherS
          · rw [hq, if_neg (by decide)] at hfl
            rw [hq] at KI
            have HR := Lib.hid hfl
            clear hfl hq
            obtain ⟨hB, m0, m1, m2, m3, A2, c2, m4, hO, hni⟩ := HM.out
            obtain ⟨A3, c3, he, q1, q2, hci⟩ := cases_of hO
            cases he
            have KC := Lib.hid (fun (W : World) (g : Nat) (hb : Below _ _ W) (hN : NodeAt W g kd ⟨#[115]⟩ 0 A2 ks.length c2) => msg_check g kd 0 ⟨#[115]⟩ A2 ks c2 W hk45 (HE.out.below (hB.trans (hb.mono hB.size))) (HK.out.below (hB.trans (hb.mono hB.size))) hN (hci.below hb) q1 q2 (by omega) (fun k hk => by have := HZ.out k hk; omega) (by decide) (by decide) (by decide))
            rw [HRR.out] at KC
            have HBr := Lib.hid hB
            clear hO hci m3
            have KI2 := Lib.hid (KI.out _ hB)
            clear KI hB
            go_wp2_with fail
            refine KI2.out.mono ?_
            rintro e w3 ⟨rfl, rfl⟩
            go_wp2_with fail
            have hb2 := (Below.refl wr.heap.size wr).alloc (Nat.le_refl _) (.cells #[.int .i64 kd, .string ⟨#[115]⟩, .int .i64 0, .slice A2 ks.length c2] 30)
            refine (KC.out _ _ hb2 ⟨by go_simp, by go_simp, by go_simp, by go_simp⟩).mono ?_
            rintro e w5 ⟨rfl, hb5⟩
            have HB5 := Lib.hid (HBr.out.trans ((hb2.trans (hb5.mono hb2.size)).mono HBr.out.size))
            have KE := Lib.hid (same_err R R w5 (HT.out.below HB5.out))
            rw [show (R == R) = true from beq_self_eq_true R] at KE
            clear hb2 hb5 m0 m1 m2 m4
            generalize errOf R = er at *
            rw [← HR.out]
            go_wp2_with fail
            refine KE.out.mono ?_
            rintro e w6 ⟨rfl, hb6⟩
            have HB6 := Lib.hid (HB5.out.trans (hb6.mono HB5.out.size))
            clear hb6
            go_wp2_with fail
            go_ret
            exact ⟨rfl, HB6.out⟩
          · rw [hq, if_pos rfl] at hfl
            rw [hq] at KI
            have HR := Lib.hid hfl
            clear hfl hq
            obtain ⟨hB, m0, m1, m2, m3, A2, c2, m4, hO, hni⟩ := HM.out
            obtain ⟨A3, c3, he, q1, q2, hci⟩ := cases_of hO
            cases he
            have KC := Lib.hid (fun (W : World) (g : Nat) (hb : Below _ _ W) (hN : NodeAt W g kd ⟨#[115]⟩ 0 A2 ks.length c2) => msg_check g kd 0 ⟨#[115]⟩ A2 ks c2 W hk45 (HE.out.below (hB.trans (hb.mono hB.size))) (HK.out.below (hB.trans (hb.mono hB.size))) hN (hci.below hb) q1 q2 (by omega) (fun k hk => by have := HZ.out k hk; omega) (by decide) (by decide) (by decide))
            rw [HRR.out] at KC
            have HBr := Lib.hid hB
            clear hO hci m3
            have KI2 := Lib.hid (KI.out _ hB)
            clear KI hB
            go_wp2_with fail
            refine KI2.out.mono ?_
            rintro e w3 ⟨rfl, rfl⟩
            go_wp2_with fail
            have hb2 := (Below.refl wr.heap.size wr).alloc (Nat.le_refl _) (.cells #[.int .i64 kd, .string ⟨#[115]⟩, .int .i64 0, .slice A2 ks.length c2] 30)
            refine (KC.out _ _ hb2 ⟨by go_simp, by go_simp, by go_simp, by go_simp⟩).mono ?_
            rintro e w5 ⟨rfl, hb5⟩
            have HB5 := Lib.hid (HBr.out.trans ((hb2.trans (hb5.mono hb2.size)).mono HBr.out.size))
            have KE := Lib.hid (same_err R R w5 (HT.out.below HB5.out))
            rw [show (R == R) = true from beq_self_eq_true R] at KE
            clear hb2 hb5 m0 m1 m2 m4
            generalize errOf R = er at *
            rw [← HR.out]
            go_wp2_with fail
            refine KE.out.mono ?_
            rintro e w6 ⟨rfl, hb6⟩
            have HB6 := Lib.hid (HB5.out.trans (hb6.mono HB5.out.size))
            clear hb6
            go_wp2_with fail
            go_ret
            exact ⟨rfl, HB6.out⟩
        · rw [if_neg (by decide)] at hfl
          have HR := Lib.hid hfl
          clear hfl
          obtain ⟨hB, m0, m1, m2, m3, A2, c2, m4, hO, hni⟩ := HM.out
          obtain ⟨A3, c3, he, q1, q2, hci⟩ := cases_of hO
          cases he
          have KC := Lib.hid (fun (W : World) (g : Nat) (hb : Below _ _ W) (hN : NodeAt W g kd ⟨#[115]⟩ 0 A2 ks.length c2) => msg_check g kd 0 ⟨#[115]⟩ A2 ks c2 W hk45 (HE.out.below (hB.trans (hb.mono hB.size))) (HK.out.below (hB.trans (hb.mono hB.size))) hN (hci.below hb) q1 q2 (by omega) (fun k hk => by have := HZ.out k hk; omega) (by decide) (by decide) (by decide))
          rw [HRR.out] at KC
          have HBr := Lib.hid hB
          clear hB hO hci m3 KI
          go_wp2_with fail
          have hb2 := (Below.refl wr.heap.size wr).alloc (Nat.le_refl _) (.cells #[.int .i64 kd, .string ⟨#[115]⟩, .int .i64 0, .slice A2 ks.length c2] 30)
          refine (KC.out _ _ hb2 ⟨by go_simp, by go_simp, by go_simp, by go_simp⟩).mono ?_
          rintro e w5 ⟨rfl, hb5⟩
          have HB5 := Lib.hid (HBr.out.trans ((hb2.trans (hb5.mono hb2.size)).mono HBr.out.size))
          have KE := Lib.hid (same_err R R w5 (HT.out.below HB5.out))
          rw [show (R == R) = true from beq_self_eq_true R] at KE
          clear hb2 hb5 m0 m1 m2 m4
          generalize errOf R = er at *
          rw [← HR.out]
          go_wp2_with fail
          refine KE.out.mono ?_
          rintro e w6 ⟨rfl, hb6⟩
          have HB6 := Lib.hid (HB5.out.trans (hb6.mono HB5.out.size))
          clear hb6
          go_wp2_with fail
          go_ret
          exact ⟨rfl, HB6.out⟩
        · rw [if_neg (by decide)] at hfl
          have HR := Lib.hid hfl
          clear hfl
          obtain ⟨hB, m0, m1, m2, m3, A2, c2, m4, hO, hni⟩ := HM.out
          obtain ⟨A3, c3, he, q1, q2, hci⟩ := cases_of hO
          cases he
          have KC := Lib.hid (fun (W : World) (g : Nat) (hb : Below _ _ W) (hN : NodeAt W g kd ⟨#[115]⟩ 0 A2 ks.length c2) => msg_check g kd 0 ⟨#[115]⟩ A2 ks c2 W hk45 (HE.out.below (hB.trans (hb.mono hB.size))) (HK.out.below (hB.trans (hb.mono hB.size))) hN (hci.below hb) q1 q2 (by omega) (fun k hk => by have := HZ.out k hk; omega) (by decide) (by decide) (by decide))
          rw [HRR.out] at KC
          have HBr := Lib.hid hB
          clear hB hO hci m3 KI
          go_wp2_with fail
          have hb2 := (Below.refl wr.heap.size wr).alloc (Nat.le_refl _) (.cells #[.int .i64 kd, .string ⟨#[115]⟩, .int .i64 0, .slice A2 ks.length c2] 30)
          refine (KC.out _ _ hb2 ⟨by go_simp, by go_simp, by go_simp, by go_simp⟩).mono ?_
          rintro e w5 ⟨rfl, hb5⟩
          have HB5 := Lib.hid (HBr.out.trans ((hb2.trans (hb5.mono hb2.size)).mono HBr.out.size))
          have KE := Lib.hid (same_err R R w5 (HT.out.below HB5.out))
          rw [show (R == R) = true from beq_self_eq_true R] at KE
          clear hb2 hb5 m0 m1 m2 m4
          generalize errOf R = er at *
          rw [← HR.out]
          go_wp2_with fail
          refine KE.out.mono ?_
          rintro e w6 ⟨rfl, hb6⟩
          have HB6 := Lib.hid (HB5.out.trans (hb6.mono HB5.out.size))
          clear hb6
          go_wp2_with fail
          go_ret
          exact ⟨rfl, HB6.out⟩
end Go.Proofs.YthlcjlmaaaappaaGreatDoor
