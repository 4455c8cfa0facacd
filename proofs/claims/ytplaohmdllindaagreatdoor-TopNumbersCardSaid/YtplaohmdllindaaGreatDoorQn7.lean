/- NoutParts, TrimAny, GroupC, DecWide, Dec, NoutAny, DecCmp, DecLess: texts put together. -/
import Derived.Test.YtplaohmdllindaaGreatDoorQn3
import Derived.Test.YtplaohmdllindaaGreatDoorQn1
import Derived.Test.YtplaohmdllindaaGreatDoorQn6
import Derived.Laws.IdiomStrings
import Derived.Test.YtplaohmdllindaaGreatDoorQn2
set_option linter.unusedVariables false
set_option linter.unusedSimpArgs false
/- nout.Check, nout.trimmed, dec.Text where nothing stands behind the point. -/
namespace Go.Proofs.YtplaohmdllindaaGreatDoor
open Go.RowKit

abbrev symV : Value := .agg #[.int .u8 46, .int .u8 44]

theorem nout_Check (w : World) :
    Calls Tryz.prog 76 #[symV] w fun e w' => e = .returned .nilIface ∧ Below w.heap.size w w' := by
  have K1 : Hid (∀ W : World, Calls Tryz.prog 127 #[.string ⟨#[46, 44, 39, 95]⟩, .int .u8 46] W fun e w' => e = .returned (.int .i64 0) ∧ W = w') := Lib.hid (fun W => (Tryz.strings_IndexByte ⟨#[46, 44, 39, 95]⟩ 46 W).mono (fun _ _ h => ⟨h.1, h.2.symm⟩))
  have K2 : Hid (∀ W : World, Calls Tryz.prog 127 #[.string ⟨#[46, 44, 39, 95]⟩, .int .u8 44] W fun e w' => e = .returned (.int .i64 1) ∧ W = w') := Lib.hid (fun W => (Tryz.strings_IndexByte ⟨#[46, 44, 39, 95]⟩ 44 W).mono (fun _ _ h => ⟨h.1, h.2.symm⟩))
  go_enter Tryz.func76, Tryz.ntmps76
  go_wp2_with fail
  refine (K1.out _).mono ?_
  rintro e w1 ⟨rfl, rfl⟩
  go_wp2_with fail
  refine (K2.out _).mono ?_
  rintro e w1 ⟨rfl, rfl⟩
  go_wp2_with fail
  go_ret
  exact ⟨rfl, (Below.refl _ _).alloc (Nat.le_refl _) _⟩

theorem nout_check (p q : ByteArray) (mi mf xf g g2 : Int) (w : World) (hp : p.size ≤ 9223372036854775807) (hq : q.size ≤ 9223372036854775807) :
    Calls Tryz.prog 31 #[patV p q mi mf xf g g2, symV] w fun e w' => e = .returned (errOf (patErr p q mi mf xf g g2)) ∧ Below w.heap.size w w' := by
  have KP := Lib.hid (fun W => pat_check p q mi mf xf g g2 W hp hq)
  have KN := Lib.hid (fun W => nout_Check W)
  by_cases h : patErr p q mi mf xf g g2 = 0
  · rw [h] at KP ⊢
    have e0 : errOf 0 = .nilIface := rfl
    rw [e0] at KP ⊢
    clear h e0
    go_enter Tryz.func31, Tryz.ntmps31
    go_wp2_with fail
    refine (KP.out _).mono ?_
    rintro e w1 ⟨rfl, hb1⟩
    have s1 := hb1.size
    simp at s1
    have c0 : w1.cell? ⟨w.heap.size + 1, 0, none⟩ = some (.int .u8 46) := carry hb1 (by go_simp)
    have c1 : w1.cell? ⟨w.heap.size + 1, 1, none⟩ = some (.int .u8 44) := carry hb1 (by go_simp)
    go_wp2_with fail
    refine (KN.out _).mono ?_
    rintro e w2 ⟨rfl, hb2⟩
    have s2 := hb2.size
    go_wp2_with fail
    go_ret
    exact ⟨rfl, belx⟩
  · have e0 : errOf (patErr p q mi mf xf g g2) = errT (patErr p q mi mf xf g g2) := by unfold errOf; rw [if_neg h]
    rw [e0] at KP ⊢
    generalize patErr p q mi mf xf g g2 = E at *
    clear e0 h
    go_enter Tryz.func31, Tryz.ntmps31
    go_wp2_with fail
    refine (KP.out _).mono ?_
    rintro e w1 ⟨rfl, hb1⟩
    have s1 := hb1.size
    simp at s1
    go_wp2_with fail
    go_ret
    exact ⟨rfl, belx⟩

end Go.Proofs.YtplaohmdllindaaGreatDoor

/- nout.trimmed of whatever is right. -/
namespace Go.Proofs.YtplaohmdllindaaGreatDoor
open Go.RowKit

/-- the box of the number, and the one of the answer -/
def TrimAt (w wr : World) (c : Int) (s : Nat) : Prop :=
  wr.cell? ⟨w.heap.size, 0, none⟩ = some (.int .i64 c) ∧ wr.cell? ⟨w.heap.size, 1, none⟩ = some (.int .i64 s) ∧ wr.frozen? ⟨w.heap.size, 0, none⟩ = false ∧ wr.frozen? ⟨w.heap.size, 1, none⟩ = false ∧
  (∃ v, wr.cell? ⟨w.heap.size + 1, 0, none⟩ = some v) ∧ (∃ v, wr.cell? ⟨w.heap.size + 1, 1, none⟩ = some v) ∧ wr.frozen? ⟨w.heap.size + 1, 0, none⟩ = false ∧ wr.frozen? ⟨w.heap.size + 1, 1, none⟩ = false ∧ Below w.heap.size w wr

set_option maxHeartbeats 1000000 in
theorem nout_trim (c : Int) (s : Nat) (w : World) (h : decOk c s) :
    Calls Tryz.prog 33 #[decV c s, .int .i64 0] w fun e w' => e = .returned (decV (trimP c s).1 (trimP c s).2) ∧ Below w.heap.size w w' := by
  have H := Lib.hid h
  clear h
  generalize hR : trimP c s = R
  have HX2 := Lib.hid hR
  clear hR
  go_enter Tryz.func33, Tryz.ntmps33
  go_wp2_with fail
  go_loopw [] (fun wr => ∃ (c' : Int) (s' : Nat), Hid (TrimAt w wr c' s') ∧ decOk c' s' ∧ Hid (trimP c' s' = R)) (fun wr => match wr.cell? ⟨w.heap.size, 1, none⟩ with | some (.int _ n) => n.toNat | _ => 0)
  case atStart => exact ⟨c, s, Lib.hid ⟨by go_simp, by go_simp, by go_simp, by go_simp, ⟨.int .i64 0, by go_simp⟩, ⟨.int .i64 0, by go_simp⟩, by go_simp, by go_simp, belx⟩, H.out, HX2⟩
  case round =>
    obtain ⟨c', s', HT, ⟨d1, d2, d3, d4⟩, HR⟩ := hrel
    obtain ⟨t0, t1, f0, f1, ⟨v0, r0⟩, ⟨v1, r1⟩, g0, g1, hB⟩ := HT.out
    have sB := hB.size
    have HB := Lib.hid hB
    have hne : w.heap.size ≠ w.heap.size + 1 := by omega
    have hm : (match wr.cell? ⟨w.heap.size, 1, none⟩ with | some (.int _ n) => n.toNat | _ => 0) = s' := by rw [t1]; simp
    clear hB
    cases s' with
    | zero =>
      have hr := HR.out
      rw [trimP] at hr
      subst hr
      have HT0 := HT
      clear HT hm
      have t1' : wr.cell? ⟨w.heap.size, 1, none⟩ = some (.int .i64 0) := t1
      clear t1
      go_wp2_with fail
      exact bodyPost_ret (v := decV c' 0) (by simp [results, Tryz.results33, go_sem, t0, t1', r0, r1, g0, g1]) rfl ⟨rfl, ((HB.out.setCell (by simp) _).setCell (by simp) _)⟩
    | succ n =>
      have p0 : (0 : Int) < ((n + 1 : Nat) : Int) := by omega
      by_cases hz : c'.tmod 10 = 0
      · have hz2 : (c'.tmod 10 == 0) = true := by rw [hz]; rfl
        have hr := HR.out
        rw [trimP, if_pos hz] at hr
        have HR2 := Lib.hid hr
        have e1 : IntKind.i64.wrap (((n + 1 : Nat) : Int) - 1) = (n : Int) := by rw [IntWalk.i64_in _ (by omega)]; omega
        obtain ⟨q1, q2, _⟩ := tdiv_facts c' 10 (by omega) d3 d4
        have e2 : IntKind.i64.wrap (c'.tdiv 10) = c'.tdiv 10 := IntWalk.i64_in _ (by omega)
        have HW : Hid (TrimAt w ((wr.setCell ⟨w.heap.size, 0, none⟩ (.int .i64 (c'.tdiv 10))).setCell ⟨w.heap.size, 1, none⟩ (.int .i64 n)) (c'.tdiv 10) n) := Lib.hid ⟨by go_simp, by go_simp, by go_simp, by go_simp, ⟨v0, by go_simp⟩, ⟨v1, by go_simp⟩, by go_simp, by go_simp, (HB.out.setCell (by simp) _).setCell (by simp) _⟩
        have D2 : Hid (decOk (c'.tdiv 10) n) := Lib.hid ⟨by omega, by omega, by omega, by omega⟩
        clear hr HR hz q1 q2
        go_wp2_with fail
        go_roundw
        case rel => exact ⟨c'.tdiv 10, n, HW, D2.out, HR2⟩
        case measure =>
          rw [hm, HW.out.2.1]
          show ((n : Int)).toNat < n + 1
          omega
      · have hz2 : (c'.tmod 10 == 0) = false := by rw [beq_eq_false_iff_ne]; exact hz
        have hr := HR.out
        rw [trimP, if_neg hz] at hr
        subst hr
        clear HT hm hz
        go_wp2_with fail
        exact bodyPost_ret (v := decV c' ((n + 1 : Nat) : Int)) (by simp [results, Tryz.results33, go_sem, t0, t1, r0, r1, g0, g1]) rfl ⟨rfl, ((HB.out.setCell (by simp) _).setCell (by simp) _)⟩
end Go.Proofs.YtplaohmdllindaaGreatDoor

/- group.Put at groups of none to four digits, whatever the comma. -/
namespace Go.Proofs.YtplaohmdllindaaGreatDoor
open Go.RowKit

theorem group_check_c (cm : UInt8) (g g2 : Nat) (w : World) (h : g ≤ 4) (h2 : g2 ≤ 4) (hc : ¬ (48 ≤ cm.toNat ∧ cm.toNat ≤ 57)) :
    Calls Tryz.prog 86 #[.int .i64 g, .int .i64 g2, .int .u8 cm.toNat] w fun e w' => e = .returned .nilIface ∧ w = w' := by
  have m0 : ¬ (48 ≤ (cm.toNat : Int) ∧ (cm.toNat : Int) ≤ 57) := by omega
  clear hc
  have m1 : ¬ (g : Int) < 0 := by omega
  have m2 : ¬ 4 < (g : Int) := by omega
  have m3 : ¬ (g2 : Int) < 0 := by omega
  have m4 : ¬ 4 < (g2 : Int) := by omega
  go_enter Tryz.func86, Tryz.ntmps86
  go_wp2_with fail
  all_goals go_ret
  all_goals exact ⟨rfl, rfl⟩

theorem convC44 (w : World) (cm : UInt8) : (convert 93 9 (.slice (some ⟨w.heap.size, 0, none⟩) 1 1)).run Tryz.prog (w.alloc (.cells #[.int .u8 cm.toNat] 5)) = .ok (.string ⟨#[cm]⟩) (w.alloc (.cells #[.int .u8 cm.toNat] 5)) := by
  refine run_convert_bytes_back _ 93 9 5 _ 1 [cm] Tryz.underlying93 Tryz.underlying5 Tryz.underlying9 (fun j hj => ?_)
  have h0 : j = 0 := by simp at hj; omega
  subst h0
  rw [Go.WideShapes.add_plain, World.cell?_alloc_at _ _ _ _ rfl]
  rfl


set_option maxHeartbeats 2000000 in
theorem group_put_oneC (cm : UInt8) (hc : ¬ (48 ≤ cm.toNat ∧ cm.toNat ≤ 57)) (g : Nat) (s : ByteArray) (w : World) (hs1 : 1 ≤ s.size) (hs : s.size ≤ 100) (hd : digitsB s = true) (h1 : 1 ≤ g) (h4 : g ≤ 4) :
    Calls Tryz.prog 38 #[.string s, .int .i64 g, .int .i64 0, .int .u8 cm.toNat] w fun e w' => e = .returned (.tuple #[.string (grpC cm g g s), .nilIface]) ∧ Below w.heap.size w w' := by
  have HD := Lib.hid hd
  clear hd
  have KC : Hid (∀ W : World, Calls Tryz.prog 86 #[.int .i64 g, .int .i64 0, .int .u8 cm.toNat] W fun e w' => e = .returned .nilIface ∧ W = w') := Lib.hid (fun W => group_check_c cm g 0 W (by omega) (by omega) hc)
  have hb1 : 1 ≤ g := h1
  have hb4 : g ≤ 4 := h4
  have ng : ((g : Int) == 0) = false := by rw [beq_eq_false_iff_ne]; omega
  go_enter Tryz.func38, Tryz.ntmps38
  go_wp2_with fail
  refine (group_digits s w (by omega)).mono ?_
  rw [HD.out]
  rintro e w1 ⟨rfl, hb⟩
  have s1 := hb.size
  go_wp2_with fail
  refine (KC.out _).mono ?_
  rintro e w2 ⟨rfl, rfl⟩
  go_wp2_with fail
  go_loopw [0, 11, 12] (fun v p z wr => ∃ (cur : ByteArray) (A : Option Addr) (d : Nat) (xs : List ByteArray) (c k : Nat), v = .string cur ∧ p = .slice A xs.length d ∧ z = .int .i64 c ∧ 1 ≤ c ∧ c ≤ 4 ∧ 1 ≤ cur.size ∧ cur.size ≤ k ∧ cur.size + xs.length ≤ s.size ∧ Hid (OwnsS wr w1.heap.size (.slice A xs.length d) xs) ∧ Hid (xs.map (·.data.toList) ++ pcsF k c g cur.data.toList = pcsF s.size g g s.data.toList) ∧ Hid (Below w1.heap.size w1 wr)) (fun v _ _ _ => sizeOfV v)
  case atStart => exact ⟨s, none, 0, [], g, s.size, rfl, rfl, rfl, h1, h4, hs1, Nat.le_refl _, by simp, Lib.hid (OwnsS.nil _ _), Lib.hid rfl, Lib.hid (Below.refl _ _)⟩
  case round =>
    obtain ⟨cur, A, d, xs, c, k, rfl, rfl, rfl, hc1, hc4, hcu, hck, hsum, HO, HP, HB⟩ := hrel
    by_cases h3 : c < cur.size
    · have i3 : (c : Int) < (cur.size : Int) := by omega
      have e1 : IntKind.i64.wrap ((cur.size : Int) - (c : Int)) = (cur.size : Int) - (c : Int) := IntWalk.i64_in _ (by omega)
      have e2 : ((cur.size : Int) - (c : Int)).toNat = cur.size - c := by omega
      have j1 : (0 : Int) ≤ (cur.size : Int) - (c : Int) := by omega
      have j2 : (cur.size : Int) - (c : Int) ≤ (cur.size : Int) := by omega
      have hsz : (cur.extract 0 (cur.size - c)).size = cur.size - c := by simp
      obtain ⟨k', rfl⟩ : ∃ k', k = k' + 1 := ⟨k - 1, by omega⟩
      have hpx : pcsF (k' + 1) c g cur.data.toList = (cur.extract (cur.size - c) cur.size).data.toList :: pcsF k' g g (cur.extract 0 (cur.size - c)).data.toList := by
        have hl : cur.data.toList.length = cur.size := by simp
        have ht : (cur.data.toList.drop (cur.size - c)).take (cur.size - (cur.size - c)) = cur.data.toList.drop (cur.size - c) := List.take_of_length_le (by rw [List.length_drop]; omega)
        rw [pcsF_big _ _ _ _ (by omega), Lib.extract_data, Lib.extract_data, hl, List.drop_zero, Nat.sub_zero, ht]
      have HPX := Lib.hid hpx
      have HSZ := Lib.hid hsz
      clear hpx hsz
      go_wp2_with (at_builtin; refine wpList_append_one rfl _ _ rfl (cur.extract (cur.size - c) cur.size) rfl rfl (HO.out.alloc _) (by go_simp) (by simp; have := HB.out.size; omega) (by omega) ?_; intro v' w' ho hoff)
      have hbl : Below w1.heap.size _ w' := OwnsS.grown (HO.out.alloc (.cells #[.string (cur.extract (cur.size - c) cur.size)] 9)) hoff (by simp; have := HB.out.size; omega)
      have HB2 : Hid (Below w1.heap.size w1 w') := Lib.hid ((HB.out.alloc HB.out.size _).trans hbl)
      obtain ⟨A', d', rfl, _⟩ := ho.form
      have HO2 := Lib.hid ho
      have HP2 : Hid ((xs ++ [cur.extract (cur.size - c) cur.size]).map (·.data.toList) ++ pcsF k' g g (cur.extract 0 (cur.size - c)).data.toList = pcsF s.size g g s.data.toList) := Lib.hid (by rw [← HP.out, HPX.out, List.map_append, List.append_assoc]; rfl)
      clear ho hoff hbl HO HP HB HPX
      go_roundw
      case rel => exact ⟨_, A', d', _, g, k', rfl, rfl, rfl, hb1, hb4, by rw [HSZ.out]; omega, by rw [HSZ.out]; omega, by rw [HSZ.out]; simp; omega, HO2, HP2, HB2⟩
      case measure => show (cur.extract 0 (cur.size - c)).size < cur.size; rw [HSZ.out]; omega
    · have i3 : (cur.size : Int) ≤ (c : Int) := by omega
      have i4 : ¬ (c : Int) < (cur.size : Int) := by omega
      have hl : cur.data.toList.length = cur.size := by simp
      have hpx : pcsF k c g cur.data.toList = [cur.data.toList] := pcsF_small _ _ _ _ (by omega)
      have hall : (xs ++ [cur]).map (·.data.toList) = pcsF s.size g g s.data.toList := by rw [← HP.out, hpx, List.map_append]; rfl
      have HA := Lib.hid hall
      clear hpx hall HP hl
      go_wp2_with (at_builtin; refine wpList_append_one rfl _ _ rfl cur rfl rfl (HO.out.alloc _) (by go_simp) (by simp; have := HB.out.size; omega) (by omega) ?_; intro v' w' ho hoff)
      have hbl : Below w1.heap.size _ w' := OwnsS.grown (HO.out.alloc (.cells #[.string cur] 9)) hoff (by simp; have := HB.out.size; omega)
      have HB2 : Below w1.heap.size w1 w' := (HB.out.alloc HB.out.size _).trans hbl
      obtain ⟨A', d', rfl, _⟩ := ho.form
      have hcap := ho.cap.2
      have hlen : (xs ++ [cur]).length ≤ xs.length + 1 := by simp
      clear hoff hbl HO HB
      generalize xs ++ [cur] = ys at *
      have HO2 := Lib.hid ho
      have s2 := HB2.size
      have HR := Lib.hid (fun W (h : W = w') => h ▸ rev_strs (n := ys.length) w' rfl ho s2 (by omega))
      clear ho
      go_wp2_with fail
      refine (HR.out _ rfl).mono ?_
      rintro e w3 ⟨rfl, hS3, hb3⟩
      have HS3 := Lib.hid hS3
      clear hS3 HO2 HR
      have hcv := convC44 w3 cm
      have hgs := grpC_size cm g g s
      have hjl : (⟨(Lib.join (ys.reverse.map (·.data.toList)) [cm]).toArray⟩ : ByteArray) = grpC cm g g s := by
        unfold grpC
        rw [List.map_reverse, HA.out]
      have hjn : (Lib.join (ys.reverse.map (·.data.toList)) [cm]).length = (grpC cm g g s).size := by rw [← hjl]; rfl
      have HJL := Lib.hid hjl
      clear hjl HA
      go_wp2_with fail
      refine (strings_joinW ys.length ⟨#[cm]⟩ _ List.length_reverse (HS3.out.below ((Below.refl _ _).alloc (Nat.le_refl _) _)) hcap (by omega) (by
        rw [show (ByteArray.mk #[cm]).data.toList = [cm] from rfl, hjn]
        omega)).mono ?_
      rintro e w4 ⟨rfl, hb4'⟩
      have s3 := hb3.size
      rw [show (ByteArray.mk #[cm]).data.toList = [cm] from rfl, HJL.out]
      go_wp2_with fail
      go_ret2
      exact ⟨rfl, belx⟩


set_option maxHeartbeats 2000000 in
theorem group_put_twoC (cm : UInt8) (hc : ¬ (48 ≤ cm.toNat ∧ cm.toNat ≤ 57)) (g b : Nat) (s : ByteArray) (w : World) (hs1 : 1 ≤ s.size) (hs : s.size ≤ 100) (hd : digitsB s = true) (h1 : 1 ≤ g) (h4 : g ≤ 4) (hb1 : 1 ≤ b) (hb4 : b ≤ 4) :
    Calls Tryz.prog 38 #[.string s, .int .i64 g, .int .i64 b, .int .u8 cm.toNat] w fun e w' => e = .returned (.tuple #[.string (grpC cm g b s), .nilIface]) ∧ Below w.heap.size w w' := by
  have HD := Lib.hid hd
  clear hd
  have KC : Hid (∀ W : World, Calls Tryz.prog 86 #[.int .i64 g, .int .i64 b, .int .u8 cm.toNat] W fun e w' => e = .returned .nilIface ∧ W = w') := Lib.hid (fun W => group_check_c cm g b W (by omega) (by omega) hc)
  have nb : ((b : Int) == 0) = false := by rw [beq_eq_false_iff_ne]; omega
  have ng : ((g : Int) == 0) = false := by rw [beq_eq_false_iff_ne]; omega
  go_enter Tryz.func38, Tryz.ntmps38
  go_wp2_with fail
  refine (group_digits s w (by omega)).mono ?_
  rw [HD.out]
  rintro e w1 ⟨rfl, hb⟩
  have s1 := hb.size
  go_wp2_with fail
  refine (KC.out _).mono ?_
  rintro e w2 ⟨rfl, rfl⟩
  go_wp2_with fail
  go_loopw [0, 11, 12] (fun v p z wr => ∃ (cur : ByteArray) (A : Option Addr) (d : Nat) (xs : List ByteArray) (c k : Nat), v = .string cur ∧ p = .slice A xs.length d ∧ z = .int .i64 c ∧ 1 ≤ c ∧ c ≤ 4 ∧ 1 ≤ cur.size ∧ cur.size ≤ k ∧ cur.size + xs.length ≤ s.size ∧ Hid (OwnsS wr w1.heap.size (.slice A xs.length d) xs) ∧ Hid (xs.map (·.data.toList) ++ pcsF k c b cur.data.toList = pcsF s.size g b s.data.toList) ∧ Hid (Below w1.heap.size w1 wr)) (fun v _ _ _ => sizeOfV v)
  case atStart => exact ⟨s, none, 0, [], g, s.size, rfl, rfl, rfl, h1, h4, hs1, Nat.le_refl _, by simp, Lib.hid (OwnsS.nil _ _), Lib.hid rfl, Lib.hid (Below.refl _ _)⟩
  case round =>
    obtain ⟨cur, A, d, xs, c, k, rfl, rfl, rfl, hc1, hc4, hcu, hck, hsum, HO, HP, HB⟩ := hrel
    by_cases h3 : c < cur.size
    · have i3 : (c : Int) < (cur.size : Int) := by omega
      have e1 : IntKind.i64.wrap ((cur.size : Int) - (c : Int)) = (cur.size : Int) - (c : Int) := IntWalk.i64_in _ (by omega)
      have e2 : ((cur.size : Int) - (c : Int)).toNat = cur.size - c := by omega
      have j1 : (0 : Int) ≤ (cur.size : Int) - (c : Int) := by omega
      have j2 : (cur.size : Int) - (c : Int) ≤ (cur.size : Int) := by omega
      have hsz : (cur.extract 0 (cur.size - c)).size = cur.size - c := by simp
      obtain ⟨k', rfl⟩ : ∃ k', k = k' + 1 := ⟨k - 1, by omega⟩
      have hpx : pcsF (k' + 1) c b cur.data.toList = (cur.extract (cur.size - c) cur.size).data.toList :: pcsF k' b b (cur.extract 0 (cur.size - c)).data.toList := by
        have hl : cur.data.toList.length = cur.size := by simp
        have ht : (cur.data.toList.drop (cur.size - c)).take (cur.size - (cur.size - c)) = cur.data.toList.drop (cur.size - c) := List.take_of_length_le (by rw [List.length_drop]; omega)
        rw [pcsF_big _ _ _ _ (by omega), Lib.extract_data, Lib.extract_data, hl, List.drop_zero, Nat.sub_zero, ht]
      have HPX := Lib.hid hpx
      have HSZ := Lib.hid hsz
      clear hpx hsz
      go_wp2_with (at_builtin; refine wpList_append_one rfl _ _ rfl (cur.extract (cur.size - c) cur.size) rfl rfl (HO.out.alloc _) (by go_simp) (by simp; have := HB.out.size; omega) (by omega) ?_; intro v' w' ho hoff)
      have hbl : Below w1.heap.size _ w' := OwnsS.grown (HO.out.alloc (.cells #[.string (cur.extract (cur.size - c) cur.size)] 9)) hoff (by simp; have := HB.out.size; omega)
      have HB2 : Hid (Below w1.heap.size w1 w') := Lib.hid ((HB.out.alloc HB.out.size _).trans hbl)
      obtain ⟨A', d', rfl, _⟩ := ho.form
      have HO2 := Lib.hid ho
      have HP2 : Hid ((xs ++ [cur.extract (cur.size - c) cur.size]).map (·.data.toList) ++ pcsF k' b b (cur.extract 0 (cur.size - c)).data.toList = pcsF s.size g b s.data.toList) := Lib.hid (by rw [← HP.out, HPX.out, List.map_append, List.append_assoc]; rfl)
      clear ho hoff hbl HO HP HB HPX
      go_roundw
      case rel => exact ⟨_, A', d', _, b, k', rfl, rfl, rfl, hb1, hb4, by rw [HSZ.out]; omega, by rw [HSZ.out]; omega, by rw [HSZ.out]; simp; omega, HO2, HP2, HB2⟩
      case measure => show (cur.extract 0 (cur.size - c)).size < cur.size; rw [HSZ.out]; omega
    · have i3 : (cur.size : Int) ≤ (c : Int) := by omega
      have i4 : ¬ (c : Int) < (cur.size : Int) := by omega
      have hl : cur.data.toList.length = cur.size := by simp
      have hpx : pcsF k c b cur.data.toList = [cur.data.toList] := pcsF_small _ _ _ _ (by omega)
      have hall : (xs ++ [cur]).map (·.data.toList) = pcsF s.size g b s.data.toList := by rw [← HP.out, hpx, List.map_append]; rfl
      have HA := Lib.hid hall
      clear hpx hall HP hl
      go_wp2_with (at_builtin; refine wpList_append_one rfl _ _ rfl cur rfl rfl (HO.out.alloc _) (by go_simp) (by simp; have := HB.out.size; omega) (by omega) ?_; intro v' w' ho hoff)
      have hbl : Below w1.heap.size _ w' := OwnsS.grown (HO.out.alloc (.cells #[.string cur] 9)) hoff (by simp; have := HB.out.size; omega)
      have HB2 : Below w1.heap.size w1 w' := (HB.out.alloc HB.out.size _).trans hbl
      obtain ⟨A', d', rfl, _⟩ := ho.form
      have hcap := ho.cap.2
      have hlen : (xs ++ [cur]).length ≤ xs.length + 1 := by simp
      clear hoff hbl HO HB
      generalize xs ++ [cur] = ys at *
      have HO2 := Lib.hid ho
      have s2 := HB2.size
      have HR := Lib.hid (fun W (h : W = w') => h ▸ rev_strs (n := ys.length) w' rfl ho s2 (by omega))
      clear ho
      go_wp2_with fail
      refine (HR.out _ rfl).mono ?_
      rintro e w3 ⟨rfl, hS3, hb3⟩
      have HS3 := Lib.hid hS3
      clear hS3 HO2 HR
      have hcv := convC44 w3 cm
      have hgs := grpC_size cm g b s
      have hjl : (⟨(Lib.join (ys.reverse.map (·.data.toList)) [cm]).toArray⟩ : ByteArray) = grpC cm g b s := by
        unfold grpC
        rw [List.map_reverse, HA.out]
      have hjn : (Lib.join (ys.reverse.map (·.data.toList)) [cm]).length = (grpC cm g b s).size := by rw [← hjl]; rfl
      have HJL := Lib.hid hjl
      clear hjl HA
      go_wp2_with fail
      refine (strings_joinW ys.length ⟨#[cm]⟩ _ List.length_reverse (HS3.out.below ((Below.refl _ _).alloc (Nat.le_refl _) _)) hcap (by omega) (by
        rw [show (ByteArray.mk #[cm]).data.toList = [cm] from rfl, hjn]
        omega)).mono ?_
      rintro e w4 ⟨rfl, hb4'⟩
      have s3 := hb3.size
      rw [show (ByteArray.mk #[cm]).data.toList = [cm] from rfl, HJL.out]
      go_wp2_with fail
      go_ret2
      exact ⟨rfl, belx⟩

theorem group_put_zC (cm : UInt8) (hc : ¬ (48 ≤ cm.toNat ∧ cm.toNat ≤ 57)) (s : ByteArray) (w : World) (hs : s.size ≤ 1000000000000) (hd : digitsB s = true) :
    Calls Tryz.prog 38 #[.string s, .int .i64 0, .int .i64 0, .int .u8 cm.toNat] w fun e w' => e = .returned (.tuple #[.string s, .nilIface]) ∧ Below w.heap.size w w' := by
  have HD := Lib.hid hd
  have KC := Lib.hid (fun W => group_check_c cm 0 0 W (by omega) (by omega) hc)
  clear hd hc
  go_enter Tryz.func38, Tryz.ntmps38
  go_wp2_with fail
  refine (group_digits s w (by omega)).mono ?_
  rw [HD.out]
  rintro e w1 ⟨rfl, hb1⟩
  go_wp2_with fail
  refine (KC.out _).mono ?_
  rintro e w2 ⟨rfl, rfl⟩
  go_wp2_with fail
  go_ret2
  exact ⟨rfl, belx⟩
theorem group_putC (cm : UInt8) (hc : ¬ (48 ≤ cm.toNat ∧ cm.toNat ≤ 57)) (g g2 : Nat) (s : ByteArray) (w : World) (h1 : 1 ≤ s.size) (hs : s.size ≤ 100) (hd : digitsB s = true) (hg : g ≤ 4) (hg2 : g2 ≤ 4) (hz : ¬ (g2 ≠ 0 ∧ g = 0)) :
    Calls Tryz.prog 38 #[.string s, .int .i64 g, .int .i64 g2, .int .u8 cm.toNat] w fun e w' => e = .returned (.tuple #[.string (putC cm g g2 s), .nilIface]) ∧ Below w.heap.size w w' := by
  unfold putC
  by_cases h : g = 0
  · have h2 : g2 = 0 := by
      rcases Nat.eq_zero_or_pos g2 with h2 | h2
      · exact h2
      · exact absurd ⟨by omega, h⟩ hz
    subst h
    subst h2
    exact group_put_zC cm hc s w (by omega) hd
  · rw [if_neg h]
    by_cases h2 : g2 = 0
    · subst h2
      rw [if_pos rfl]
      exact group_put_oneC cm hc g s w h1 hs hd (by omega) hg
    · rw [if_neg h2]
      exact group_put_twoC cm hc g g2 s w h1 hs hd (by omega) hg (by omega) hg2
end Go.Proofs.YtplaohmdllindaaGreatDoor

/- dec.wide. -/
namespace Go.Proofs.YtplaohmdllindaaGreatDoor
open Go.RowKit

/-- wide: the product as two words. -/
theorem dec_wide (n k : Int) (w : World) (hn : 0 ≤ n) (hn2 : n ≤ 1000000000000000) (h0 : 0 ≤ k) (h1 : k ≤ 9) :
    Calls Tryz.prog 47 #[.int .i64 n, .int .i64 k] w fun e w' => e = .returned (.tuple #[.int .u64 (n * ten k.toNat / 18446744073709551616), .int .u64 (n * ten k.toNat % 18446744073709551616)]) ∧ w = w' := by
  obtain ⟨m, rfl⟩ := Int.eq_ofNat_of_zero_le hn
  have hb := ten_bd k.toNat (by omega)
  obtain ⟨t, ht⟩ : ∃ t : Nat, ten k.toNat = t := ⟨(ten k.toNat).toNat, by omega⟩
  have ht2 : t ≤ 1000000000000000000 := by omega
  go_enter Tryz.func47, Tryz.ntmps47
  go_wp2_with fail
  refine (dec_power _ _ (by omega) (by omega)).mono ?_
  rintro e w' ⟨rfl, rfl⟩
  simp only [ht]
  have H := Lib.hid ht
  clear hb ht
  go_wp2_with fail
  refine (Tryz.bits_Mul64 _ _ (by omega) (by omega) _).mono ?_
  rintro e w' ⟨rfl, rfl⟩
  go_wp2
  go_ret2
  exact ⟨by rw [H.out]; simp, rfl⟩

end Go.Proofs.YtplaohmdllindaaGreatDoor

/- dec.nearer, Round. -/
namespace Go.Proofs.YtplaohmdllindaaGreatDoor
open Go.RowKit

theorem dec_nearer (way whole rest unit sign : Int) (w : World) (h1 : 0 ≤ whole) (h2 : 0 ≤ rest) (h3 : rest ≤ 1000000000000000) :
    Calls Tryz.prog 49 #[.int .i64 way, .int .i64 whole, .int .i64 rest, .int .i64 unit, .int .i64 sign] w fun e w' => e = .returned (.bool (nearB way whole rest unit sign)) ∧ w = w' := by
  have b1 : 2 * rest ≤ 2000000000000000 := by omega
  by_cases a2 : way = 2
  · subst a2
    go_enter Tryz.func49, Tryz.ntmps49
    go_wp2
    all_goals go_ret
    all_goals exact ⟨by first | (simp [nearB, *]; done) | (simp [nearB, *]; omega), rfl⟩
  by_cases a3 : way = 3
  · subst a3
    go_enter Tryz.func49, Tryz.ntmps49
    go_wp2
    all_goals go_ret
    all_goals exact ⟨by first | (simp [nearB, *]; done) | (simp [nearB, *]; omega), rfl⟩
  by_cases a4 : way = 4
  · subst a4
    go_enter Tryz.func49, Tryz.ntmps49
    go_wp2
    all_goals go_ret
    all_goals exact ⟨by first | (simp [nearB, *]; done) | (simp [nearB, *]; omega), rfl⟩
  by_cases a5 : way = 5
  · subst a5
    go_enter Tryz.func49, Tryz.ntmps49
    go_wp2
    all_goals go_ret
    all_goals exact ⟨by first | (simp [nearB, *]; done) | (simp [nearB, *]; omega), rfl⟩
  have c2 : (way == 2) = false := by simpa using a2
  have c3 : (way == 3) = false := by simpa using a3
  have c4 : (way == 4) = false := by simpa using a4
  have c5 : (way == 5) = false := by simpa using a5
  go_enter Tryz.func49, Tryz.ntmps49
  go_wp2
  all_goals go_ret
  all_goals exact ⟨by simp [nearB, *], rfl⟩


theorem dec_round_check (c s scale way : Int) (w : World) (h : ¬ decOk c s) :
    Calls Tryz.prog 14 #[decV c s, .int .i64 scale, .int .i64 way] w fun e w' => e = .returned (.tuple #[decV 0 0, errV 1]) ∧ Below w.heap.size w w' := by
  have H := Lib.hid h
  clear h
  go_enter Tryz.func14, Tryz.ntmps14
  go_wp2_with fail
  refine (dec_check_no c s _ H.out).mono ?_
  rintro e w1 ⟨rfl, hb⟩
  obtain ⟨hc, hf⟩ := bcell hb
  have hz : w.heap.size + 1 < w1.heap.size := by have := hb.size; simp at this; omega
  go_wp2_with fail
  exact bodyPost_ret (v := .tuple #[decV 0 0, errV 1]) (by simp [results, Tryz.results14, go_sem, hc, hz]) rfl ⟨rfl, belx⟩

theorem dec_round_scale (c s scale way : Int) (w : World) (h : decOk c s) (h1 : ¬ (0 ≤ scale ∧ scale ≤ 9)) :
    Calls Tryz.prog 14 #[decV c s, .int .i64 scale, .int .i64 way] w fun e w' => e = .returned (.tuple #[decV 0 0, errV 1]) ∧ Below w.heap.size w w' := by
  have H := Lib.hid h
  clear h
  go_enter Tryz.func14, Tryz.ntmps14
  go_wp2_with fail
  refine (dec_check_ok c s _ H.out).mono ?_
  rintro e w1 ⟨rfl, hb⟩
  obtain ⟨hc, hf⟩ := bcell hb
  have hz : w.heap.size + 1 < w1.heap.size := by have := hb.size; simp at this; omega
  go_wp2_with fail
  all_goals exact bodyPost_ret (v := .tuple #[decV 0 0, errV 1]) (by simp [results, Tryz.results14, go_sem, hc, hz]) rfl ⟨rfl, belx⟩

theorem dec_round_way (c s scale way : Int) (w : World) (h : decOk c s) (h1 : 0 ≤ scale) (h2 : scale ≤ 9) (h3 : ¬ (1 ≤ way ∧ way ≤ 5)) :
    Calls Tryz.prog 14 #[decV c s, .int .i64 scale, .int .i64 way] w fun e w' => e = .returned (.tuple #[decV 0 0, errV 3]) ∧ Below w.heap.size w w' := by
  have H := Lib.hid h
  clear h
  go_enter Tryz.func14, Tryz.ntmps14
  go_wp2_with fail
  refine (dec_check_ok c s _ H.out).mono ?_
  rintro e w1 ⟨rfl, hb⟩
  obtain ⟨hc, hf⟩ := bcell hb
  have hz : w.heap.size + 1 < w1.heap.size := by have := hb.size; simp at this; omega
  go_wp2_with fail
  all_goals exact bodyPost_ret (v := .tuple #[decV 0 0, errV 3]) (by simp [results, Tryz.results14, go_sem, hc, hz]) rfl ⟨rfl, belx⟩

def RUp (p v scale : Int) (e : Ending) : Prop := (p ≤ 1000000000000000 → e = .returned (.tuple #[decV v scale, .nilIface])) ∧ (1000000000000000 < p → e = .returned (.tuple #[decV 0 0, errV 1]))
set_option maxHeartbeats 400000 in
theorem dec_round_up (c s scale way : Int) (w : World) (h : decOk c s) (h1 : 0 ≤ scale) (h2 : scale ≤ 9) (h3 : 1 ≤ way) (h4 : way ≤ 5) (h5 : s ≤ scale) (h6 : 0 ≤ c) :
    Calls Tryz.prog 14 #[decV c s, .int .i64 scale, .int .i64 way] w fun e w' => RUp (c * ten (scale - s).toNat) (1 * (c * ten (scale - s).toNat)) scale e ∧ Below w.heap.size w w' := by
  have H := Lib.hid h
  obtain ⟨q1, q2, q3, q4⟩ := h
  have hnn : 0 ≤ (c * ten (scale - s).toNat) := Int.mul_nonneg (by omega) (by have := ten_bd (scale - s).toNat (by omega); omega)
  generalize hpe : c * ten (scale - s).toNat = p at hnn ⊢
  have HE := Lib.hid hpe
  have HW := Lib.hid (dec_wide_parts p hnn)
  clear hnn hpe
  go_enter Tryz.func14, Tryz.ntmps14
  go_wp2_with fail
  refine (dec_check_ok c s _ H.out).mono ?_
  rintro e w1 ⟨rfl, hb⟩
  obtain ⟨hc, hf⟩ := bcell hb
  have hz : w.heap.size + 1 < w1.heap.size := by have := hb.size; simp at this; omega
  go_wp2_with fail
  go_quiet (fail)
  go_wp2_with fail
  refine (dec_wide (c) (scale - s) _ (by omega) (by omega) (by omega) (by omega)).mono ?_
  rintro e w2 ⟨rfl, rfl⟩
  simp only [HE.out]
  generalize p / 18446744073709551616 = hi at HW ⊢
  generalize p % 18446744073709551616 = lo at HW ⊢
  by_cases hp : p ≤ 1000000000000000
  · obtain ⟨h1', h2', hlo⟩ := HW.out.1 hp
    subst h1' h2'
    clear HW
    go_wp2_with fail
    exact bodyPost_ret (v := .tuple #[decV (1 * lo) scale, .nilIface]) (by simp [results, Tryz.results14, go_sem, hc, hz]) rfl ⟨⟨fun _ => rfl, fun h => absurd h (by omega)⟩, belx⟩
  · obtain ⟨hq, hq1, hq2⟩ := HW.out.2 (by omega)
    clear HW
    go_wp2_with fail
    all_goals exact bodyPost_ret (v := .tuple #[decV 0 0, errV 1]) (by simp [results, Tryz.results14, go_sem, hc, hz]) rfl ⟨⟨fun h => absurd h (by omega), fun _ => rfl⟩, belx⟩

set_option maxHeartbeats 400000 in
theorem dec_round_up_neg (c s scale way : Int) (w : World) (h : decOk c s) (h1 : 0 ≤ scale) (h2 : scale ≤ 9) (h3 : 1 ≤ way) (h4 : way ≤ 5) (h5 : s ≤ scale) (h6 : c < 0) :
    Calls Tryz.prog 14 #[decV c s, .int .i64 scale, .int .i64 way] w fun e w' => RUp (-c * ten (scale - s).toNat) (-1 * (-c * ten (scale - s).toNat)) scale e ∧ Below w.heap.size w w' := by
  have H := Lib.hid h
  obtain ⟨q1, q2, q3, q4⟩ := h
  have hnn : 0 ≤ (-c * ten (scale - s).toNat) := Int.mul_nonneg (by omega) (by have := ten_bd (scale - s).toNat (by omega); omega)
  generalize hpe : -c * ten (scale - s).toNat = p at hnn ⊢
  have HE := Lib.hid hpe
  have HW := Lib.hid (dec_wide_parts p hnn)
  clear hnn hpe
  go_enter Tryz.func14, Tryz.ntmps14
  go_wp2_with fail
  refine (dec_check_ok c s _ H.out).mono ?_
  rintro e w1 ⟨rfl, hb⟩
  obtain ⟨hc, hf⟩ := bcell hb
  have hz : w.heap.size + 1 < w1.heap.size := by have := hb.size; simp at this; omega
  go_wp2_with fail
  go_quiet (fail)
  go_wp2_with fail
  refine (dec_wide (-c) (scale - s) _ (by omega) (by omega) (by omega) (by omega)).mono ?_
  rintro e w2 ⟨rfl, rfl⟩
  simp only [HE.out]
  generalize p / 18446744073709551616 = hi at HW ⊢
  generalize p % 18446744073709551616 = lo at HW ⊢
  by_cases hp : p ≤ 1000000000000000
  · obtain ⟨h1', h2', hlo⟩ := HW.out.1 hp
    subst h1' h2'
    clear HW
    go_wp2_with fail
    exact bodyPost_ret (v := .tuple #[decV (-1 * lo) scale, .nilIface]) (by simp [results, Tryz.results14, go_sem, hc, hz]) rfl ⟨⟨fun _ => rfl, fun h => absurd h (by omega)⟩, belx⟩
  · obtain ⟨hq, hq1, hq2⟩ := HW.out.2 (by omega)
    clear HW
    go_wp2_with fail
    all_goals exact bodyPost_ret (v := .tuple #[decV 0 0, errV 1]) (by simp [results, Tryz.results14, go_sem, hc, hz]) rfl ⟨⟨fun h => absurd h (by omega), fun _ => rfl⟩, belx⟩

set_option maxHeartbeats 400000 in
theorem dec_round_down (c s scale way : Int) (w : World) (h : decOk c s) (h1 : 0 ≤ scale) (h2 : scale ≤ 9) (h3 : 1 ≤ way) (h4 : way ≤ 5) (h5 : scale < s) (h6 : 0 ≤ c) :
    Calls Tryz.prog 14 #[decV c s, .int .i64 scale, .int .i64 way] w fun e w' => e = .returned (.tuple #[decV (1 * (c / ten (s - scale).toNat + if nearB way (c / ten (s - scale).toNat) (c % ten (s - scale).toNat) (ten (s - scale).toNat) 1 then 1 else 0)) scale, .nilIface]) ∧ Below w.heap.size w w' := by
  have H := Lib.hid h
  obtain ⟨q1, q2, q3, q4⟩ := h
  have hu := ten_bd (s - scale).toNat (by omega)
  generalize hue : ten (s - scale).toNat = u at hu ⊢
  have HE := Lib.hid hue
  clear hue
  obtain ⟨hu1, hu2⟩ := hu
  have g1 : 0 ≤ c / u := Int.ediv_nonneg (by omega) (by omega)
  have g2 : 0 ≤ c % u := Int.emod_nonneg _ (by omega)
  have g3 : c % u ≤ c := emod_le_self (by omega)
  have g4 : c / u ≤ c := Int.ediv_le_self _ (by omega)
  go_enter Tryz.func14, Tryz.ntmps14
  go_wp2_with fail
  refine (dec_check_ok c s _ H.out).mono ?_
  rintro e w1 ⟨rfl, hb⟩
  obtain ⟨hc, hf⟩ := bcell hb
  have hz : w.heap.size + 1 < w1.heap.size := by have := hb.size; simp at this; omega
  go_wp2_with fail
  go_quiet (fail)
  go_wp2_with fail
  refine (dec_power (s - scale) _ (by omega) (by omega)).mono ?_
  rintro e w2 ⟨rfl, rfl⟩
  simp only [HE.out]
  go_wp2_with fail
  go_quiet (fail)
  go_wp2_with fail
  refine (dec_nearer _ _ _ _ _ _ (by omega) (by omega) (by omega)).mono ?_
  rintro e w2 ⟨rfl, rfl⟩
  rcases Bool.eq_false_or_eq_true (nearB way (c / u) (c % u) u 1) with hnb | hnb
  · go_wp2_with fail
    all_goals first | contradiction | exact bodyPost_ret (v := .tuple #[decV (1 * (c / u + 1)) scale, .nilIface]) (by simp [results, Tryz.results14, go_sem, hc, hz]) rfl ⟨by simp [hnb], belx⟩ | (exfalso; simp_all; done)
  · go_wp2_with fail
    all_goals first | contradiction | exact bodyPost_ret (v := .tuple #[decV (1 * (c / u)) scale, .nilIface]) (by simp [results, Tryz.results14, go_sem, hc, hz]) rfl ⟨by simp [hnb], belx⟩ | (exfalso; simp_all; done)

set_option maxHeartbeats 400000 in
theorem dec_round_down_neg (c s scale way : Int) (w : World) (h : decOk c s) (h1 : 0 ≤ scale) (h2 : scale ≤ 9) (h3 : 1 ≤ way) (h4 : way ≤ 5) (h5 : scale < s) (h6 : c < 0) :
    Calls Tryz.prog 14 #[decV c s, .int .i64 scale, .int .i64 way] w fun e w' => e = .returned (.tuple #[decV ((-1) * ((-c) / ten (s - scale).toNat + if nearB way ((-c) / ten (s - scale).toNat) ((-c) % ten (s - scale).toNat) (ten (s - scale).toNat) (-1) then 1 else 0)) scale, .nilIface]) ∧ Below w.heap.size w w' := by
  obtain ⟨m, rfl⟩ : ∃ m, c = -m := ⟨-c, by omega⟩
  simp only [Int.neg_neg]
  have H := Lib.hid h
  obtain ⟨q1, q2, q3, q4⟩ := h
  have hu := ten_bd (s - scale).toNat (by omega)
  generalize hue : ten (s - scale).toNat = u at hu ⊢
  have HE := Lib.hid hue
  clear hue
  obtain ⟨hu1, hu2⟩ := hu
  have g1 : 0 ≤ m / u := Int.ediv_nonneg (by omega) (by omega)
  have g2 : 0 ≤ m % u := Int.emod_nonneg _ (by omega)
  have g3 : m % u ≤ m := emod_le_self (by omega)
  have g4 : m / u ≤ m := Int.ediv_le_self _ (by omega)
  go_enter Tryz.func14, Tryz.ntmps14
  go_wp2_with fail
  refine (dec_check_ok (-m) s _ H.out).mono ?_
  rintro e w1 ⟨rfl, hb⟩
  obtain ⟨hc, hf⟩ := bcell hb
  have hz : w.heap.size + 1 < w1.heap.size := by have := hb.size; simp at this; omega
  go_wp2_with fail
  go_quiet (fail)
  go_wp2_with fail
  refine (dec_power (s - scale) _ (by omega) (by omega)).mono ?_
  rintro e w2 ⟨rfl, rfl⟩
  simp only [HE.out]
  go_wp2_with fail
  go_quiet (fail)
  go_wp2_with fail
  refine (dec_nearer _ _ _ _ _ _ (by omega) (by omega) (by omega)).mono ?_
  rintro e w2 ⟨rfl, rfl⟩
  rcases Bool.eq_false_or_eq_true (nearB way (m / u) (m % u) u (-1)) with hnb | hnb
  · go_wp2_with fail
    all_goals first | contradiction | exact bodyPost_ret (v := .tuple #[decV ((-1) * (m / u + 1)) scale, .nilIface]) (by simp [results, Tryz.results14, go_sem, hc, hz]) rfl ⟨by simp [hnb], belx⟩ | (exfalso; simp_all; done)
  · go_wp2_with fail
    all_goals first | contradiction | exact bodyPost_ret (v := .tuple #[decV ((-1) * (m / u)) scale, .nilIface]) (by simp [results, Tryz.results14, go_sem, hc, hz]) rfl ⟨by simp [hnb], belx⟩ | (exfalso; simp_all; done)


/-- dec.Round, whole. -/
def RoundPost (c s scale way : Int) (e : Ending) : Prop :=
  (rndOk c s scale way → e = .returned (.tuple #[decV (rnd c s scale way) scale, .nilIface])) ∧ (¬ rndOk c s scale way → ∃ k, e = .returned (.tuple #[decV 0 0, errV k]))

theorem dec_round (c s scale way : Int) (w : World) :
    Calls Tryz.prog 14 #[decV c s, .int .i64 scale, .int .i64 way] w fun e w' => RoundPost c s scale way e ∧ Below w.heap.size w w' := by
  by_cases h1 : decOk c s
  · by_cases h2 : 0 ≤ scale ∧ scale ≤ 9
    · by_cases h3 : 1 ≤ way ∧ way ≤ 5
      · by_cases h4 : s ≤ scale
        · have ev : rnd c s scale way = c * ten (scale - s).toNat := by unfold rnd; rw [if_pos h4]
          have ok : rndOk c s scale way ↔ (-1000000000000000 ≤ c * ten (scale - s).toNat ∧ c * ten (scale - s).toNat ≤ 1000000000000000) :=
            ⟨fun h => h.2.2.2.2.2 h4, fun h => ⟨h1, h2.1, h2.2, h3.1, h3.2, fun _ => h⟩⟩
          have ht := ten_bd9 (scale - s).toNat (by have := h1.1; omega)
          unfold RoundPost
          rw [ev, ok]
          by_cases h5 : 0 ≤ c
          · have hm : 0 ≤ c * ten (scale - s).toNat := Int.mul_nonneg h5 (by omega)
            refine (dec_round_up c s scale way w h1 h2.1 h2.2 h3.1 h3.2 h4 h5).mono ?_
            rintro e w' ⟨⟨p1, p2⟩, hb⟩
            exact ⟨⟨fun h => by rw [p1 h.2, Int.one_mul], fun h => ⟨1, p2 (by omega)⟩⟩, hb⟩
          · have hm : 0 ≤ -c * ten (scale - s).toNat := Int.mul_nonneg (by omega) (by omega)
            have en : -c * ten (scale - s).toNat = -(c * ten (scale - s).toNat) := Int.neg_mul _ _
            refine (dec_round_up_neg c s scale way w h1 h2.1 h2.2 h3.1 h3.2 h4 (by omega)).mono ?_
            rintro e w' ⟨⟨p1, p2⟩, hb⟩
            rw [en] at p1 p2 hm
            exact ⟨⟨fun h => by rw [p1 (by omega)]; congr 5; omega, fun h => ⟨1, p2 (by omega)⟩⟩, hb⟩
        · have ok : rndOk c s scale way := ⟨h1, h2.1, h2.2, h3.1, h3.2, fun h => absurd h h4⟩
          unfold RoundPost
          by_cases h5 : 0 ≤ c
          · refine (dec_round_down c s scale way w h1 h2.1 h2.2 h3.1 h3.2 (by omega) h5).mono ?_
            rintro e w' ⟨p, hb⟩
            exact ⟨⟨fun _ => by rw [p]; unfold rnd; rw [if_neg h4, if_neg (show ¬ c < 0 by omega)], fun h => absurd ok h⟩, hb⟩
          · refine (dec_round_down_neg c s scale way w h1 h2.1 h2.2 h3.1 h3.2 (by omega) (by omega)).mono ?_
            rintro e w' ⟨p, hb⟩
            exact ⟨⟨fun _ => by rw [p]; unfold rnd; rw [if_neg h4, if_pos (show c < 0 by omega)], fun h => absurd ok h⟩, hb⟩
      · refine (dec_round_way c s scale way w h1 h2.1 h2.2 h3).mono ?_
        rintro e w' ⟨p, hb⟩
        exact ⟨⟨fun h => absurd ⟨h.2.2.2.1, h.2.2.2.2.1⟩ h3, fun _ => ⟨3, p⟩⟩, hb⟩
    · refine (dec_round_scale c s scale way w h1 h2).mono ?_
      rintro e w' ⟨p, hb⟩
      exact ⟨⟨fun h => absurd ⟨h.2.1, h.2.2.1⟩ h2, fun _ => ⟨1, p⟩⟩, hb⟩
  · refine (dec_round_check c s scale way w h1).mono ?_
    rintro e w' ⟨p, hb⟩
    exact ⟨⟨fun h => absurd h.1 h1, fun _ => ⟨1, p⟩⟩, hb⟩
end Go.Proofs.YtplaohmdllindaaGreatDoor

/- nout.Format: the walk, whatever the number. -/
namespace Go.Proofs.YtplaohmdllindaaGreatDoor
open Go.RowKit

abbrev symC (pt cm : UInt8) : Value := .agg #[.int .u8 pt.toNat, .int .u8 cm.toNat]
/-- The three boxes lie as they lay. -/
def FrA (w : World) (p q : ByteArray) (a f xf g g2 pt cm n s : Int) (W : World) : Prop :=
  ((W.cell? ⟨w.heap.size, 0, none⟩ = some (.string p) ∧ W.cell? ⟨w.heap.size, 1, none⟩ = some (.string q)) ∧ (W.cell? ⟨w.heap.size, 2, none⟩ = some (.int .i64 a) ∧ W.cell? ⟨w.heap.size, 3, none⟩ = some (.int .i64 f)) ∧
    (W.cell? ⟨w.heap.size, 4, none⟩ = some (.int .i64 xf) ∧ W.cell? ⟨w.heap.size, 5, none⟩ = some (.int .i64 g) ∧ W.cell? ⟨w.heap.size, 6, none⟩ = some (.int .i64 g2))) ∧
  (W.cell? ⟨w.heap.size + 1, 0, none⟩ = some (.int .u8 pt) ∧ W.cell? ⟨w.heap.size + 1, 1, none⟩ = some (.int .u8 cm)) ∧
  (W.cell? ⟨w.heap.size + 2, 0, none⟩ = some (.int .i64 n) ∧ W.cell? ⟨w.heap.size + 2, 1, none⟩ = some (.int .i64 s)) ∧
  (W.frozen? ⟨w.heap.size + 2, 0, none⟩ = false ∧ W.frozen? ⟨w.heap.size + 2, 1, none⟩ = false) ∧ w.heap.size + 3 ≤ W.heap.size ∧ Below w.heap.size w W
section
variable {w W W' : World} {p q : ByteArray} {a f xf g g2 pt cm n s : Int}
theorem FrA.step (h : FrA w p q a f xf g g2 pt cm n s W) (hb : Below W.heap.size W W') : FrA w p q a f xf g g2 pt cm n s W' := by
  obtain ⟨⟨⟨h0, h1⟩, ⟨h2, h3⟩, h4, h5, h6⟩, ⟨k0, k1⟩, ⟨d0, d1⟩, ⟨f0, f1⟩, hs, hB⟩ := h
  exact ⟨⟨⟨carry hb h0, carry hb h1⟩, ⟨carry hb h2, carry hb h3⟩, carry hb h4, carry hb h5, carry hb h6⟩, ⟨carry hb k0, carry hb k1⟩, ⟨carry hb d0, carry hb d1⟩, ⟨carryF hb (by omega) f0, carryF hb (by omega) f1⟩, Nat.le_trans hs hb.size, hB.trans (hb.mono (by omega))⟩
theorem FrA.start : FrA w p q a f xf g g2 pt cm n s (((w.alloc (.cells #[.string p, .string q, .int .i64 a, .int .i64 f, .int .i64 xf, .int .i64 g, .int .i64 g2] 42)).alloc (.cells #[.int .u8 pt, .int .u8 cm] 44)).alloc (.cells #[.int .i64 n, .int .i64 s] 23)) := by
  refine ⟨⟨⟨?_, ?_⟩, ⟨?_, ?_⟩, ?_, ?_, ?_⟩, ⟨?_, ?_⟩, ⟨?_, ?_⟩, ⟨?_, ?_⟩, ?_, ?_⟩
  all_goals (first | (go_simp; done) | (simp; done) | exact belx)
theorem FrA.store (h : FrA w p q a f xf g g2 pt cm n s W) (n' s' : Int) : FrA w p q a f xf g g2 pt cm n' s' ((W.setCell ⟨w.heap.size + 2, 0, none⟩ (.int .i64 n')).setCell ⟨w.heap.size + 2, 1, none⟩ (.int .i64 s')) := by
  obtain ⟨⟨⟨h0, h1⟩, ⟨h2, h3⟩, h4, h5, h6⟩, ⟨k0, k1⟩, ⟨d0, d1⟩, ⟨f0, f1⟩, hs, hB⟩ := h
  refine ⟨⟨⟨?_, ?_⟩, ⟨?_, ?_⟩, ?_, ?_, ?_⟩, ⟨?_, ?_⟩, ⟨?_, ?_⟩, ⟨?_, ?_⟩, ?_, ?_⟩
  all_goals (first | (go_simp; done) | (simp; omega) | exact belx)
theorem FrA.bel (h : FrA w p q a f xf g g2 pt cm n s W) : Below w.heap.size w W := h.2.2.2.2.2
end
theorem addl (x y : ByteArray) (h : x.size + y.size ≤ 100000) : ∃ z : ByteArray, z = x ++ y ∧ ∀ W : World, (Op.stringOp .add x y).run Tryz.prog W = .ok (.string z) W :=
  ⟨x ++ y, rfl, fun W => run_string_add_sum W _ _ (by omega)⟩
theorem zeroB_size (k : Nat) : (zeroB k).size = k := by show (Lib.repeatL [48] k).length = k; rw [Lib.repeatL_length]; simp

set_option maxHeartbeats 8000000 in
set_option maxRecDepth 100000 in
theorem nout_any (p q : ByteArray) (a f xf : Nat) (g g2 : Int) (pt cm : UInt8) (c : Int) (s : Nat) (c2 : Int) (s2 : Nat) (TX SW D Bh T : ByteArray) (has neg : Bool) (k l : Nat) (hk : k = a - D.size) (hl : l = f - Bh.size) (w : World) (hM : MaxL w) (hp : p.size ≤ 5) (hq : q.size ≤ 5)
    (hE : ∀ W : World, Calls Tryz.prog 31 #[patV p q a f xf g g2, symC pt cm] W fun e w' => e = .returned .nilIface ∧ Below W.heap.size W w') (ha : a ≤ 9) (hf : f ≤ 6) (hx : xf ≤ 6) (hn : decOk c s) (h2 : fixP xf c s = (c2, s2))
    (hT : ∀ W : World, Below w.heap.size w W → Calls Tryz.prog 35 #[decV c2 s2] W fun e w' => e = .returned (.string TX) ∧ Below W.heap.size W w') (hTX : TX.size ≤ 100)
    (hcut : Lib.cut TX.data.toList [46] = (SW.data.toList, Bh.data.toList, has)) (htp : Lib.trimPrefix SW.data.toList [45] = D.data.toList) (hpf : Lib.hasPrefix SW.data.toList [45] = neg) (hD : D.size ≤ 100) (hBh : Bh.size ≤ 100)
    (hG : ∀ W : World, Calls Tryz.prog 38 #[.string (zeroB k ++ D), .int .i64 g, .int .i64 g2, .int .u8 cm.toNat] W fun e w' => e = .returned (.tuple #[.string T, .nilIface]) ∧ Below W.heap.size W w') (hTs : T.size ≤ 300) :
    Calls Tryz.prog 10 #[patV p q a f xf g g2, symC pt cm, decV c s] w fun e w' => e = .returned (.tuple #[.string (noutB neg p T (Bh ++ zeroB l) q pt), .nilIface]) ∧ Below w.heap.size w w' := by
  have KC := Lib.hid hE
  have KD := Lib.hid (fun W => dec_check_ok c s W hn)
  have KR := Lib.hid (fun W => nout_trim c s W hn)
  have KT := Lib.hid hT
  have KG := Lib.hid hG
  have KM : Hid (∀ W : World, Below w.heap.size w W → Calls Tryz.prog 34 #[.string TX, .string ⟨#[46]⟩] W fun e w' => e = .returned (.tuple #[.string SW, .string Bh, .bool has]) ∧ Below W.heap.size W w') := Lib.hid (fun W hb => by
    obtain ⟨m, hm⟩ := hM.below hb
    refine (Tryz.strings_Cut TX ⟨#[46]⟩ m W (by omega) hm).mono ?_
    rintro e w' ⟨rfl, k, rfl⟩
    refine ⟨?_, bel_drewN _ (Below.refl _ _)⟩
    rw [show (⟨#[46]⟩ : ByteArray).data.toList = [46] from rfl, hcut])
  have KP : Hid (∀ W : World, Calls Tryz.prog 36 #[.string SW, .string ⟨#[45]⟩] W fun e w' => e = .returned (.tuple #[.string D, .bool neg]) ∧ W = w') := Lib.hid (fun W => by
    refine (Tryz.strings_CutPrefix SW ⟨#[45]⟩ W).mono ?_
    rintro e w' ⟨rfl, rfl⟩
    refine ⟨?_, rfl⟩
    rw [show (⟨#[45]⟩ : ByteArray).data.toList = [45] from rfl, htp, hpf])
  have KF : Hid (∀ W : World, Calls Tryz.prog 37 #[.string ⟨#[48]⟩, .int .i64 l] W fun e w' => e = .returned (.string (zeroB l)) ∧ Below W.heap.size W w') := Lib.hid (fun W => Tryz.strings_Repeat ⟨#[48]⟩ l W (by omega) (by show 1 * l ≤ _; omega))
  have KA : Hid (∀ W : World, Calls Tryz.prog 37 #[.string ⟨#[48]⟩, .int .i64 k] W fun e w' => e = .returned (.string (zeroB k)) ∧ Below W.heap.size W w') := Lib.hid (fun W => Tryz.strings_Repeat ⟨#[48]⟩ k W (by omega) (by show 1 * k ≤ _; omega))
  have hfz := zeroB_size l
  have hkz := zeroB_size k
  obtain ⟨B, eB, r1⟩ := addl Bh (zeroB l) (by rw [hfz]; omega)
  have hBs : B.size = Bh.size + l := by rw [eB, ByteArray.size_append, hfz]
  rw [← eB]
  obtain ⟨V, eV, r2⟩ := addl (zeroB k) D (by omega)
  rw [← eV] at KG
  obtain ⟨U, eU, r3⟩ := addl ⟨#[pt]⟩ B (by show 1 + _ ≤ _; omega)
  have hUs : U.size = 1 + B.size := by rw [eU, ByteArray.size_append]; rfl
  obtain ⟨C, eC, r4⟩ := addl T U (by omega)
  have hCs : C.size = T.size + U.size := by rw [eC, ByteArray.size_append]
  obtain ⟨X1, eX1, r5⟩ := addl p T (by omega)
  have hX1 : X1.size = p.size + T.size := by rw [eX1, ByteArray.size_append]
  obtain ⟨X2, eX2, r6⟩ := addl X1 q (by omega)
  have hX2 : X2.size = X1.size + q.size := by rw [eX2, ByteArray.size_append]
  obtain ⟨X3, eX3, r7⟩ := addl ⟨#[45]⟩ X2 (by show 1 + _ ≤ _; omega)
  obtain ⟨Y1, eY1, r8⟩ := addl p C (by omega)
  have hY1 : Y1.size = p.size + C.size := by rw [eY1, ByteArray.size_append]
  obtain ⟨Y2, eY2, r9⟩ := addl Y1 q (by omega)
  have hY2 : Y2.size = Y1.size + q.size := by rw [eY2, ByteArray.size_append]
  obtain ⟨Y3, eY3, r10⟩ := addl ⟨#[45]⟩ Y2 (by show 1 + _ ≤ _; omega)
  have G1 : Hid (B.toList = [] → noutB false p T B q pt = X2 ∧ noutB true p T B q pt = X3) := Lib.hid (fun h => by
    unfold noutB
    rw [h, if_pos List.isEmpty_nil, eX3, eX2, eX1]
    constructor <;> (apply ByteArray.ext; apply Array.ext'; simp))
  have G2 : Hid (¬ B.toList = [] → noutB false p T B q pt = Y2 ∧ noutB true p T B q pt = Y3) := Lib.hid (fun h => by
    have hb : ¬ B.toList.isEmpty = true := by simpa using h
    unfold noutB
    rw [if_neg hb, eY3, eY2, eY1, eC, eU]
    constructor <;> (apply ByteArray.ext; apply Array.ext'; simp))
  have e1 : IntKind.i64.wrap ((f : Int) - (Bh.size : Int)) = (f : Int) - (Bh.size : Int) := IntWalk.i64_in _ (by omega)
  have e2 : max 0 ((f : Int) - (Bh.size : Int)) = (l : Int) := by omega
  have e3 : IntKind.i64.wrap ((a : Int) - (D.size : Int)) = (a : Int) - (D.size : Int) := IntWalk.i64_in _ (by omega)
  have e4 : max 0 ((a : Int) - (D.size : Int)) = (k : Int) := by omega
  obtain ⟨c1, s1, h1⟩ : ∃ c1 s1, trimP c s = (c1, s1) := ⟨_, _, rfl⟩
  have hn1 : decOk c1 s1 := by have := (trimP_ok s c hn).1; rw [h1] at this; exact this
  have hs19 : s1 ≤ 9 := by have := hn1.2.1; omega
  have KN : Hid (∀ W : World, xf < s1 → Calls Tryz.prog 14 #[decV c1 s1, .int .i64 xf, .int .i64 5] W fun e w' => e = .returned (.tuple #[decV (rnd c1 s1 xf 5) xf, .nilIface]) ∧ Below W.heap.size W w') := Lib.hid (fun W hlt => by
    refine (dec_round c1 s1 xf 5 W).mono ?_
    rintro e w' ⟨hr, hb⟩
    exact ⟨hr.1 ⟨hn1, by omega, by omega, by omega, by omega, fun h => by omega⟩, hb⟩)
  unfold fixP at h2
  rw [h1] at KR h2
  simp only at h2
  clear hT hG hcut htp hpf hE hn eB eV eU eC eX1 eX2 eX3 eY1 eY2 eY3 hX1 hX2 hY1 hY2 hCs hUs hBs hfz hkz hk hl hM hp hq hTs hD hTX ha hf hBh h1
  by_cases hlt : xf < s1
  · rw [if_pos hlt] at h2
    have hok : decOk (rnd c1 s1 xf 5) xf := round_ok hn1 hlt
    have KR2 := Lib.hid (fun W => nout_trim (rnd c1 s1 xf 5) xf W hok)
    rw [h2] at KR2
    have KN2 := Lib.hid (fun W => KN.out W hlt)
    have hlt2 : (xf : Int) < (s1 : Int) := by omega
    clear hok h2 hn1 KN hx
    generalize rnd c1 s1 xf 5 = c3 at *
    go_enter Tryz.func10, Tryz.ntmps10
    go_wp2_with fail
    refine (KC.out _).mono ?_
    rintro e w1 ⟨rfl, hb⟩
    have F1 := Lib.hid ((FrA.start (w := w) (p := p) (q := q) (a := a) (f := f) (xf := xf) (g := g) (g2 := g2) (pt := pt.toNat) (cm := cm.toNat) (n := c) (s := s)).step hb)
    clear hb
    obtain ⟨⟨⟨h0, h1⟩, ⟨h2, h3⟩, h4, h5, h6⟩, ⟨k0, k1⟩, ⟨d0, d1⟩, ⟨f0, f1⟩, hs, hB⟩ := F1.out
    clear h0 h1 h2 h3 h4 h5 h6 k0 k1
    go_wp2_with fail
    refine (KD.out _).mono ?_
    rintro e w2 ⟨rfl, hb⟩
    have F2 := Lib.hid (F1.out.step hb)
    clear hb F1 d0 d1 f0 f1 hs hB w1
    obtain ⟨⟨⟨h0, h1⟩, ⟨h2, h3⟩, h4, h5, h6⟩, ⟨k0, k1⟩, ⟨d0, d1⟩, ⟨f0, f1⟩, hs, hB⟩ := F2.out
    clear h0 h1 h2 h3 h4 h5 h6 k0 k1
    go_wp2_with fail
    refine (KR.out _).mono ?_
    rintro e w3 ⟨rfl, hb⟩
    have F3 := Lib.hid ((F2.out.step hb).store c1 s1)
    have F3' := Lib.hid (F2.out.step hb)
    clear hb F2 d0 d1 f0 f1 hs hB
    obtain ⟨⟨⟨h0, h1⟩, ⟨h2, h3⟩, h4, h5, h6⟩, ⟨k0, k1⟩, ⟨d0, d1⟩, ⟨f0, f1⟩, hs, hB⟩ := F3'.out
    clear h0 h1 h2 h3 h5 h6 k0 k1
    go_wp2_with fail
    refine (KN2.out _).mono ?_
    rintro e w3b ⟨rfl, hb⟩
    have F3b := Lib.hid (F3.out.step hb)
    clear hb F3 F3' d0 d1 f0 f1 hs hB h4
    have hb2 : Below w3b.heap.size w3b (w3b.alloc (.cells #[.int .i64 c3, .int .i64 xf] 23)) := belx
    obtain ⟨⟨⟨h0, h1⟩, ⟨h2, h3⟩, h4, h5, h6⟩, ⟨k0, k1⟩, ⟨d0, d1⟩, ⟨f0, f1⟩, hs, hB⟩ := F3b.out
    clear h0 h1 h2 h3 h4 h5 h6 k0 k1
    go_wp2_with fail
    refine (KR2.out _).mono ?_
    rintro e w3c ⟨rfl, hb⟩
    have F4' := Lib.hid ((F3b.out.step hb2).step hb)
    have F4 := Lib.hid (((F3b.out.step hb2).step hb).store c2 s2)
    clear hb hb2 F3b d0 d1 f0 f1 hs hB
    obtain ⟨⟨⟨h0, h1⟩, ⟨h2, h3⟩, h4, h5, h6⟩, ⟨k0, k1⟩, ⟨d0, d1⟩, ⟨f0, f1⟩, hs, hB⟩ := F4'.out
    clear h0 h1 h2 h3 h4 h5 h6 k0 k1 F4'
    go_wp2_with fail
    refine (KT.out _ F4.out.bel).mono ?_
    rintro e w4 ⟨rfl, hb⟩
    have F5 := Lib.hid (F4.out.step hb)
    clear hb F4
    go_wp2_with fail
    refine (KM.out _ F5.out.bel).mono ?_
    rintro e w5 ⟨rfl, hb⟩
    have F6 := Lib.hid (F5.out.step hb)
    clear hb F5
    go_wp2_with fail
    refine (KP.out _).mono ?_
    rintro e w6 ⟨rfl, rfl⟩
    obtain ⟨⟨⟨h0, h1⟩, ⟨h2, h3⟩, h4, h5, h6⟩, ⟨k0, k1⟩, ⟨d0, d1⟩, ⟨f0, f1⟩, hs, hB⟩ := F6.out
    clear h0 h1 h2 h4 h5 h6 k0 k1 d0 d1 f0 f1 hs hB
    go_wp2_with fail
    refine (KF.out _).mono ?_
    rintro e w7 ⟨rfl, hb⟩
    have F7 := Lib.hid (F6.out.step hb)
    clear hb F6 h3
    obtain ⟨⟨⟨h0, h1⟩, ⟨h2, h3⟩, h4, h5, h6⟩, ⟨k0, k1⟩, ⟨d0, d1⟩, ⟨f0, f1⟩, hs, hB⟩ := F7.out
    clear h0 h1 h3 h4 h5 h6 k0 k1 d0 d1 f0 f1 hs hB
    go_wp2_with fail
    refine (KA.out _).mono ?_
    rintro e w8 ⟨rfl, hb⟩
    have F8 := Lib.hid (F7.out.step hb)
    clear hb F7 h2
    obtain ⟨⟨⟨h0, h1⟩, ⟨h2, h3⟩, h4, h5, h6⟩, ⟨k0, k1⟩, ⟨d0, d1⟩, ⟨f0, f1⟩, hs, hB⟩ := F8.out
    clear h0 h1 h2 h3 h4 k0 d0 d1 f0 f1 hs hB
    go_wp2_with fail
    refine (KG.out _).mono ?_
    rintro e w9 ⟨rfl, hb⟩
    have F9 := Lib.hid (F8.out.step hb)
    clear hb F8 h5 h6 k1
    obtain ⟨⟨⟨h0, h1⟩, ⟨h2, h3⟩, h4, h5, h6⟩, ⟨k0, k1⟩, ⟨d0, d1⟩, ⟨f0, f1⟩, hs, hB⟩ := F9.out
    clear h2 h3 h4 h5 h6 k1 d0 d1 f0 f1
    by_cases hf0 : B.toList = []
    · have g1 := Lib.hid (G1.out hf0)
      clear G1 G2 r8 r9 r10 r3 r4
      cases neg
      · go_wp2_with fail
        go_ret2
        rw [g1.out.1]
        exact ⟨rfl, belx⟩
      · go_wp2_with fail
        go_ret2
        rw [g1.out.2]
        exact ⟨rfl, belx⟩
    · have b2 : B.toList.isEmpty = false := by cases hq : B.toList with | nil => exact absurd hq hf0 | cons x xl => rfl
      have g2' := Lib.hid (G2.out hf0)
      have CV := convC44 w9 pt
      have u0 : (w9.alloc (.cells #[.int .u8 pt.toNat] 5)).cell? ⟨w.heap.size, 0, none⟩ = some (.string p) := carry ((Below.refl _ _).alloc (Nat.le_refl _) _) h0
      have u1 : (w9.alloc (.cells #[.int .u8 pt.toNat] 5)).cell? ⟨w.heap.size, 1, none⟩ = some (.string q) := carry ((Below.refl _ _).alloc (Nat.le_refl _) _) h1
      clear G1 G2 r5 r6 r7
      cases neg
      · go_wp2_with fail
        go_ret2
        rw [g2'.out.1]
        exact ⟨rfl, belx⟩
      · go_wp2_with fail
        go_ret2
        rw [g2'.out.2]
        exact ⟨rfl, belx⟩
  · rw [if_neg hlt] at h2
    cases h2
    have hlt2 : ¬ (xf : Int) < (s2 : Int) := by omega
    clear KN hn1 hx
    go_enter Tryz.func10, Tryz.ntmps10
    go_wp2_with fail
    refine (KC.out _).mono ?_
    rintro e w1 ⟨rfl, hb⟩
    have F1 := Lib.hid ((FrA.start (w := w) (p := p) (q := q) (a := a) (f := f) (xf := xf) (g := g) (g2 := g2) (pt := pt.toNat) (cm := cm.toNat) (n := c) (s := s)).step hb)
    clear hb
    obtain ⟨⟨⟨h0, h1⟩, ⟨h2, h3⟩, h4, h5, h6⟩, ⟨k0, k1⟩, ⟨d0, d1⟩, ⟨f0, f1⟩, hs, hB⟩ := F1.out
    clear h0 h1 h2 h3 h4 h5 h6 k0 k1
    go_wp2_with fail
    refine (KD.out _).mono ?_
    rintro e w2 ⟨rfl, hb⟩
    have F2 := Lib.hid (F1.out.step hb)
    clear hb F1 d0 d1 f0 f1 hs hB w1
    obtain ⟨⟨⟨h0, h1⟩, ⟨h2, h3⟩, h4, h5, h6⟩, ⟨k0, k1⟩, ⟨d0, d1⟩, ⟨f0, f1⟩, hs, hB⟩ := F2.out
    clear h0 h1 h2 h3 h4 h5 h6 k0 k1
    go_wp2_with fail
    refine (KR.out _).mono ?_
    rintro e w3 ⟨rfl, hb⟩
    have F4 := Lib.hid ((F2.out.step hb).store c2 s2)
    have F3' := Lib.hid (F2.out.step hb)
    clear hb F2 d0 d1 f0 f1 hs hB
    obtain ⟨⟨⟨h0, h1⟩, ⟨h2, h3⟩, h4, h5, h6⟩, ⟨k0, k1⟩, ⟨d0, d1⟩, ⟨f0, f1⟩, hs, hB⟩ := F3'.out
    clear h0 h1 h2 h3 h5 h6 k0 k1 F3'
    go_wp2_with fail
    refine (KT.out _ F4.out.bel).mono ?_
    rintro e w4 ⟨rfl, hb⟩
    have F5 := Lib.hid (F4.out.step hb)
    clear hb F4
    go_wp2_with fail
    refine (KM.out _ F5.out.bel).mono ?_
    rintro e w5 ⟨rfl, hb⟩
    have F6 := Lib.hid (F5.out.step hb)
    clear hb F5
    go_wp2_with fail
    refine (KP.out _).mono ?_
    rintro e w6 ⟨rfl, rfl⟩
    obtain ⟨⟨⟨h0, h1⟩, ⟨h2, h3⟩, h4, h5, h6⟩, ⟨k0, k1⟩, ⟨d0, d1⟩, ⟨f0, f1⟩, hs, hB⟩ := F6.out
    clear h0 h1 h2 h4 h5 h6 k0 k1 d0 d1 f0 f1 hs hB
    go_wp2_with fail
    refine (KF.out _).mono ?_
    rintro e w7 ⟨rfl, hb⟩
    have F7 := Lib.hid (F6.out.step hb)
    clear hb F6 h3
    obtain ⟨⟨⟨h0, h1⟩, ⟨h2, h3⟩, h4, h5, h6⟩, ⟨k0, k1⟩, ⟨d0, d1⟩, ⟨f0, f1⟩, hs, hB⟩ := F7.out
    clear h0 h1 h3 h4 h5 h6 k0 k1 d0 d1 f0 f1 hs hB
    go_wp2_with fail
    refine (KA.out _).mono ?_
    rintro e w8 ⟨rfl, hb⟩
    have F8 := Lib.hid (F7.out.step hb)
    clear hb F7 h2
    obtain ⟨⟨⟨h0, h1⟩, ⟨h2, h3⟩, h4, h5, h6⟩, ⟨k0, k1⟩, ⟨d0, d1⟩, ⟨f0, f1⟩, hs, hB⟩ := F8.out
    clear h0 h1 h2 h3 h4 k0 d0 d1 f0 f1 hs hB
    go_wp2_with fail
    refine (KG.out _).mono ?_
    rintro e w9 ⟨rfl, hb⟩
    have F9 := Lib.hid (F8.out.step hb)
    clear hb F8 h5 h6 k1
    obtain ⟨⟨⟨h0, h1⟩, ⟨h2, h3⟩, h4, h5, h6⟩, ⟨k0, k1⟩, ⟨d0, d1⟩, ⟨f0, f1⟩, hs, hB⟩ := F9.out
    clear h2 h3 h4 h5 h6 k1 d0 d1 f0 f1
    by_cases hf0 : B.toList = []
    · have g1 := Lib.hid (G1.out hf0)
      clear G1 G2 r8 r9 r10 r3 r4
      cases neg
      · go_wp2_with fail
        go_ret2
        rw [g1.out.1]
        exact ⟨rfl, belx⟩
      · go_wp2_with fail
        go_ret2
        rw [g1.out.2]
        exact ⟨rfl, belx⟩
    · have b2 : B.toList.isEmpty = false := by cases hq : B.toList with | nil => exact absurd hq hf0 | cons x xl => rfl
      have g2' := Lib.hid (G2.out hf0)
      have CV := convC44 w9 pt
      have u0 : (w9.alloc (.cells #[.int .u8 pt.toNat] 5)).cell? ⟨w.heap.size, 0, none⟩ = some (.string p) := carry ((Below.refl _ _).alloc (Nat.le_refl _) _) h0
      have u1 : (w9.alloc (.cells #[.int .u8 pt.toNat] 5)).cell? ⟨w.heap.size, 1, none⟩ = some (.string q) := carry ((Below.refl _ _).alloc (Nat.le_refl _) _) h1
      clear G1 G2 r5 r6 r7
      cases neg
      · go_wp2_with fail
        go_ret2
        rw [g2'.out.1]
        exact ⟨rfl, belx⟩
      · go_wp2_with fail
        go_ret2
        rw [g2'.out.2]
        exact ⟨rfl, belx⟩
end Go.Proofs.YtplaohmdllindaaGreatDoor

/- dec.right, dec.compared, dec.Same. -/
namespace Go.Proofs.YtplaohmdllindaaGreatDoor
open Go.RowKit

def cmpI (p q : Int) : Int := if p < q then -1 else if p = q then 0 else 1
theorem cmp_lt {p q : Int} (h : p < q) : cmpI p q = -1 := if_pos h
theorem cmp_eq {p q : Int} (h : p = q) : cmpI p q = 0 := by unfold cmpI; rw [if_neg (by omega), if_pos h]
theorem cmp_gt {p q : Int} (h : q < p) : cmpI p q = 1 := by unfold cmpI; rw [if_neg (by omega), if_neg (by omega)]
theorem cmp_zero (p q : Int) : (cmpI p q == 0) = decide (p = q) := by
  unfold cmpI
  split
  · rw [decide_eq_false (by omega)]; rfl
  · split
    · rw [decide_eq_true (by assumption)]; rfl
    · rw [decide_eq_false (by assumption)]; rfl

/-- two words say which is less -/
theorem words_cmp (p q : Int) (hp : 0 ≤ p) (hq : 0 ≤ q) : ∃ h l k m : Int, h = p / 18446744073709551616 ∧ l = p % 18446744073709551616 ∧ k = q / 18446744073709551616 ∧ m = q % 18446744073709551616 ∧
    0 ≤ h ∧ 0 ≤ k ∧ 0 ≤ l ∧ 0 ≤ m ∧ ((h < k ∧ cmpI p q = -1) ∨ (h = k ∧ l < m ∧ cmpI p q = -1) ∨ (h = k ∧ l = m ∧ cmpI p q = 0) ∨ (h = k ∧ m < l ∧ cmpI p q = 1) ∨ (k < h ∧ cmpI p q = 1)) := by
  refine ⟨_, _, _, _, rfl, rfl, rfl, rfl, by omega, by omega, by omega, by omega, ?_⟩
  rcases Int.lt_trichotomy p q with h | h | h
  · rw [cmp_lt h]
    by_cases h2 : p / 18446744073709551616 < q / 18446744073709551616
    · exact .inl ⟨h2, rfl⟩
    · exact .inr (.inl ⟨by omega, by omega, rfl⟩)
  · subst h
    rw [cmp_eq rfl]
    exact .inr (.inr (.inl ⟨rfl, rfl, rfl⟩))
  · rw [cmp_gt h]
    by_cases h2 : q / 18446744073709551616 < p / 18446744073709551616
    · exact .inr (.inr (.inr (.inr ⟨h2, rfl⟩)))
    · exact .inr (.inr (.inr (.inl ⟨by omega, by omega, rfl⟩)))

set_option maxHeartbeats 2000000 in
theorem cmp_pos (a s b t : Int) (w : World) (ha : decOk a s) (hb : decOk b t) (h0 : 0 ≤ a) (h1 : 0 ≤ b) :
    Calls Tryz.prog 46 #[decV a s, decV b t] w fun e w' => e = .returned (.int .i64 (cmpI (a * ten t.toNat) (b * ten s.toNat))) ∧ Below w.heap.size w w' := by
  obtain ⟨a1, a2, a3, a4⟩ := ha
  obtain ⟨b1, b2, b3, b4⟩ := hb
  have K1 := fun W => dec_wide a t W h0 a4 b1 b2
  have K2 := fun W => dec_wide b s W h1 b4 a1 a2
  have t1 := (ten_bd9 t.toNat (by omega)).1
  have t2 := (ten_bd9 s.toNat (by omega)).1
  obtain ⟨h, l, k, m, e1, e2, e3, e4, p1, p2, p3, p4, hc⟩ := words_cmp (a * ten t.toNat) (b * ten s.toNat) (Int.mul_nonneg h0 (by omega)) (Int.mul_nonneg h1 (by omega))
  rw [← e1, ← e2] at K1
  rw [← e3, ← e4] at K2
  generalize cmpI (a * ten t.toNat) (b * ten s.toNat) = C at *
  replace K1 := Lib.hid K1
  replace K2 := Lib.hid K2
  have HC := Lib.hid hc
  clear e1 e2 e3 e4 t1 t2 hc
  go_enter Tryz.func46, Tryz.ntmps46
  go_wp2_with fail
  refine (K1.out _).mono ?_
  rintro e w1 ⟨rfl, rfl⟩
  go_wp2_with fail
  refine (K2.out _).mono ?_
  rintro e w2 ⟨rfl, rfl⟩
  rcases HC.out with ⟨x1, x2⟩ | ⟨x1, x2, x3⟩ | ⟨x1, x2, x3⟩ | ⟨x1, x2, x3⟩ | ⟨x1, x2⟩
  · have HX := Lib.hid x2
    clear x2 HC
    go_wp2_with fail
    go_ret
    exact ⟨by rw [HX.out]; rfl, belx⟩
  · have HX := Lib.hid x3
    clear x3 HC
    subst x1
    go_wp2_with fail
    go_ret
    exact ⟨by rw [HX.out]; rfl, belx⟩
  · have HX := Lib.hid x3
    clear x3 HC
    subst x1 x2
    go_wp2_with fail
    go_ret
    exact ⟨by rw [HX.out]; rfl, belx⟩
  · have HX := Lib.hid x3
    have x4 : (l == m) = false := by rw [beq_eq_false_iff_ne]; omega
    have x5 : ¬ l < m := by omega
    clear x3 HC
    subst x1
    go_wp2_with fail
    go_ret
    exact ⟨by rw [HX.out]; rfl, belx⟩
  · have HX := Lib.hid x2
    have x4 : (h == k) = false := by rw [beq_eq_false_iff_ne]; omega
    have x5 : ¬ h < k := by omega
    clear x2 HC
    go_wp2_with fail
    go_ret
    exact ⟨by rw [HX.out]; rfl, belx⟩

theorem decOk_neg {a s : Int} (h : decOk a s) : decOk (-a) s := by
  obtain ⟨h1, h2, h3, h4⟩ := h
  exact ⟨h1, h2, by omega, by omega⟩

set_option maxHeartbeats 2000000 in
theorem dec_cmp (a s b t : Int) (w : World) (ha : decOk a s) (hb : decOk b t) :
    Calls Tryz.prog 46 #[decV a s, decV b t] w fun e w' => e = .returned (.int .i64 (cmpI (a * ten t.toNat) (b * ten s.toNat))) ∧ Below w.heap.size w w' := by
  have t1 := (ten_bd9 t.toNat (by have := hb.1; have := hb.2.1; omega)).1
  have t2 := (ten_bd9 s.toNat (by have := ha.1; have := ha.2.1; omega)).1
  by_cases h0 : 0 ≤ a
  · by_cases h1 : 0 ≤ b
    · exact cmp_pos a s b t w ha hb h0 h1
    · have hc := cmp_gt (p := a * ten t.toNat) (q := b * ten s.toNat) (by
        have x1 := Int.mul_nonneg h0 (by omega : 0 ≤ ten t.toNat)
        have x2 := Int.mul_pos (by omega : 0 < -b) (by omega : 0 < ten s.toNat)
        rw [Int.neg_mul] at x2
        omega)
      rw [hc]
      clear hc t1 t2
      go_enter Tryz.func46, Tryz.ntmps46
      go_wp2_with fail
      go_ret
      exact ⟨rfl, belx⟩
  · by_cases h1 : 0 ≤ b
    · have hc := cmp_lt (p := a * ten t.toNat) (q := b * ten s.toNat) (by
        have x1 := Int.mul_nonneg h1 (by omega : 0 ≤ ten s.toNat)
        have x2 := Int.mul_pos (by omega : 0 < -a) (by omega : 0 < ten t.toNat)
        rw [Int.neg_mul] at x2
        omega)
      rw [hc]
      clear hc t1 t2
      go_enter Tryz.func46, Tryz.ntmps46
      go_wp2_with fail
      go_ret
      exact ⟨rfl, belx⟩
    · have KN := fun W => cmp_pos (-b) t (-a) s W (decOk_neg hb) (decOk_neg ha) (by omega) (by omega)
      have hc : cmpI (-b * ten s.toNat) (-a * ten t.toNat) = cmpI (a * ten t.toNat) (b * ten s.toNat) := by
        rw [Int.neg_mul, Int.neg_mul]
        unfold cmpI
        congr 1
        · apply propext; omega
        · congr 1
          apply propext; omega
      rw [hc] at KN
      replace KN := Lib.hid KN
      obtain ⟨_, _, a3, a4⟩ := ha
      obtain ⟨_, _, b3, b4⟩ := hb
      clear hc t1 t2
      generalize cmpI (a * ten t.toNat) (b * ten s.toNat) = C at *
      go_enter Tryz.func46, Tryz.ntmps46
      go_wp2_with fail
      refine (KN.out _).mono ?_
      rintro e w1 ⟨rfl, hb⟩
      go_wp2_with fail
      go_ret
      exact ⟨rfl, belx⟩

set_option maxHeartbeats 1000000 in
theorem right_ok (a s b t : Int) (w : World) (ha : decOk a s) (hb : decOk b t) :
    Calls Tryz.prog 45 #[decV a s, decV b t] w fun e w' => e = .returned (.bool true) ∧ Below w.heap.size w w' := by
  have K1 := Lib.hid (fun W => dec_check_ok a s W ha)
  have K2 := Lib.hid (fun W => dec_check_ok b t W hb)
  clear ha hb
  go_enter Tryz.func45, Tryz.ntmps45
  go_wp2_with fail
  refine (K1.out _).mono ?_
  rintro e w1 ⟨rfl, hb⟩
  have c0 : w1.cell? ⟨w.heap.size + 1, 0, none⟩ = some (.int .i64 b) := carry hb (by go_simp)
  have c1 : w1.cell? ⟨w.heap.size + 1, 1, none⟩ = some (.int .i64 t) := carry hb (by go_simp)
  have HB : Hid (Below w.heap.size w w1) := Lib.hid belx
  clear hb
  go_wp2_with fail
  refine (K2.out _).mono ?_
  rintro e w2 ⟨rfl, hb⟩
  have HB2 : Hid (Below w.heap.size w w2) := Lib.hid (HB.out.trans (hb.mono HB.out.size))
  clear hb
  go_wp2_with fail
  go_ret
  exact ⟨rfl, HB2.out⟩

set_option maxHeartbeats 1000000 in
theorem dec_same (a s b t : Int) (w : World) (ha : decOk a s) (hb : decOk b t) :
    Calls Tryz.prog 12 #[decV a s, decV b t] w fun e w' => e = .returned (.bool (decide (a * ten t.toNat = b * ten s.toNat))) ∧ Below w.heap.size w w' := by
  have K1 := Lib.hid (fun W => right_ok a s b t W ha hb)
  have K2 := Lib.hid (fun W => dec_cmp a s b t W ha hb)
  rw [← cmp_zero]
  clear ha hb
  generalize cmpI (a * ten t.toNat) (b * ten s.toNat) = C at *
  go_enter Tryz.func12, Tryz.ntmps12
  go_wp2_with fail
  refine (K1.out _).mono ?_
  rintro e w1 ⟨rfl, hb⟩
  have x0 : w1.cell? ⟨w.heap.size, 0, none⟩ = some (.int .i64 a) := carry hb (by go_simp)
  have x1 : w1.cell? ⟨w.heap.size, 1, none⟩ = some (.int .i64 s) := carry hb (by go_simp)
  have c0 : w1.cell? ⟨w.heap.size + 1, 0, none⟩ = some (.int .i64 b) := carry hb (by go_simp)
  have c1 : w1.cell? ⟨w.heap.size + 1, 1, none⟩ = some (.int .i64 t) := carry hb (by go_simp)
  have HB : Hid (Below w.heap.size w w1) := Lib.hid belx
  clear hb
  go_wp2_with fail
  refine (K2.out _).mono ?_
  rintro e w2 ⟨rfl, hb⟩
  have HB2 : Hid (Below w.heap.size w w2) := Lib.hid (HB.out.trans (hb.mono HB.out.size))
  clear hb
  go_wp2_with fail
  go_ret
  exact ⟨rfl, HB2.out⟩
end Go.Proofs.YtplaohmdllindaaGreatDoor

/- dec.Less; ref's Starts at "-". -/
namespace Go.Proofs.YtplaohmdllindaaGreatDoor
open Go.RowKit

theorem cmp_neg (p q : Int) : decide (cmpI p q < 0) = decide (p < q) := by
  unfold cmpI
  by_cases h : p < q
  · rw [if_pos h, decide_eq_true h]; rfl
  · rw [if_neg h, decide_eq_false h]
    split <;> rfl

set_option maxHeartbeats 1000000 in
theorem dec_less (a s b t : Int) (w : World) (ha : decOk a s) (hb : decOk b t) :
    Calls Tryz.prog 13 #[decV a s, decV b t] w fun e w' => e = .returned (.bool (decide (a * ten t.toNat < b * ten s.toNat))) ∧ Below w.heap.size w w' := by
  have K1 := Lib.hid (fun W => right_ok a s b t W ha hb)
  have K2 := Lib.hid (fun W => dec_cmp a s b t W ha hb)
  rw [← cmp_neg]
  clear ha hb
  generalize cmpI (a * ten t.toNat) (b * ten s.toNat) = C at *
  go_enter Tryz.func13, Tryz.ntmps13
  go_wp2_with fail
  refine (K1.out _).mono ?_
  rintro e w1 ⟨rfl, hb⟩
  have x0 : w1.cell? ⟨w.heap.size, 0, none⟩ = some (.int .i64 a) := carry hb (by go_simp)
  have x1 : w1.cell? ⟨w.heap.size, 1, none⟩ = some (.int .i64 s) := carry hb (by go_simp)
  have c0 : w1.cell? ⟨w.heap.size + 1, 0, none⟩ = some (.int .i64 b) := carry hb (by go_simp)
  have c1 : w1.cell? ⟨w.heap.size + 1, 1, none⟩ = some (.int .i64 t) := carry hb (by go_simp)
  have HB : Hid (Below w.heap.size w w1) := Lib.hid belx
  clear hb
  go_wp2_with fail
  refine (K2.out _).mono ?_
  rintro e w2 ⟨rfl, hb⟩
  have HB2 : Hid (Below w.heap.size w w2) := Lib.hid (HB.out.trans (hb.mono HB.out.size))
  clear hb
  go_wp2_with fail
  go_ret
  exact ⟨rfl, HB2.out⟩

/-- does a text begin with '-'? -/
def minusB (s : ByteArray) : Bool := s.data.toList.head? == some 45

theorem ref_starts (s : ByteArray) (w : World) (hs : s.size ≤ 1000) :
    Calls Tryz.prog 15 #[.string s, .string ⟨#[45]⟩] w fun e w' => e = .returned (.bool (minusB s)) ∧ w' = w := by
  by_cases h0 : s.size = 0
  · have hm : minusB s = false := by
      unfold minusB
      have : s.data.toList = [] := List.eq_nil_of_length_eq_zero (by rw [Array.length_toList]; exact h0)
      rw [this]
      rfl
    rw [hm]
    have h1 : ¬ ((1 : Int) ≤ (s.size : Int)) := by omega
    have h2 : decide ((1 : Int) ≤ (s.size : Int)) = false := decide_eq_false h1
    go_enter Tryz.func15, Tryz.ntmps15
    go_wp2_with fail
    go_ret
    exact ⟨rfl, rfl⟩
  · have hm : ((s.extract 0 1).toList == [45]) = minusB s := by
      unfold minusB
      have e : (s.extract 0 1).toList = s.data.toList.take 1 := by rw [Lib.toList_data, ByteArray.data_extract, Array.toList_extract]; rfl
      rw [e]
      cases hl : s.data.toList with
      | nil => exact absurd (by have := congrArg List.length hl; rw [Array.length_toList] at this; exact this) h0
      | cons x l => simp
    have h1 : (1 : Int) ≤ (s.size : Int) := by omega
    have h2 : decide ((1 : Int) ≤ (s.size : Int)) = true := decide_eq_true h1
    go_enter Tryz.func15, Tryz.ntmps15
    go_wp2_with fail
    go_ret
    exact ⟨rfl, rfl⟩
end Go.Proofs.YtplaohmdllindaaGreatDoor
