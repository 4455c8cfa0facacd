/- CoverLoop, CoverAll: texts put together. -/
import Derived.Test.YthlcjlmaaaappaaGreatDoorCo21
import Derived.Test.YthlcjlmaaaappaaGreatDoorCo2
import Derived.Deep.RegionLaw
import Derived.Deep.DeepCutAuto
import Derived.StillTailTactics
set_option linter.unusedVariables false
set_option linter.unusedSimpArgs false
/- CoverAll: the loop that gives the node its cases. -/
namespace Go.Proofs.YthlcjlmaaaappaaGreatDoor
open Go.RowKit

/-- a case of an empty body, for append -/
def kCaseC : Kind ByteArray where
  e := 33
  sl := 28
  size := 2
  bytes := 40
  cells := fun x => [.string x, .slice none 0 0]
  zero := .agg #[.string ⟨#[]⟩, .slice none 0 0]
  hsl := Tryz.underlying28
  hi := by
    have h : (Tryz.prog.info? 33).map (fun i => (i.zero, i.size, i.bytes)) = some (some (.agg #[.string ⟨#[]⟩, .slice none 0 0]), 2, 40) := by kernel_rfl
    obtain ⟨i, hi, h2⟩ := Option.map_eq_some_iff.1 h
    simp only [Prod.mk.injEq] at h2
    exact ⟨i, hi, h2.1, h2.2.1, h2.2.2⟩
  hzs := rfl
  hpos := by decide
  hlen := fun _ => rfl
  hone := fun x u hu => by
    simp only [List.mem_cons, List.not_mem_nil, or_false] at hu
    rcases hu with rfl | rfl <;> rfl
/-- such a row, as msg.Check's contract reads it -/
theorem cases_ofC {w : World} {base : Nat} {v : Value} {ks : List ByteArray} (h : OwnsG kCaseC w base v ks) : ∃ A c, v = .slice A ks.length c ∧ ks.length ≤ c ∧ c ≤ 9223372036854775807 ∧ CasesIn w A ks := by
  obtain ⟨A, c, rfl, h1, h2, _, h3⟩ := h.form
  refine ⟨A, c, rfl, h1, h2, ?_⟩
  rcases h3 with h3 | ⟨g, rfl, _, _, h4⟩
  · exact .inl h3
  · refine .inr ⟨g, 0, rfl, fun j x hx => ⟨?_, ?_⟩⟩
    · have := h4 j x 0 _ hx rfl
      rw [Nat.zero_add]
      exact this
    · have := h4 j x 1 _ hx rfl
      rw [Nat.zero_add]
      exact this

/-- the law's own node: its cases so far; nothing else of w2 is touched -/
def NodeOff (w2 wr : World) (gb : Nat) (xs : List ByteArray) : Prop :=
  Off [gb] w2 wr ∧ gb < w2.heap.size ∧ wr.cell? ⟨gb, 0, none⟩ = some (.int .i64 4) ∧ wr.cell? ⟨gb, 1, none⟩ = some (.string ⟨#[110]⟩) ∧ wr.cell? ⟨gb, 2, none⟩ = some (.int .i64 0) ∧ wr.frozen? ⟨gb, 3, none⟩ = false ∧
    ∃ A c, wr.cell? ⟨gb, 3, none⟩ = some (.slice A xs.length c) ∧ OwnsG kCaseC wr w2.heap.size (.slice A xs.length c) xs
theorem NodeOff.below {w2 wr wx : World} {gb : Nat} {xs : List ByteArray} (h : NodeOff w2 wr gb xs) (hb : Below wr.heap.size wr wx) : NodeOff w2 wx gb xs := by
  obtain ⟨h0, hlt, h1, h2, h3, h4, A, c, h5, h6⟩ := h
  exact ⟨h0.below hb h0.size, hlt, carry hb h1, carry hb h2, carry hb h3, carryF hb (lt_of_cell h5) h4, A, c, carry hb h5, h6.below hb⟩
theorem NodeOff.add {w2 wr w3 : World} {gb : Nat} {T : List ByteArray} {x : ByteArray} {A A3 : Option Addr} {c c3 : Nat} (h : NodeOff w2 wr gb T) (hc : wr.cell? ⟨gb, 3, none⟩ = some (.slice A T.length c)) (ho : OwnsG kCaseC wr w2.heap.size (.slice A T.length c) T)
    (hoff : Off (Value.slice A T.length c).ownBlock.toList wr w3) (ho' : OwnsG kCaseC w3 w2.heap.size (.slice A3 (T ++ [x]).length c3) (T ++ [x])) (hfr : Fresh wr (.slice A T.length c) (.slice A3 (T ++ [x]).length c3)) :
    w3.cell? ⟨gb, 3, none⟩ = some (.slice A T.length c) ∧ w3.frozen? ⟨gb, 3, none⟩ = false ∧ NodeOff w2 (w3.setCell ⟨gb, 3, none⟩ (.slice A3 (T ++ [x]).length c3)) gb (T ++ [x]) := by
  obtain ⟨h0, hlt, h1, h2, h3, h4, _⟩ := h
  have hn : gb ∉ (Value.slice A T.length c).ownBlock.toList := fun hm => by have := (ho.block gb hm).1; omega
  have hn' : gb ∉ (Value.slice A3 (T ++ [x]).length c3).ownBlock.toList := fun hm => by have := (ho'.block gb hm).1; omega
  have q := hoff.cell hc hn
  have f := (hoff.frozen (lt_of_cell hc) hn).trans h4
  have hO : Off (gb :: (Value.slice A T.length c).ownBlock.toList) w2 w3 := (h0.more (fun k hk => by simp only [List.mem_singleton] at hk; simp [hk])).trans (hoff.more (fun k hk => List.mem_cons_of_mem _ hk))
  have hO1 : Off [gb] w2 w3 := hO.less (fun k hk => by
    rcases List.mem_cons.1 hk with rfl | hk
    · exact .inl (by simp)
    · exact .inr (ho.block k hk).1)
  refine ⟨q, f, hO1.setCell _ _ (by simp), hlt, cell_other (hoff.cell h1 hn) (by simp), cell_other (hoff.cell h2 hn) (by simp), cell_other (hoff.cell h3 hn) (by simp), (World.frozen?_setCell ..).trans f, A3, c3, cell_same q, ?_⟩
  exact OwnsG.off ho' ((Off.refl [gb] _).setCell _ _ (by simp)) (fun g hg hm => by
    simp only [List.mem_singleton] at hm
    subst hm
    exact hn' (by simpa using hg))

theorem ref_kinds_own (w : World) :
    Calls Tryz.prog 12 #[] w fun e w' => e = .returned (.slice (some ⟨w.heap.size, 0, none⟩) 5 5) ∧ OwnsS w' w.heap.size (.slice (some ⟨w.heap.size, 0, none⟩) 5 5) [⟨#[122, 101, 114, 111]⟩, ⟨#[111, 110, 101]⟩, ⟨#[116, 119, 111]⟩, ⟨#[102, 101, 119]⟩, ⟨#[109, 97, 110, 121]⟩] ∧ Below w.heap.size w w' := by
  go_enter Tryz.func12, Tryz.ntmps12
  go_wp2_with fail
  go_ret
  exact ⟨rfl, World.ownsRow_lit w _ 5 (Nat.le_refl _) (by decide) rfl, (by (repeat (first | with_reducible exact Below.refl _ _ | with_reducible refine bel_set ?_ ?_ | with_reducible refine bel_alloc ?_ ?_ | with_reducible refine Below.drew ?_ | with_reducible refine bel_drewN _ ?_ | with_reducible refine bel_call ?_ (by assumption) ?_)); all_goals (first | (simp; done) | omega | (simp; omega)))⟩
end Go.Proofs.YthlcjlmaaaappaaGreatDoor

/- CoverAll: the law's walk. -/
namespace Go.Proofs.YthlcjlmaaaappaaGreatDoor
open Go.RowKit

theorem SetCAt.below {w w' : World} {b : Nat} {s : SetC} (h : SetCAt w b s) (hb : Below w.heap.size w w') : SetCAt w' b s :=
  ⟨carry hb h.1, carry hb h.2.1, carry hb h.2.2.1, carry hb h.2.2.2.1, carry hb h.2.2.2.2⟩

set_option maxRecDepth 100000 in
set_option maxHeartbeats 8000000 in
theorem walk (s : SetC) (w : World) (hE : RuleEnv w) (hK : MKinds w) (hs : s.small) :
    Calls Tryz.prog 4 #[setV s.s0 s.s1 s.s2 s.s3 s.s4] w fun e w' => e = .returned (.bool true) ∧ Below w.heap.size w w' := by
  have KM := Lib.hid (fun (s : SetC) (hs : s.small) W (hb : Below w.heap.size w W) g A ks c hN hC hc hc2 hn hz h0 => cover_missing g ⟨#[110]⟩ A ks c s W (hE.below hb) (hK.below hb) hs hN hC hc hc2 hn hz nameN (by decide) h0)
  have KI := Lib.hid (fun (s : SetC) (hs : s.small) W (hb : Below w.heap.size w W) g A ks c hN hC hc hc2 hn hz h0 => cover_idle g ⟨#[110]⟩ A ks c s W (hE.below hb) (hK.below hb) hs hN hC hc hc2 hn hz nameN (by decide) h0)
  have KP := Lib.hid (fun W (hb : Below w.heap.size w W) => plural_check s W (hE.below hb) hs)
  have HSM := Lib.hid hs
  have H6 := Lib.hid (miss6 (nonB s))
  have H1 := Lib.hid (idle1 (nonB s))
  have H5 := Lib.hid (sum5 (nonB s))
  have HSC : Hid (∀ W b, W.cell? ⟨b, 0, none⟩ = some (.string s.s0) → W.cell? ⟨b, 1, none⟩ = some (.string s.s1) → W.cell? ⟨b, 2, none⟩ = some (.string s.s2) → W.cell? ⟨b, 3, none⟩ = some (.string s.s3) → W.cell? ⟨b, 4, none⟩ = some (.string s.s4) → SetCAt W b s) := Lib.hid (fun W b h0 h1 h2 h3 h4 => ⟨h0, h1, h2, h3, h4⟩)
  clear hE hK hs
  go_enter Tryz.func4, Tryz.ntmps4
  go_wp2_with fail
  refine (ref_kinds_own _).mono ?_
  rintro e w1 ⟨rfl, ho, hb⟩
  have hS1 : SetCAt w1 w.heap.size s := ⟨carry hb (by go_simp), carry hb (by go_simp), carry hb (by go_simp), carry hb (by go_simp), carry hb (by go_simp)⟩
  have g0 : w1.cell? ⟨w.heap.size + 1, 0, none⟩ = some (.int .i64 4) := carry hb (by go_simp)
  have g1 : w1.cell? ⟨w.heap.size + 1, 1, none⟩ = some (.string ⟨#[110]⟩) := carry hb (by go_simp)
  have g2 : w1.cell? ⟨w.heap.size + 1, 2, none⟩ = some (.int .i64 0) := carry hb (by go_simp)
  have g3 : w1.cell? ⟨w.heap.size + 1, 3, none⟩ = some (.slice none 0 0) := carry hb (by go_simp)
  have gf : w1.frozen? ⟨w.heap.size + 1, 3, none⟩ = false := carryF hb (by simp) (by go_simp)
  have HB1 : Hid (Below w.heap.size w w1) := Lib.hid (by (repeat (first | with_reducible exact Below.refl _ _ | with_reducible refine bel_set ?_ ?_ | with_reducible refine bel_alloc ?_ ?_ | with_reducible refine Below.drew ?_ | with_reducible refine bel_drewN _ ?_ | with_reducible refine bel_call ?_ (by assumption) ?_)); all_goals (first | (simp; done) | omega | (simp; omega)))
  have q1 : w.heap.size + 1 < w1.heap.size := lt_of_cell g0
  have ho' : OwnsS w1 (w.heap.size + 1 + 1) (.slice (some ⟨w.heap.size + 1 + 1, 0, none⟩) 5 5) [⟨#[122, 101, 114, 111]⟩, ⟨#[111, 110, 101]⟩, ⟨#[116, 119, 111]⟩, ⟨#[102, 101, 119]⟩, ⟨#[109, 97, 110, 121]⟩] := by first | exact ho | simpa using ho
  have q2 : w.heap.size + 2 < w1.heap.size := by
    obtain ⟨_, _, he, _, _, hg⟩ := ho'.form
    exact (hg (w.heap.size + 1 + 1) rfl).2
  have HO1 := Lib.hid ho'
  have HS1 := Lib.hid hS1
  have G0 := Lib.hid g0
  have G1 := Lib.hid g1
  have G2 := Lib.hid g2
  have G3 := Lib.hid g3
  have GF := Lib.hid gf
  clear ho ho' hb hS1 g0 g1 g2 g3 gf
  go_upto_region 3 with (at_builtin; refine wpList_append_one rfl _ _ rfl ⟨#[111, 116, 104, 101, 114]⟩ rfl rfl (HO1.out.alloc _) (by go_simp) (by simp; omega) (by decide) ?_; intro v' w2 ho hoff; obtain ⟨A6, d6, rfl, _, _, hg6⟩ := ho.form; have HO6 := Lib.hid ho; have HG6 := Lib.hid hg6; have hoff' : Off [w.heap.size + 1 + 1] (w1.alloc (.cells #[.string ⟨#[111, 116, 104, 101, 114]⟩] 9)) w2 := hoff; have HOFF := Lib.hid hoff'; clear ho hoff hoff' hg6)
  have hbA : Below w1.heap.size w1 (w1.alloc (.cells #[.string ⟨#[111, 116, 104, 101, 114]⟩] 9)) := (by (repeat (first | with_reducible exact Below.refl _ _ | with_reducible refine bel_set ?_ ?_ | with_reducible refine bel_alloc ?_ ?_ | with_reducible refine Below.drew ?_ | with_reducible refine bel_drewN _ ?_ | with_reducible refine bel_call ?_ (by assumption) ?_)); all_goals (first | (simp; done) | omega | (simp; omega)))
  have hcc : ∀ (b o : Nat) v, w1.cell? ⟨b, o, none⟩ = some v → b ≠ w.heap.size + 1 + 1 → w2.cell? ⟨b, o, none⟩ = some v := fun b o v h hne => HOFF.out.cell (carry hbA h) (by simp only [List.mem_singleton]; exact hne)
  have hO6 : OwnsS w2 (w.heap.size + 1 + 1) (.slice A6 6 d6) keys6 := HO6.out
  have hB12 : Below (w.heap.size + 1 + 1) w1 w2 := (hbA.mono (by omega)).trans (OwnsS.grown (HO1.out.alloc (.cells #[.string ⟨#[111, 116, 104, 101, 114]⟩] 9)) HOFF.out (by simp; omega))
  have s2 := hB12.size
  have HB2 : Hid (Below w.heap.size w w2) := Lib.hid (HB1.out.trans (hB12.mono (by omega)))
  have HS2 : Hid (SetCAt w2 w.heap.size s) := Lib.hid ⟨hcc _ _ _ HS1.out.1 (by omega), hcc _ _ _ HS1.out.2.1 (by omega), hcc _ _ _ HS1.out.2.2.1 (by omega), hcc _ _ _ HS1.out.2.2.2.1 (by omega), hcc _ _ _ HS1.out.2.2.2.2 (by omega)⟩
  have gf2 : w2.frozen? ⟨w.heap.size + 1, 3, none⟩ = false := (HOFF.out.frozen (by simp; omega) (by simp only [List.mem_singleton]; omega)).trans (carryF hbA q1 GF.out)
  have HN2 : Hid (NodeOff w2 w2 (w.heap.size + 1) (keys6.take 0)) := Lib.hid ⟨Off.refl _ _, by omega, hcc _ _ _ G0.out (by omega), hcc _ _ _ G1.out (by omega), hcc _ _ _ G2.out (by omega), gf2, none, 0, hcc _ _ _ G3.out (by omega), OwnsG.nil _ _⟩
  have HO6 := Lib.hid hO6
  clear hcc hO6 gf2 hB12 HO1 G0 G1 G2 G3 GF HOFF HG6 HS1 hbA
  have q3 : w.heap.size + 1 < w2.heap.size := by omega
  generalize hgb : w.heap.size + 1 = gb at *
  go_wp2_with fail
  go_loopw [5] (fun i wr => ∃ j : Nat, j ≤ 6 ∧ i = .int .i64 j ∧ Hid (NodeOff w2 wr gb (keys6.take j))) (fun i _ => 6 - (intOf i).toNat)
  case atStart => exact ⟨0, by omega, rfl, HN2⟩
  case round =>
    obtain ⟨j, hj, rfl, HM⟩ := hrel
    by_cases hlt : j < 6
    · obtain ⟨hF, hgl, m0, m1, m2, m3, A1, c1, m4, hO⟩ := HM.out
      have hSl : StrsIn wr A6 keys6 := (HO6.out.off hF (fun k hk hm => by
        obtain ⟨_, _, _, _, _, hg⟩ := HO6.out.form
        have := (hg k hk).1
        simp only [List.mem_singleton] at hm
        omega)).strs
      obtain ⟨b, o, rfl, hat⟩ : ∃ b o, A6 = some ⟨b, o, none⟩ ∧ ∀ (j : Nat) x, keys6[j]? = some x → wr.cell? ⟨b, o + j, none⟩ = some (.string x) := by
        rcases hSl with h | h
        · cases h
        · exact h
      obtain ⟨x, hx⟩ : ∃ x, keys6[j]? = some x := ⟨keys6[j], List.getElem?_eq_getElem hlt⟩
      have k0 := hat j x hx
      have hbd : 6 ≤ d6 := by
        obtain ⟨_, _, he, _⟩ := HO6.out.form
        obtain ⟨_, h2⟩ := HO6.out
        rcases h2 with ⟨h2, _⟩ | ⟨g, cap, cur, h2, _, _, h3, _⟩
        · cases h2
        · injection h2 with h2a h2b h2c
          subst h2c
          exact h3
      have i0 : (0 : Int) ≤ (j : Int) := by omega
      have i1 : (j : Int) < 6 := by omega
      have i2 : (j : Int) ≤ (d6 : Int) := by omega
      have e1 : IntKind.i64.wrap ((j : Int) + 1) = (j : Int) + 1 := IntWalk.i64_in _ (by omega)
      have lt : (keys6.take j).length = j := by rw [List.length_take]; show min j 6 = j; omega
      have ht1 : keys6.take j ++ [x] = keys6.take (j + 1) := by rw [List.take_add_one, hx]; rfl
      obtain ⟨W2, hW2⟩ : ∃ W2, W2 = (wr.alloc (.cells #[.string x, .slice none 0 0] 33)).drew := ⟨_, rfl⟩
      have hb2 : Below wr.heap.size wr W2 := by rw [hW2]; exact (by (repeat (first | with_reducible exact Below.refl _ _ | with_reducible refine bel_set ?_ ?_ | with_reducible refine bel_alloc ?_ ?_ | with_reducible refine Below.drew ?_ | with_reducible refine bel_drewN _ ?_ | with_reducible refine bel_call ?_ (by assumption) ?_)); all_goals (first | (simp; done) | omega | (simp; omega)))
      have HM2 := Lib.hid (HM.out.below hb2)
      have HOW := Lib.hid (hO.below hb2)
      have HO2 := Lib.hid (hO.below hb2)
      have X0 : Hid (∀ i u, (kCaseC.cells x)[i]? = some u → W2.cell? ⟨wr.heap.size, i, none⟩ = some u) := Lib.hid (fun i u hu => by
        rw [hW2]
        match i, hu with
        | 0, hu => cases hu; go_simp
        | 1, hu => cases hu; go_simp)
      have HS3 : Hid (w2.heap.size ≤ W2.heap.size) := Lib.hid (Nat.le_trans hF.size hb2.size)
      have HL1 : Hid (((keys6.take j).length + 1) * kCaseC.bytes ≤ 140737488355328) := Lib.hid (by show ((keys6.take j).length + 1) * 40 ≤ _; omega)
      have HL2 : Hid ((keys6.take j).length + 1 ≤ 9223372036854775807) := Lib.hid (by omega)
      have HP4 := Lib.hid (carry hb2 m4)
      have HT1 := Lib.hid ht1
      have p1x := carry hb2 m4
      have q1x := carry hb2 k0
      rw [hW2] at HO2 X0 HS3 p1x q1x
      have HW2 := Lib.hid hW2
      clear hb2 hW2 hO hat hx ht1 m0 m1 m2 hF hSl
      rw [lt] at m4 p1x
      generalize keys6.take j = T at *
      go_upto_region 6 with fail
      go_region_law (apply step_append_gB (k := kCaseC) (s := .tmp 28) (x := .tmp 34) (t := x) (hown := HO2.out) (hc := X0.out) (hb := HS3.out) (hn := HL1.out) (hn2 := HL2.out); (any_goals (first | rfl | (rw [lt]; rfl))); intro v' w3 ho hoff hfr; obtain ⟨A3, c3, rfl, _⟩ := ho.form; rw [← HW2.out] at hoff hfr; have hR := NodeOff.add HM2.out HP4.out HOW.out hoff ho (Fresh.of hfr); have Q3 := hR.1; have Q4 := hR.2.1; have HR3 := Lib.hid hR.2.2; clear ho hfr hoff hR)
      all_goals
        have ltx : (T ++ [x]).length = j + 1 := by rw [List.length_append, lt]; rfl
        go_wp2_with fail
        have HR4 := HR3.out
        rw [ltx] at HR4
        have HR5 := Lib.hid HR4
        clear HR4
        go_roundw
        case rel => exact ⟨j + 1, by omega, by go_num, HT1.out ▸ HR5⟩
        case measure => simp [intOf]; omega
    · obtain rfl : j = 6 := by omega
      have HMx : Hid (NodeOff w2 wr gb keys6) := HM
      obtain ⟨hF, hgl, m0, m1, m2, m3, A1, c1, m4, hO⟩ := HMx.out
      obtain ⟨A1', c1', he, hc1, hc2, hci⟩ := cases_ofC hO
      cases he
      have hc1' : 6 ≤ c1 := hc1
      have m4' : wr.cell? ⟨gb, 3, none⟩ = some (.slice A1 6 c1) := m4
      have hne : w.heap.size ∉ [gb] := by simp only [List.mem_singleton]; omega
      have hSw : SetCAt wr w.heap.size s := ⟨hF.cell HS2.out.1 hne, hF.cell HS2.out.2.1 hne, hF.cell HS2.out.2.2.1 hne, hF.cell HS2.out.2.2.2.1 hne, hF.cell HS2.out.2.2.2.2 hne⟩
      have hBr : Below w.heap.size w wr := HB2.out.trans (hF.toBelow (fun k hk => by simp only [List.mem_singleton] at hk; omega) HB2.out.size)
      have hbW : Below wr.heap.size wr ((wr.alloc (.cells #[.string ⟨#[111, 116, 104, 101, 114]⟩, .slice none 0 0] 33)).alloc (.cells #[.int .i64 4, .string ⟨#[110]⟩, .int .i64 0, .slice (some ⟨wr.heap.size, 0, none⟩) 1 1] 30)) := (by (repeat (first | with_reducible exact Below.refl _ _ | with_reducible refine bel_set ?_ ?_ | with_reducible refine bel_alloc ?_ ?_ | with_reducible refine Below.drew ?_ | with_reducible refine bel_drewN _ ?_ | with_reducible refine bel_call ?_ (by assumption) ?_)); all_goals (first | (simp; done) | omega | (simp; omega)))
      obtain ⟨W0, hW0⟩ : ∃ W0, W0 = ((wr.alloc (.cells #[.string ⟨#[111, 116, 104, 101, 114]⟩, .slice none 0 0] 33)).alloc (.cells #[.int .i64 4, .string ⟨#[110]⟩, .int .i64 0, .slice (some ⟨wr.heap.size, 0, none⟩) 1 1] 30)) := ⟨_, rfl⟩
      have yC : CasesIn W0 (some ⟨wr.heap.size, 0, none⟩) keys1 := .inr ⟨wr.heap.size, 0, rfl, fun j x hx => by
        rw [hW0]
        match j, hx with
        | 0, hx => cases hx; exact ⟨by go_simp, by go_simp⟩⟩
      have yN : NodeAt W0 (wr.heap.size + 1) 4 ⟨#[110]⟩ 0 (some ⟨wr.heap.size, 0, none⟩) 1 1 := by rw [hW0]; exact ⟨by go_simp, by go_simp, by go_simp, by go_simp⟩
      rw [← hW0] at hbW
      have HW0 := Lib.hid hW0
      have HS0 := Lib.hid (hSw.below hbW)
      have HX0 : Hid (NodeAt W0 gb 4 ⟨#[110]⟩ 0 A1 6 c1) := Lib.hid ⟨carry hbW m0, carry hbW m1, carry hbW m2, carry hbW m4'⟩
      have HC0 := Lib.hid (hci.below hbW)
      have HY0 := Lib.hid yN
      have HD0 := Lib.hid yC
      have HB0 := Lib.hid (hBr.trans (hbW.mono hBr.size))
      have HC1 := Lib.hid hc1
      have HC2 := Lib.hid hc2
      clear hF m0 m1 m2 m3 m4 m4' hO hci hSw hBr hbW yC yN hW0 hne hc1 hc1' hc2 HM HMx HN2 HO6 HS2 HB2
      go_upto_region 8 with fail
      rw [← HW0.out]
      clear HW0
      generalize hyc : wr.heap.size = yc at *
      cases hok : s.ok
      · clear H6 H1 H5
        obtain ⟨u0, u1, u2, u3, u4⟩ := HS0.out
        have qs := lt_of_cell u0
        obtain ⟨n0, n1, n2, n3⟩ := HX0.out
        have hba := (Below.refl W0.heap.size W0).alloc (Nat.le_refl _) (.cells #[.int .i64 4, .string ⟨#[110]⟩, .int .i64 0, .slice A1 6 c1] 30)
        have KC := Lib.hid (KM.out s HSM.out _ (HB0.out.trans (hba.mono HB0.out.size)) W0.heap.size A1 keys6 c1 (show NodeAt _ _ 4 _ 0 A1 6 c1 from ⟨by go_simp, by go_simp, by go_simp, by go_simp⟩) (HC0.out.below hba) HC1.out HC2.out (by decide) size6 case6)
        simp only [hok, Bool.false_eq_true, ↓reduceIte] at KC
        have HBA := Lib.hid hba
        clear hba
        go_wp2_with fail
        refine KC.out.mono ?_
        rintro e W1 ⟨rfl, hb⟩
        have hb' := HBA.out.trans (hb.mono HBA.out.size)
        have HS1 := Lib.hid (HS0.out.below hb')
        have HX1 := Lib.hid (HX0.out.below hb')
        have HY1 := Lib.hid (HY0.out.below hb')
        have HCx1 := Lib.hid (HC0.out.below hb')
        have HD1 := Lib.hid (HD0.out.below hb')
        have HB1 := Lib.hid (HB0.out.trans (hb'.mono HB0.out.size))
        clear hb hb' KC HBA qs u0 u1 u2 u3 u4 n0 n1 n2 n3 HS0 HX0 HY0 HC0 HD0 HB0
        obtain ⟨u0, u1, u2, u3, u4⟩ := HS1.out
        have qs := lt_of_cell u0
        obtain ⟨n0, n1, n2, n3⟩ := HX1.out
        have hba := (Below.refl W1.heap.size W1).alloc (Nat.le_refl _) (.cells #[.int .i64 4, .string ⟨#[110]⟩, .int .i64 0, .slice A1 6 c1] 30)
        have KC := Lib.hid (KI.out s HSM.out _ (HB1.out.trans (hba.mono HB1.out.size)) W1.heap.size A1 keys6 c1 (show NodeAt _ _ 4 _ 0 A1 6 c1 from ⟨by go_simp, by go_simp, by go_simp, by go_simp⟩) (HCx1.out.below hba) HC1.out HC2.out (by decide) size6 case6)
        simp only [hok, Bool.false_eq_true, ↓reduceIte] at KC
        have HBA := Lib.hid hba
        clear hba
        go_wp2_with fail
        refine KC.out.mono ?_
        rintro e W2 ⟨rfl, hb⟩
        have hb' := HBA.out.trans (hb.mono HBA.out.size)
        have HS2 := Lib.hid (HS1.out.below hb')
        have HX2 := Lib.hid (HX1.out.below hb')
        have HY2 := Lib.hid (HY1.out.below hb')
        have HCx2 := Lib.hid (HCx1.out.below hb')
        have HD2 := Lib.hid (HD1.out.below hb')
        have HB2 := Lib.hid (HB1.out.trans (hb'.mono HB1.out.size))
        clear hb hb' KC HBA qs u0 u1 u2 u3 u4 n0 n1 n2 n3 HS1 HX1 HY1 HCx1 HD1 HB1
        obtain ⟨u0, u1, u2, u3, u4⟩ := HS2.out
        have qs := lt_of_cell u0
        obtain ⟨n0, n1, n2, n3⟩ := HY2.out
        have hba := (Below.refl W2.heap.size W2).alloc (Nat.le_refl _) (.cells #[.int .i64 4, .string ⟨#[110]⟩, .int .i64 0, .slice (some ⟨yc, 0, none⟩) 1 1] 30)
        have KC := Lib.hid (KM.out s HSM.out _ (HB2.out.trans (hba.mono HB2.out.size)) W2.heap.size (some ⟨yc, 0, none⟩) keys1 1 (show NodeAt _ _ 4 _ 0 (some ⟨yc, 0, none⟩) 1 1 from ⟨by go_simp, by go_simp, by go_simp, by go_simp⟩) (HD2.out.below hba) (by decide) (by decide) (by decide) size1 case1)
        simp only [hok, Bool.false_eq_true, ↓reduceIte] at KC
        have HBA := Lib.hid hba
        clear hba
        go_wp2_with fail
        refine KC.out.mono ?_
        rintro e W3 ⟨rfl, hb⟩
        have hb' := HBA.out.trans (hb.mono HBA.out.size)
        have HS3 := Lib.hid (HS2.out.below hb')
        have HX3 := Lib.hid (HX2.out.below hb')
        have HY3 := Lib.hid (HY2.out.below hb')
        have HCx3 := Lib.hid (HCx2.out.below hb')
        have HD3 := Lib.hid (HD2.out.below hb')
        have HB3 := Lib.hid (HB2.out.trans (hb'.mono HB2.out.size))
        clear hb hb' KC HBA qs u0 u1 u2 u3 u4 n0 n1 n2 n3 HS2 HX2 HY2 HCx2 HD2 HB2
        obtain ⟨u0, u1, u2, u3, u4⟩ := HS3.out
        have qs := lt_of_cell u0
        obtain ⟨n0, n1, n2, n3⟩ := HY3.out
        have hba := (Below.refl W3.heap.size W3).alloc (Nat.le_refl _) (.cells #[.int .i64 4, .string ⟨#[110]⟩, .int .i64 0, .slice (some ⟨yc, 0, none⟩) 1 1] 30)
        have KC := Lib.hid (KI.out s HSM.out _ (HB3.out.trans (hba.mono HB3.out.size)) W3.heap.size (some ⟨yc, 0, none⟩) keys1 1 (show NodeAt _ _ 4 _ 0 (some ⟨yc, 0, none⟩) 1 1 from ⟨by go_simp, by go_simp, by go_simp, by go_simp⟩) (HD3.out.below hba) (by decide) (by decide) (by decide) size1 case1)
        simp only [hok, Bool.false_eq_true, ↓reduceIte] at KC
        have HBA := Lib.hid hba
        clear hba
        go_wp2_with fail
        refine KC.out.mono ?_
        rintro e W4 ⟨rfl, hb⟩
        have hb' := HBA.out.trans (hb.mono HBA.out.size)
        have HS4 := Lib.hid (HS3.out.below hb')
        have HX4 := Lib.hid (HX3.out.below hb')
        have HY4 := Lib.hid (HY3.out.below hb')
        have HCx4 := Lib.hid (HCx3.out.below hb')
        have HD4 := Lib.hid (HD3.out.below hb')
        have HB4 := Lib.hid (HB3.out.trans (hb'.mono HB3.out.size))
        clear hb hb' KC HBA qs u0 u1 u2 u3 u4 n0 n1 n2 n3 HS3 HX3 HY3 HCx3 HD3 HB3
        obtain ⟨u0, u1, u2, u3, u4⟩ := HS4.out
        have qs := lt_of_cell u0
        obtain ⟨n0, n1, n2, n3⟩ := HY4.out
        have hba := (Below.refl W4.heap.size W4).alloc (Nat.le_refl _) (.cells #[.int .i64 4, .string ⟨#[110]⟩, .int .i64 0, .slice (some ⟨yc, 0, none⟩) 1 1] 30)
        have KC := Lib.hid (KM.out few3 few3_small _ (HB4.out.trans (hba.mono HB4.out.size)) W4.heap.size (some ⟨yc, 0, none⟩) keys1 1 (show NodeAt _ _ 4 _ 0 (some ⟨yc, 0, none⟩) 1 1 from ⟨by go_simp, by go_simp, by go_simp, by go_simp⟩) (HD4.out.below hba) (by decide) (by decide) (by decide) size1 case1)
        simp only [few3_ok, ↓reduceIte, missF] at KC
        have HBA := Lib.hid hba
        clear hba
        go_wp2_with fail
        refine KC.out.mono ?_
        rintro e W5 ⟨⟨A24, c24, rfl⟩, hb⟩
        have hb' := HBA.out.trans (hb.mono HBA.out.size)
        have HS5 := Lib.hid (HS4.out.below hb')
        have HX5 := Lib.hid (HX4.out.below hb')
        have HY5 := Lib.hid (HY4.out.below hb')
        have HCx5 := Lib.hid (HCx4.out.below hb')
        have HD5 := Lib.hid (HD4.out.below hb')
        have HB5 := Lib.hid (HB4.out.trans (hb'.mono HB4.out.size))
        clear hb hb' KC HBA qs u0 u1 u2 u3 u4 n0 n1 n2 n3 HS4 HX4 HY4 HCx4 HD4 HB4
        obtain ⟨u0, u1, u2, u3, u4⟩ := HS5.out
        have KP5 := Lib.hid (KP.out _ HB5.out)
        rw [hok] at KP5
        rw [show okV false = errV 3 from rfl] at KP5
        go_wp2_with fail
        refine KP5.out.mono ?_
        rintro e W6 ⟨rfl, hb⟩
        have HB6 := Lib.hid (HB5.out.trans (hb.mono HB5.out.size))
        clear hb
        go_wp2_with fail
        go_ret
        exact ⟨rfl, HB6.out⟩
      · obtain ⟨NI, hNI⟩ : ∃ NI, idleN kindT (nonB s) keys6 = NI := ⟨_, rfl⟩
        obtain ⟨NM, hNM⟩ : ∃ NM, missN kindT (nonB s) keys1 5 = NM := ⟨_, rfl⟩
        have h5 := H5.out
        rw [hNI, hNM] at h5
        have HNI := Lib.hid hNI
        have HNM := Lib.hid hNM
        have i5 : IntKind.i64.wrap ((NI : Int) + (NM : Int)) = 5 := by rw [show (NI : Int) + (NM : Int) = 5 by omega]; decide
        clear hNI hNM H5
        obtain ⟨u0, u1, u2, u3, u4⟩ := HS0.out
        have qs := lt_of_cell u0
        obtain ⟨n0, n1, n2, n3⟩ := HX0.out
        have hba := (Below.refl W0.heap.size W0).alloc (Nat.le_refl _) (.cells #[.int .i64 4, .string ⟨#[110]⟩, .int .i64 0, .slice A1 6 c1] 30)
        have KC := Lib.hid (KM.out s HSM.out _ (HB0.out.trans (hba.mono HB0.out.size)) W0.heap.size A1 keys6 c1 (show NodeAt _ _ 4 _ 0 A1 6 c1 from ⟨by go_simp, by go_simp, by go_simp, by go_simp⟩) (HC0.out.below hba) HC1.out HC2.out (by decide) size6 case6)
        simp only [hok, ↓reduceIte, H6.out] at KC
        have HBA := Lib.hid hba
        clear hba
        go_wp2_with fail
        refine KC.out.mono ?_
        rintro e W1 ⟨⟨A20, c20, rfl⟩, hb⟩
        have hb' := HBA.out.trans (hb.mono HBA.out.size)
        have HS1 := Lib.hid (HS0.out.below hb')
        have HX1 := Lib.hid (HX0.out.below hb')
        have HY1 := Lib.hid (HY0.out.below hb')
        have HCx1 := Lib.hid (HC0.out.below hb')
        have HD1 := Lib.hid (HD0.out.below hb')
        have HB1 := Lib.hid (HB0.out.trans (hb'.mono HB0.out.size))
        clear hb hb' KC HBA qs u0 u1 u2 u3 u4 n0 n1 n2 n3 HS0 HX0 HY0 HC0 HD0 HB0
        obtain ⟨u0, u1, u2, u3, u4⟩ := HS1.out
        have qs := lt_of_cell u0
        obtain ⟨n0, n1, n2, n3⟩ := HX1.out
        have hba := (Below.refl W1.heap.size W1).alloc (Nat.le_refl _) (.cells #[.int .i64 4, .string ⟨#[110]⟩, .int .i64 0, .slice A1 6 c1] 30)
        have KC := Lib.hid (KI.out s HSM.out _ (HB1.out.trans (hba.mono HB1.out.size)) W1.heap.size A1 keys6 c1 (show NodeAt _ _ 4 _ 0 A1 6 c1 from ⟨by go_simp, by go_simp, by go_simp, by go_simp⟩) (HCx1.out.below hba) HC1.out HC2.out (by decide) size6 case6)
        simp only [hok, ↓reduceIte, HNI.out] at KC
        have HBA := Lib.hid hba
        clear hba
        go_wp2_with fail
        refine KC.out.mono ?_
        rintro e W2 ⟨⟨A21, c21, rfl⟩, hb⟩
        have hb' := HBA.out.trans (hb.mono HBA.out.size)
        have HS2 := Lib.hid (HS1.out.below hb')
        have HX2 := Lib.hid (HX1.out.below hb')
        have HY2 := Lib.hid (HY1.out.below hb')
        have HCx2 := Lib.hid (HCx1.out.below hb')
        have HD2 := Lib.hid (HD1.out.below hb')
        have HB2 := Lib.hid (HB1.out.trans (hb'.mono HB1.out.size))
        clear hb hb' KC HBA qs u0 u1 u2 u3 u4 n0 n1 n2 n3 HS1 HX1 HY1 HCx1 HD1 HB1
        obtain ⟨u0, u1, u2, u3, u4⟩ := HS2.out
        have qs := lt_of_cell u0
        obtain ⟨n0, n1, n2, n3⟩ := HY2.out
        have hba := (Below.refl W2.heap.size W2).alloc (Nat.le_refl _) (.cells #[.int .i64 4, .string ⟨#[110]⟩, .int .i64 0, .slice (some ⟨yc, 0, none⟩) 1 1] 30)
        have KC := Lib.hid (KM.out s HSM.out _ (HB2.out.trans (hba.mono HB2.out.size)) W2.heap.size (some ⟨yc, 0, none⟩) keys1 1 (show NodeAt _ _ 4 _ 0 (some ⟨yc, 0, none⟩) 1 1 from ⟨by go_simp, by go_simp, by go_simp, by go_simp⟩) (HD2.out.below hba) (by decide) (by decide) (by decide) size1 case1)
        simp only [hok, ↓reduceIte, HNM.out] at KC
        have HBA := Lib.hid hba
        clear hba
        go_wp2_with fail
        refine KC.out.mono ?_
        rintro e W3 ⟨⟨A22, c22, rfl⟩, hb⟩
        have hb' := HBA.out.trans (hb.mono HBA.out.size)
        have HS3 := Lib.hid (HS2.out.below hb')
        have HX3 := Lib.hid (HX2.out.below hb')
        have HY3 := Lib.hid (HY2.out.below hb')
        have HCx3 := Lib.hid (HCx2.out.below hb')
        have HD3 := Lib.hid (HD2.out.below hb')
        have HB3 := Lib.hid (HB2.out.trans (hb'.mono HB2.out.size))
        clear hb hb' KC HBA qs u0 u1 u2 u3 u4 n0 n1 n2 n3 HS2 HX2 HY2 HCx2 HD2 HB2
        obtain ⟨u0, u1, u2, u3, u4⟩ := HS3.out
        have qs := lt_of_cell u0
        obtain ⟨n0, n1, n2, n3⟩ := HY3.out
        have hba := (Below.refl W3.heap.size W3).alloc (Nat.le_refl _) (.cells #[.int .i64 4, .string ⟨#[110]⟩, .int .i64 0, .slice (some ⟨yc, 0, none⟩) 1 1] 30)
        have KC := Lib.hid (KI.out s HSM.out _ (HB3.out.trans (hba.mono HB3.out.size)) W3.heap.size (some ⟨yc, 0, none⟩) keys1 1 (show NodeAt _ _ 4 _ 0 (some ⟨yc, 0, none⟩) 1 1 from ⟨by go_simp, by go_simp, by go_simp, by go_simp⟩) (HD3.out.below hba) (by decide) (by decide) (by decide) size1 case1)
        simp only [hok, ↓reduceIte, H1.out] at KC
        have HBA := Lib.hid hba
        clear hba
        go_wp2_with fail
        refine KC.out.mono ?_
        rintro e W4 ⟨⟨A23, c23, rfl⟩, hb⟩
        have hb' := HBA.out.trans (hb.mono HBA.out.size)
        have HS4 := Lib.hid (HS3.out.below hb')
        have HX4 := Lib.hid (HX3.out.below hb')
        have HY4 := Lib.hid (HY3.out.below hb')
        have HCx4 := Lib.hid (HCx3.out.below hb')
        have HD4 := Lib.hid (HD3.out.below hb')
        have HB4 := Lib.hid (HB3.out.trans (hb'.mono HB3.out.size))
        clear hb hb' KC HBA qs u0 u1 u2 u3 u4 n0 n1 n2 n3 HS3 HX3 HY3 HCx3 HD3 HB3
        obtain ⟨u0, u1, u2, u3, u4⟩ := HS4.out
        have qs := lt_of_cell u0
        obtain ⟨n0, n1, n2, n3⟩ := HY4.out
        have hba := (Below.refl W4.heap.size W4).alloc (Nat.le_refl _) (.cells #[.int .i64 4, .string ⟨#[110]⟩, .int .i64 0, .slice (some ⟨yc, 0, none⟩) 1 1] 30)
        have KC := Lib.hid (KM.out few3 few3_small _ (HB4.out.trans (hba.mono HB4.out.size)) W4.heap.size (some ⟨yc, 0, none⟩) keys1 1 (show NodeAt _ _ 4 _ 0 (some ⟨yc, 0, none⟩) 1 1 from ⟨by go_simp, by go_simp, by go_simp, by go_simp⟩) (HD4.out.below hba) (by decide) (by decide) (by decide) size1 case1)
        simp only [few3_ok, ↓reduceIte, missF] at KC
        have HBA := Lib.hid hba
        clear hba
        go_wp2_with fail
        refine KC.out.mono ?_
        rintro e W5 ⟨⟨A24, c24, rfl⟩, hb⟩
        have hb' := HBA.out.trans (hb.mono HBA.out.size)
        have HS5 := Lib.hid (HS4.out.below hb')
        have HX5 := Lib.hid (HX4.out.below hb')
        have HY5 := Lib.hid (HY4.out.below hb')
        have HCx5 := Lib.hid (HCx4.out.below hb')
        have HD5 := Lib.hid (HD4.out.below hb')
        have HB5 := Lib.hid (HB4.out.trans (hb'.mono HB4.out.size))
        clear hb hb' KC HBA qs u0 u1 u2 u3 u4 n0 n1 n2 n3 HS4 HX4 HY4 HCx4 HD4 HB4
        go_wp2_with fail
        go_ret
        exact ⟨rfl, HB5.out⟩
end Go.Proofs.YthlcjlmaaaappaaGreatDoor
