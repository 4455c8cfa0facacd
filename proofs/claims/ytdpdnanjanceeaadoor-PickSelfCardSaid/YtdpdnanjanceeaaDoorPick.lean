/- pick.Pick where one of those that are there is wanted. -/
import Derived.Test.YtdpdnanjanceeaaDoorNames
import Derived.Test.YtdpdnanjanceeaaDoorWithin
namespace Go.Proofs.YtdpdnanjanceeaaDoor
open Go.RowKit
attribute [local go_sem ↓] Go.wp_at_zero Go.wp_at_succ

theorem StrsIn.cellsD {w : World} {b o : Nat} {xs : List ByteArray} (h : StrsIn w (some ⟨b, o, none⟩) xs) : ∀ j, j < xs.length → w.cell? ⟨b, o + j, none⟩ = some (.string (xs.getD j ByteArray.empty)) := by
  intro j hj
  rcases h with h | ⟨b', o', he, h⟩
  · subst h; simp at hj
  · cases he
    rw [h j xs[j] (List.getElem?_eq_getElem hj), List.getD_eq_getElem?_getD, List.getElem?_eq_getElem hj]
    rfl
/-- The first place of a text that is there. -/
theorem idx_first (zs : List ByteArray) (i : Nat) (x : ByteArray) (h : zs[i]? = some x) : ∃ k : Nat, k ≤ i ∧ k < zs.length ∧ zs[k]? = some x ∧ Lib.idxOfS zs x = k := by
  have hex : ∃ k, zs[k]? = some x := ⟨i, h⟩
  obtain ⟨k, hk, hmin⟩ : ∃ k : Nat, zs[k]? = some x ∧ ∀ j : Nat, j < k → zs[j]? ≠ some x := by
    have hk : ∀ n : Nat, (∃ k : Nat, k ≤ n ∧ zs[k]? = some x) → ∃ k : Nat, zs[k]? = some x ∧ ∀ j : Nat, j < k → zs[j]? ≠ some x := by
      intro n
      induction n with
      | zero =>
        rintro ⟨k, hk, he⟩
        obtain rfl : k = 0 := by omega
        exact ⟨0, he, fun j hj => by omega⟩
      | succ n ih =>
        rintro ⟨k, hk, he⟩
        by_cases hlow : ∃ k : Nat, k ≤ n ∧ zs[k]? = some x
        · exact ih hlow
        · refine ⟨k, he, fun j hj hj2 => hlow ⟨j, by omega, hj2⟩⟩
    exact hk i ⟨i, Nat.le_refl _, h⟩
  have hl := (List.getElem?_eq_some_iff.1 hk).1
  have hd : ∀ j y, zs[j]? = some y → zs.getD j ByteArray.empty = y := fun j y hj => by rw [List.getD_eq_getElem?_getD, hj]; rfl
  refine ⟨k, ?_, hl, hk, ?_⟩
  · rcases Nat.lt_or_ge i k with hlt | hge
    · exact absurd h (hmin i hlt)
    · exact hge
  · have := Lib.idxOfS_hit zs zs.length k x hl (Nat.le_refl _) (hd k x hk) (fun j hj he => hmin j hj (by
      have hjl : j < zs.length := by omega
      rw [List.getD_eq_getElem?_getD, List.getElem?_eq_getElem hjl] at he
      rw [List.getElem?_eq_getElem hjl, ← he]
      rfl))
    rwa [List.take_length] at this
theorem TagD.text_eq (t : TagD) : t.text = t.c.text := rfl
theorem tagsErr_one (t : TagD) : tagsErr [t] = t.c.err := by
  unfold tagsErr tagsErr
  split <;> simp_all
theorem tagsErr_mem {ts : List TagD} (h : tagsErr ts = 0) : ∀ t ∈ ts, t.c.err = 0 := by
  induction ts with
  | nil => intro t ht; cases ht
  | cons x r ih =>
    unfold tagsErr at h
    split at h
    · rename_i hx
      intro t ht
      rcases List.mem_cons.1 ht with rfl | ht
      · exact hx
      · exact ih h t ht
    · rename_i hx; exact absurd h hx
theorem chainC_head (t : TagC) : ∃ r, chainC t = t :: r := by
  cases h : lessC t with
  | none => exact ⟨[], chainC_none h⟩
  | some t' => exact ⟨_, chainC_some h⟩

def PickNo (e : Ending) : Prop := ∃ E : Int, E ≠ 0 ∧ e = .returned (.tuple #[.int .i64 0, errT E])

set_option maxHeartbeats 1000000 in
theorem pick_no (gw g o n c : Nat) (t : TagD) (ts : List TagD) (w : World) (hW : TagsIn w gw 0 [t]) (h1 : TagsIn w g o ts) (hn : ts.length = n) (hnc : n ≤ c) (hk1 : ∀ t ∈ ts, t.fine w) (hz : ∀ t ∈ ts, t.small) (hsz : n ≤ 1955000000000) (htm : t ∈ ts) (hE : tagsErr ts ≠ 0) :
    Calls Tryd.prog 16 #[.slice (some ⟨gw, 0, none⟩) 1 1, .slice (some ⟨g, o, none⟩) n c] w fun e w' => PickNo e ∧ Below w.heap.size w w' := by
  have KN := Lib.hid (fun W (hb : Below w.heap.size w W) => pick_names_no g o n c ts W (h1.below hb) hn hnc (fun t ht => (hk1 t ht).below hb) hz hsz hE)
  have KW := Lib.hid (fun W (hb : Below w.heap.size w W) (he : tagsErr [t] ≠ 0) => pick_names_no gw 0 1 1 [t] W (hW.below hb) rfl (Nat.le_refl _) (fun u hu => by simp at hu; subst hu; exact (hk1 _ htm).below hb) (fun u hu => by simp at hu; subst hu; exact hz _ htm) (by omega) he)
  have KV := Lib.hid (fun W (hb : Below w.heap.size w W) (he : tagsErr [t] = 0) => pick_names_ok gw 0 1 1 [t] W (hW.below hb) rfl (Nat.le_refl _) (fun u hu => by simp at hu; subst hu; exact (hk1 _ htm).below hb) (fun u hu => by simp at hu; subst hu; exact hz _ htm) (by omega) he)
  clear hW h1 hk1 hz htm hn
  have HP : Hid (∀ E : Int, E ≠ 0 → PickNo (.returned (.tuple #[.int .i64 0, errT E]))) := Lib.hid (fun E h => ⟨E, h, rfl⟩)
  have HE := Lib.hid hE
  clear hE
  generalize tagsErr ts = E at *
  generalize tagsErr [t] = F at *
  by_cases h0 : F = 0
  · have H0 := Lib.hid h0
    clear h0 KW
    go_enter Tryd.func16, Tryd.ntmps16
    go_wp2_with fail
    refine (KV.out _ (Below.refl _ _) H0.out).mono ?_
    rintro e w1 ⟨⟨A1, d1, rfl, _⟩, hb1⟩
    go_wp2_with fail
    refine (KN.out _ hb1).mono ?_
    rintro e w2 ⟨rfl, hb2⟩
    go_wp2_with fail
    go_ret2
    exact ⟨HP.out _ HE.out, hb1.trans (hb2.mono hb1.size)⟩
  · have H0 := Lib.hid h0
    clear h0 KV
    go_enter Tryd.func16, Tryd.ntmps16
    go_wp2_with fail
    refine (KW.out _ (Below.refl _ _) H0.out).mono ?_
    rintro e w1 ⟨rfl, hb1⟩
    go_wp2_with fail
    go_ret2
    exact ⟨HP.out _ H0.out, hb1⟩

set_option maxHeartbeats 4000000 in
theorem pick_ok (gw g o n c : Nat) (t : TagD) (ts : List TagD) (w : World) (hW : TagsIn w gw 0 [t]) (h1 : TagsIn w g o ts) (hn : ts.length = n) (hnc : n ≤ c) (hk1 : ∀ t ∈ ts, t.fine w) (hz : ∀ t ∈ ts, t.small) (hsz : n ≤ 1955000000000) (htm : t ∈ ts) (hE : tagsErr ts = 0) (k : Nat) (hk : Lib.idxOfS (ts.map TagD.text) t.c.text = k) :
    Calls Tryd.prog 16 #[.slice (some ⟨gw, 0, none⟩) 1 1, .slice (some ⟨g, o, none⟩) n c] w fun e w' => e = .returned (.tuple #[.int .i64 k, .nilIface]) ∧ Below w.heap.size w w' := by
  have hte := tagsErr_mem hE t htm
  have ht1 : tagsErr [t] = 0 := by rw [tagsErr_one]; exact hte
  have KN := Lib.hid (fun W (hb : Below w.heap.size w W) => pick_names_ok g o n c ts W (h1.below hb) hn hnc (fun t ht => (hk1 t ht).below hb) hz hsz hE)
  have KV := Lib.hid (fun W (hb : Below w.heap.size w W) => pick_names_ok gw 0 1 1 [t] W (hW.below hb) rfl (Nat.le_refl _) (fun u hu => by simp at hu; subst hu; exact (hk1 _ htm).below hb) (fun u hu => by simp at hu; subst hu; exact hz _ htm) (by omega) ht1)
  have KC := Lib.hid (fun W (hb : Below w.heap.size w W) => chain_right t.c t.A t.n W hte ((hk1 t htm).below hb).1 (hk1 t htm).2.1 (hk1 t htm).2.2)
  have HW := Lib.hid hW
  have hml : (ts.map TagD.text).length = n := by rw [List.length_map]; exact hn
  have hpos : 0 < n := by
    have := List.length_pos_of_mem htm
    omega
  have HK := Lib.hid hk
  have HTE := Lib.hid hte
  have HML := Lib.hid hml
  clear hW h1 hk1 hz htm hn hk hte ht1 hE hml
  generalize ts.map TagD.text = xs at *
  obtain ⟨r, hr⟩ := chainC_head t.c
  have HR := Lib.hid hr
  clear hr
  obtain ⟨⟨l, s, q, vs⟩, A, m⟩ := t
  simp only at *
  go_enter Tryd.func16, Tryd.ntmps16
  go_wp2_with fail
  refine (KV.out _ (Below.refl _ _)).mono ?_
  rintro e w1 ⟨⟨A1, d1, rfl, _⟩, hb1⟩
  go_wp2_with fail
  refine (KN.out _ hb1).mono ?_
  rintro e w2 ⟨⟨A2, d2, rfl, ho2⟩, hb2⟩
  have hbw : Below w.heap.size w w2 := hb1.trans (hb2.mono hb1.size)
  have sw := hbw.size
  have hT := HW.out.below hbw
  have a0 := hT 0 _ 0 _ rfl rfl
  have a1 := hT 0 _ 1 _ rfl rfl
  have a2 := hT 0 _ 2 _ rfl rfl
  have a3 := hT 0 _ 3 _ rfl rfl
  simp only [Nat.zero_mul, Nat.zero_add, Nat.add_zero] at a0 a1 a2 a3
  have HO := Lib.hid ho2
  have HB := Lib.hid hbw
  clear hT ho2 hb1 hb2 hbw
  go_wp2_with fail
  go_loopw [35] (fun i wr => i = .int .i64 0 ∧ wr = w2) (fun _ _ => 0)
  case atStart => exact ⟨rfl, rfl⟩
  case round =>
    obtain ⟨rfl, rfl⟩ := hrel
    go_wp2_with fail
    refine (KC.out _ (HB.out.alloc sw _)).mono ?_
    rintro e w3 ⟨⟨g3, cp, us, rfl, hcs, hot, hok⟩, hb3⟩
    have hpu : 0 < us.length := by
      have := congrArg List.length hcs
      rw [HR.out] at this
      simp at this
      omega
    obtain ⟨u, hu⟩ : ∃ u, us[0]? = some u := ⟨us[0], List.getElem?_eq_getElem hpu⟩
    have huc : u.c = ⟨l, s, q, vs⟩ := by
      have h2 : (us.map (·.c))[0]? = some u.c := by rw [List.getElem?_map, hu]; rfl
      rw [hcs, HR.out] at h2
      simpa using h2.symm
    obtain ⟨_, hcap, hti⟩ := hot.tags
    have hoku := hok u (List.mem_of_getElem? hu)
    obtain ⟨uc, B, p⟩ := u
    simp only at huc
    subst huc
    have b0 := hti 0 _ 0 _ hu rfl
    have b1 := hti 0 _ 1 _ hu rfl
    have b2 := hti 0 _ 2 _ hu rfl
    have b3 := hti 0 _ 3 _ hu rfl
    simp only [Nat.zero_mul, Nat.zero_add, Nat.add_zero] at b0 b1 b2 b3
    have s3 := hb3.size
    have hb23 : Below wr.heap.size wr w3 := ((Below.refl _ _).alloc (Nat.le_refl _) _).trans (hb3.mono (by simp))
    have HO3 := Lib.hid (HO.out.below hb23)
    have HB3 := Lib.hid (HB.out.trans (hb23.mono sw))
    have KT := Lib.hid (fun W (hb : Below w3.heap.size w3 W) => text_right ⟨l, s, q, vs⟩ B p W HTE.out ((hoku.below hb).1.strs) hoku.2.1)
    have j1 : (0 : Int) < (us.length : Int) := by omega
    have j2 : (0 : Int) ≤ (cp : Int) := by omega
    have j3 : ¬ us.length = 0 := by omega
    clear hu hoku hti hok hot hcs hb3 hb23 hcap
    go_wp2_with fail
    go_loopw [49] (fun i wx => i = .int .i64 0 ∧ wx = w3) (fun _ _ => 0)
    case atStart => exact ⟨rfl, rfl⟩
    case round =>
      obtain ⟨rfl, rfl⟩ := hrel
      go_wp2_with fail
      refine (KT.out _ ((Below.refl _ _).alloc (Nat.le_refl _) _)).mono ?_
      rintro e w5 ⟨rfl, hb5⟩
      have s5 := hb5.size
      have hb35 : Below wr.heap.size wr w5 := ((Below.refl _ _).alloc (Nat.le_refl _) _).trans (hb5.mono (by simp))
      have hO5 := HO3.out.below hb35
      obtain ⟨A', d', he, hA', hS, _⟩ := hO5.form
      injection he with he1 he2 he3
      subst he1 he3
      have HI : Hid (Calls Tryd.prog 46 #[.slice A2 n d2, .string (TagC.text ⟨l, s, q, vs⟩)] w5 fun e w' => e = .returned (.int .i64 k) ∧ w' = w5) := Lib.hid (by
        rcases hS with h | ⟨b, o2, rfl, _⟩
        · have := HML.out; rw [h] at this; simp at this; omega
        · have h2 := Tryd.slices_Index_string b o2 n d2 xs (TagC.text ⟨l, s, q, vs⟩) w5 (by have := HML.out; omega) (by omega) (hO5.strs.cellsD)
          rw [show xs.take n = xs from List.take_of_length_le (by have := HML.out; omega), HK.out] at h2
          exact h2)
      have HB5 := Lib.hid (HB3.out.trans (hb35.mono HB3.out.size))
      clear hO5 hA' hS hb5 hb35 he2 b0 b1 b2 b3
      go_wp2_with fail
      refine HI.out.mono ?_
      rintro e w6 ⟨rfl, rfl⟩
      go_wp2_with fail
      go_ret2
      exact ⟨rfl, HB5.out⟩
end Go.Proofs.YtdpdnanjanceeaaDoor
