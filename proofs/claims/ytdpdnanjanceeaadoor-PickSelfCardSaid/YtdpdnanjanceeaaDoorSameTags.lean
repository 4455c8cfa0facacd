/- linguistersame.Tags of two rows that say the same. -/
import Derived.Test.YtdpdnanjanceeaaDoorChain
import Derived.Test.YtdpdnanjanceeaaDoorSameTag
import Derived.Deep.RegionHeld3
import Derived.Deep.DrawnRows
namespace Go.Proofs.YtdpdnanjanceeaaDoor
open Go.RowKit
attribute [local go_sem ↓] Go.wp_at_zero Go.wp_at_succ

/-- these tags lie in block g from o on -/
def TagsIn (w : World) (g o : Nat) (ts : List TagD) : Prop := ∀ (j : Nat) t i u, ts[j]? = some t → t.cells[i]? = some u → w.cell? ⟨g, o + j * 4 + i, none⟩ = some u
theorem TagsIn.below {w w' : World} {g o : Nat} {ts : List TagD} (h : TagsIn w g o ts) (hb : Below w.heap.size w w') : TagsIn w' g o ts := fun j t i u ht hu => carry hb (h j t i u ht hu)
theorem OwnsT.tags {w : World} {base g n c : Nat} {ts : List TagD} (h : OwnsT w base (.slice (some ⟨g, 0, none⟩) n c) ts) : n = ts.length ∧ n ≤ c ∧ TagsIn w g 0 ts := by
  rcases h.2 with ⟨hq, _⟩ | ⟨g', cap, cur, hq, h3, h4, h5, _⟩
  · cases hq
  · cases hq
    refine ⟨rfl, h5, fun j t i u ht hu => ?_⟩
    have := World.ownsRow.cells h (g := g) rfl (j * 4 + i) u (tagCells_at ts j t i u ht hu)
    rw [Go.WideShapes.add_plain, Nat.zero_add] at this
    rw [Nat.zero_add]
    exact this
theorem TagsIn.drop {w : World} {g o : Nat} {ts : List TagD} (h : TagsIn w g o ts) (i : Nat) : TagsIn w g (o + i * 4) (ts.drop i) := fun j t k u ht hu => by
  rw [List.getElem?_drop] at ht
  have := h (i + j) t k u ht hu
  rw [Nat.add_mul, ← Nat.add_assoc] at this
  exact this
theorem sameTagB_refl (l s r : ByteArray) (vs : List ByteArray) : sameTagB l s r l s r vs vs = true := by unfold sameTagB; simp

set_option maxHeartbeats 2000000 in
theorem same_tags (ga oa gb ob n c d : Nat) (ts us : List TagD) (w : World) (h1 : TagsIn w ga oa ts) (h2 : TagsIn w gb ob us) (hn : ts.length = n) (hc : ts.map (·.c) = us.map (·.c)) (hk1 : ∀ t ∈ ts, t.ok w) (hk2 : ∀ t ∈ us, t.ok w) (hsz : n ≤ 1000000)
    (hv : ∀ t ∈ ts, t.c.vs.length ≤ 1000) :
    Calls Tryd.prog 15 #[.slice (some ⟨ga, oa, none⟩) n c, .slice (some ⟨gb, ob, none⟩) n d] w fun e w' => e = .returned (.bool true) ∧ Below w.heap.size w w' := by
  have H1 := Lib.hid h1
  have H2 := Lib.hid h2
  have HC := Lib.hid hc
  have HK1 := Lib.hid hk1
  have HK2 := Lib.hid hk2
  have HV := Lib.hid hv
  have HN := Lib.hid hn
  clear h1 h2 hc hk1 hk2 hv hn
  go_enter Tryd.func15, Tryd.ntmps15
  go_wp2_with fail
  go_loopw [5] (fun i wr => ∃ k : Nat, k ≤ n ∧ i = .int .i64 k ∧ Hid (Below w.heap.size w wr)) (fun i _ => n - (intOf i).toNat)
  case atStart => exact ⟨0, Nat.zero_le _, rfl, Lib.hid (Below.refl _ _)⟩
  case round =>
    obtain ⟨k, hk, rfl, HB⟩ := hrel
    by_cases hlt : k < n
    · obtain ⟨t, ht⟩ : ∃ t, ts[k]? = some t := ⟨ts[k]'(by have := HN.out; omega), List.getElem?_eq_getElem _⟩
      have hcl : us.length = ts.length := by have := congrArg List.length HC.out; simpa using this.symm
      obtain ⟨u, hu⟩ : ∃ u, us[k]? = some u := ⟨us[k]'(by have := HN.out; omega), List.getElem?_eq_getElem _⟩
      have htu : t.c = u.c := by
        have e1 : (ts.map (·.c))[k]? = some t.c := by rw [List.getElem?_map, ht]; rfl
        have e2 : (us.map (·.c))[k]? = some u.c := by rw [List.getElem?_map, hu]; rfl
        rw [HC.out, e2] at e1
        injection e1 with e1
        exact e1.symm
      have ok1 := (HK1.out t (List.mem_of_getElem? ht)).below HB.out
      have ok2 := (HK2.out u (List.mem_of_getElem? hu)).below HB.out
      have hvl := HV.out t (List.mem_of_getElem? ht)
      have hT := (H1.out.below HB.out)
      have hU := (H2.out.below HB.out)
      obtain ⟨⟨l, s, r, vs⟩, A, p⟩ := t
      obtain ⟨cc, B, q⟩ := u
      simp only at htu
      subst htu
      have a0 := hT k _ 0 _ ht rfl
      have a1 := hT k _ 1 _ ht rfl
      have a2 := hT k _ 2 _ ht rfl
      have a3 := hT k _ 3 _ ht rfl
      have b0 := hU k _ 0 _ hu rfl
      have b1 := hU k _ 1 _ hu rfl
      have b2 := hU k _ 2 _ hu rfl
      have b3 := hU k _ 3 _ hu rfl
      simp only [Nat.add_zero] at a0 a1 a2 a3 b0 b1 b2 b3 hvl
      have i0 : (0 : Int) ≤ (k : Int) := by omega
      have i1 : (k : Int) < (n : Int) := by omega
      have KS := Lib.hid (fun W (hb : Below wr.heap.size wr W) => by
        have := same_tag l s r l s r A B p q vs vs W ((ok1.1.below hb).strs) ((ok2.1.below hb).strs) (by omega) (by omega)
        rw [sameTagB_refl] at this
        exact this)
      clear ht hu hT hU ok1 ok2 hcl
      go_wp2_with fail
      go_region_held3 (fun w' => w'.cell? ⟨ga, oa + k * 4, none⟩ = some (.string l) ∧ w'.cell? ⟨ga, oa + k * 4 + 1, none⟩ = some (.string s) ∧ w'.cell? ⟨ga, oa + k * 4 + 2, none⟩ = some (.string r) ∧ w'.cell? ⟨ga, oa + k * 4 + 3, none⟩ = some (.slice A vs.length p) ∧ w'.cell? ⟨gb, ob + k * 4, none⟩ = some (.string l) ∧ w'.cell? ⟨gb, ob + k * 4 + 1, none⟩ = some (.string s) ∧ w'.cell? ⟨gb, ob + k * 4 + 2, none⟩ = some (.string r) ∧ w'.cell? ⟨gb, ob + k * 4 + 3, none⟩ = some (.slice B vs.length q))
        (first | go_keep | exact ⟨carry hbx (by go_simp), carry hbx (by go_simp), carry hbx (by go_simp), carry hbx (by go_simp), carry hbx (by go_simp), carry hbx (by go_simp), carry hbx (by go_simp), carry hbx (by go_simp)⟩)
        (first | (go_at_call 11; refine (KS.out _ ?_).mono ?_; (first | exact Below.refl _ _ | exact (Below.refl _ _).drew | exact bel_drewN _ (Below.refl _ _)); rintro e wx ⟨rfl, hbx⟩; have HBX : Hid (Below wr.heap.size wr wx) := Lib.hid (by (repeat (first | with_reducible exact Below.refl _ _ | with_reducible refine bel_set ?_ ?_ | with_reducible refine bel_alloc ?_ ?_ | with_reducible refine Below.drew ?_ | with_reducible refine bel_drewN _ ?_ | with_reducible refine bel_call ?_ (by assumption) ?_)); all_goals (first | (simp; done) | omega | (simp; omega)))))
      go_wp2_with fail
      go_roundw
      case rel => exact ⟨k + 1, by omega, by go_num, Lib.hid (HB.out.trans (HBX.out.mono HB.out.size))⟩
      case measure => simp [intOf]; omega
    · obtain rfl : k = n := by omega
      go_wp2_with fail
      go_ret
      exact ⟨rfl, HB.out⟩
end Go.Proofs.YtdpdnanjanceeaaDoor
