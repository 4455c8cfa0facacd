/- Decode: texts put together. -/
import Derived.Test.YtnhlnhmjnnopaaaGreatDoorPp24
import Derived.Test.YtnhlnhmjnnopaaaGreatDoorPp25
import Derived.Deep.RegionLaw
import Derived.Deep.RegionHeld3
set_option linter.unusedVariables false
set_option linter.unusedSimpArgs false
/- pack.Decode of what pack.Encode wrote. -/
namespace Go.Proofs.YtnhlnhmjnnopaaaGreatDoor
open Go.RowKit

theorem LieB.below {w W : World} {g k : Nat} {l : List UInt8} (h : LieB w g k l) (hb : Below w.heap.size w W) : LieB W g k l := fun j b hj => carry hb (h j b hj)
def magicB : ByteArray := ⟨#[76, 71, 66, 49]⟩
set_option maxHeartbeats 8000000 in
set_option maxRecDepth 100000 in
theorem pack_decode (tg : ByteArray) (es : List EntC) (bs : List UInt8) (A : Option Addr) (base c : Nat) (w : World) (hM : MaxL w) (hO : OwnsG kByte w base (.slice A bs.length c) bs) (hbs : bs = encB tg es) (he : (BunC.mk tg es).err = 0) (hord : InOrder es) (hn : es.length ≤ 100) (ht : tg.size ≤ 200) (hk : ∀ e ∈ es, e.key.size ≤ 40 ∧ e.text.size ≤ 2000) :
    Calls Tryz.prog 10 #[.slice A bs.length c] w fun e w' => ∃ A' c', e = .returned (.tuple #[bunV ⟨tg, es⟩ A' c', .nilIface]) ∧ BunFine w' ⟨tg, es⟩ A' c' ∧ Below w.heap.size w w' := by
  have hmf : ∀ (fn : Fn) (first cap : Array Value) (w : World), (Instr.makeFunc fn first cap).run Tryz.prog w = .ok (.func fn first cap) w := fun _ _ _ _ => rfl
  -- the parts
  obtain ⟨tail, htail⟩ : ∃ tail, tail = wordB (sumZ (bodyB tg es)).toNat 4 := ⟨_, rfl⟩
  have htl : tail.length = 4 := by rw [htail, wordB_len]
  have hR0 : Rest bs 0 (magicB.data.toList ++ ((wordB tg.size 1 ++ tg.data.toList) ++ (wordB es.length 2 ++ (es.flatMap entB ++ tail)))) := by
    have e : bs = magicB.data.toList ++ ((wordB tg.size 1 ++ tg.data.toList) ++ (wordB es.length 2 ++ (es.flatMap entB ++ tail))) := by
      rw [hbs, htail]
      unfold encB bodyB headB8
      rw [show magicB.data.toList = [76, 71, 66, 49] from rfl]
      simp only [List.append_assoc]
    rw [← e]
    exact Rest.start bs
  have hR1 := hR0.next.1
  rw [show 0 + magicB.data.toList.length = 4 from rfl] at hR1
  have hR2 := hR1.next.1
  have htgl : tg.data.toList.length = tg.size := by rw [Array.length_toList]; rfl
  rw [List.length_append, wordB_len, htgl] at hR2
  have hR3 := hR2.next.1
  rw [wordB_len] at hR3
  have hlen := hR3.len
  rw [List.length_append, htl] at hlen
  obtain ⟨A0, c0, hA, hcc, hc2, _, hform⟩ := hO.form
  injection hA with e1 _ e3
  subst e1 e3
  obtain ⟨g, rfl, _, hgl⟩ : ∃ g, A = some ⟨g, 0, none⟩ ∧ base ≤ g ∧ g < w.heap.size := by
    rcases hform with h | ⟨g, h1, h2, h3, _⟩
    · rw [h] at hlen; simp at hlen
    · exact ⟨g, h1, h2, h3⟩
  have hcc : bs.length ≤ c := hcc
  obtain ⟨N, hN⟩ : ∃ N, N = bs.length := ⟨_, rfl⟩
  have HO := Lib.hid hO
  have HBS := Lib.hid hbs
  have HR := Lib.hid (And.intro hR0 (And.intro hR1 (And.intro hR2 hR3)))
  have HT := Lib.hid (And.intro htail htl)
  have HLEN := Lib.hid hlen
  have HM := Lib.hid hM
  have HE := Lib.hid (And.intro he (And.intro hord hk))
  have HN := Lib.hid hN
  rw [← hN] at hcc ⊢
  have hNl : 11 + tg.size ≤ N := by rw [hN, hlen]; omega
  have hNu : N ≤ 1000000 := by
    have h1 := flat_len es
    have h2 := sum_le es 2043 (fun e he => by have := hk e he; unfold entLen; omega)
    rw [hN, hlen]
    omega
  clear hform hR0 hR1 hR2 hR3 htail htl hlen hM he hord hk hbs hO hN htgl
  obtain ⟨W0, hW0⟩ : ∃ W0, W0 = ((w.alloc (.cells #[.string ⟨#[]⟩, .slice none 0 0] 24)).alloc (.cells #[.nilIface] 27)).alloc (.cells #[.slice (some ⟨g, 0, none⟩) N c, .int .i64 0] 76) := ⟨_, rfl⟩
  have hb0 : Below w.heap.size w W0 := by rw [hW0]; exact (by (repeat (first | with_reducible exact Below.refl _ _ | with_reducible refine bel_set ?_ ?_ | with_reducible refine bel_alloc ?_ ?_ | with_reducible refine Below.drew ?_ | with_reducible refine bel_drewN _ ?_ | with_reducible refine bel_call ?_ (by assumption) ?_)); all_goals (first | (simp; done) | omega | (simp; omega)))
  have hD0 : DAt W0 w.heap.size w.heap.size (w.heap.size + 1) (w.heap.size + 1 + 1) g N c 0 ⟨#[]⟩ [] := by
    have h1 := BoxAt.new w (Nat.le_refl _)
    have e1 : (w.alloc (.cells #[.string ⟨#[]⟩, .slice none 0 0] 24)).heap.size = w.heap.size + 1 := by simp
    have e2 : ((w.alloc (.cells #[.string ⟨#[]⟩, .slice none 0 0] 24)).alloc (.cells #[.nilIface] 27)).heap.size = w.heap.size + 1 + 1 := by simp
    have b1 : Below (w.alloc (.cells #[.string ⟨#[]⟩, .slice none 0 0] 24)).heap.size (w.alloc (.cells #[.string ⟨#[]⟩, .slice none 0 0] 24)) W0 := by rw [hW0]; exact (by (repeat (first | with_reducible exact Below.refl _ _ | with_reducible refine bel_set ?_ ?_ | with_reducible refine bel_alloc ?_ ?_ | with_reducible refine Below.drew ?_ | with_reducible refine bel_drewN _ ?_ | with_reducible refine bel_call ?_ (by assumption) ?_)); all_goals (first | (simp; done) | omega | (simp; omega)))
    have b2 : Below ((w.alloc (.cells #[.string ⟨#[]⟩, .slice none 0 0] 24)).alloc (.cells #[.nilIface] 27)).heap.size ((w.alloc (.cells #[.string ⟨#[]⟩, .slice none 0 0] 24)).alloc (.cells #[.nilIface] 27)) W0 := by rw [hW0]; exact (by (repeat (first | with_reducible exact Below.refl _ _ | with_reducible refine bel_set ?_ ?_ | with_reducible refine bel_alloc ?_ ?_ | with_reducible refine Below.drew ?_ | with_reducible refine bel_drewN _ ?_ | with_reducible refine bel_call ?_ (by assumption) ?_)); all_goals (first | (simp; done) | omega | (simp; omega)))
    have t2 := heap_alloc_new (w.alloc (.cells #[.string ⟨#[]⟩, .slice none 0 0] 24)) (.cells #[.nilIface] 27)
    rw [e1] at t2
    have t3 := heap_alloc_new ((w.alloc (.cells #[.string ⟨#[]⟩, .slice none 0 0] 24)).alloc (.cells #[.nilIface] 27)) (.cells #[.slice (some ⟨g, 0, none⟩) N c, .int .i64 0] 76)
    rw [e2, ← hW0] at t3
    exact ⟨h1.below b1, ⟨by rw [cell_of_row _ _ _ _ _ _ t3]; rfl, by rw [cell_of_row _ _ _ _ _ _ t3]; rfl, ⟨_, t3⟩⟩, by omega, carry b2 (by rw [cell_of_row _ _ _ _ _ _ t2]; rfl), TyAt.below ⟨_, t2⟩ b2, by omega⟩
  have HB0 := Lib.hid hb0
  have HD0 := Lib.hid hD0
  have HW0 := Lib.hid hW0
  clear hb0 hD0 hW0
  go_enter_defers Tryz.func10, Tryz.ntmps10
  go_wp2_with fail
  rw [← HW0.out]
  obtain ⟨r, hr⟩ : ∃ r, r = w.heap.size + 1 + 1 := ⟨_, rfl⟩
  obtain ⟨eb, heb⟩ : ∃ eb, eb = w.heap.size + 1 := ⟨_, rfl⟩
  rw [← hr, ← heb] at HD0 ⊢
  have hgr : g ∉ [r] := by simp; omega
  have HGR := Lib.hid hgr
  have HRE : Hid (w.heap.size ≤ r) := Lib.hid (by omega)
  clear hr heb HW0 hgr
  have K1 := piece_at r g N c 0 4 W0 HD0.out.rdr (by omega) (by omega) hcc hc2
  rw [Nat.sub_zero, Nat.zero_add] at K1
  refine K1.mono ?_
  rintro e W1 ⟨rfl, hr1, ho1⟩
  have hb1 : Below w.heap.size w W1 := HB0.out.trans (ho1.toBelow (fun k hk => by simp only [List.mem_singleton] at hk; rw [hk]; exact HRE.out) HB0.out.size)
  have HD1 := Lib.hid (HD0.out.read hr1 ho1)
  have hl1 : LieB W1 g 0 (⟨#[76, 71, 66, 49]⟩ : ByteArray).data.toList := (lie_rest HO.out HR.out.1).below hb1
  have hcv : (convert 25 9 (.slice (some ⟨g, 0, none⟩) 4 c)).run Tryz.prog W1 = .ok (.string ⟨#[76, 71, 66, 49]⟩) W1 := conv_piece (c := c) hl1
  have HB1 := Lib.hid hb1
  clear K1 hr1 ho1 hb1 hl1 HD0 HB0
  go_wp2_with fail
  have K2 := text_at r g N c 4 1 tg W1 HD1.out.rdr ((lie_rest HO.out HR.out.2.1).below HB1.out) HGR.out (by omega) (by omega) hcc hc2 (by decide) (by omega)
  refine K2.mono ?_
  rintro e W2 ⟨rfl, hr2, ho2⟩
  have hb2 : Below w.heap.size w W2 := HB1.out.trans (ho2.toBelow (fun k hk => by simp only [List.mem_singleton] at hk; rw [hk]; exact HRE.out) HB1.out.size)
  have hD2 := HD1.out.read hr2 ho2
  have p0 := hD2.box.c0
  have pf := hD2.box.ty.frozen 0
  have pl := hD2.box.ty.lt
  have HD2 := Lib.hid (hD2.tag tg)
  have HB2 : Hid (Below w.heap.size w (W2.setCell ⟨w.heap.size, 0, none⟩ (.string tg))) := Lib.hid (bel_set hb2 (Nat.le_refl _))
  clear K2 hr2 ho2 hb2 hD2 HD1 HB1 hcv
  go_wp2_with fail
  have K3 := number_at r g N c (4 + 1 + tg.size) (wordB es.length 2) _ HD2.out.rdr ((lie_rest HO.out (by have := HR.out.2.2.1; rw [← Nat.add_assoc] at this; exact this)).below HB2.out) HGR.out (by rw [wordB_len]; omega) (by omega) hcc hc2 (by rw [wordB_len]; decide)
  rw [wordB_len, show readN (wordB es.length 2) = es.length from read_word 2 es.length (by omega)] at K3
  refine K3.mono ?_
  rintro e W3 ⟨rfl, hr3, ho3⟩
  have HD3 := Lib.hid (HD2.out.read hr3 ho3)
  have HB3 : Hid (Below w.heap.size w W3) := Lib.hid (HB2.out.trans (ho3.toBelow (fun k hk => by simp only [List.mem_singleton] at hk; rw [hk]; exact HRE.out) HB2.out.size))
  clear K3 hr3 ho3 HD2 HB2 p0 pf pl
  go_wp2_with fail
  go_loopw [22] (fun i wr => ∃ (j k : Nat), j ≤ es.length ∧ i = .int .i64 j ∧ Hid (Rest bs k ((es.drop j).flatMap entB ++ tail)) ∧ Hid (DAt wr w.heap.size w.heap.size eb r g N c k tg (es.take j)) ∧ Hid (Below w.heap.size w wr)) (fun i _ => es.length - (intOf i).toNat)
  case atStart => exact ⟨0, 4 + 1 + tg.size + 2, Nat.zero_le _, rfl, Lib.hid (by have := HR.out.2.2.2; rw [← Nat.add_assoc] at this; exact this), HD3, HB3⟩
  case round =>
    obtain ⟨j, k, hj, rfl, HRS, HD, HB⟩ := hrel
    by_cases hlt : j < es.length
    · obtain ⟨x, hx⟩ : ∃ x, es[j]? = some x := ⟨_, List.getElem?_eq_getElem hlt⟩
      have hdr : es.drop j = x :: es.drop (j + 1) := by
        rw [List.drop_eq_getElem_cons hlt, (List.getElem?_eq_some_iff.1 hx).2]
      have hxk := HE.out.2.2 x (List.mem_of_getElem? hx)
      have hr0 : Rest bs k ((wordB x.key.size 1 ++ x.key.data.toList) ++ ((wordB x.text.size 2 ++ x.text.data.toList) ++ ((es.drop (j + 1)).flatMap entB ++ tail))) := by
        have := HRS.out
        rw [hdr, List.flatMap_cons, show entB x = (wordB x.key.size 1 ++ x.key.data.toList) ++ (wordB x.text.size 2 ++ x.text.data.toList) by unfold entB; simp only [List.append_assoc]] at this
        simpa only [List.append_assoc] using this
      have hkl : x.key.data.toList.length = x.key.size := by rw [Array.length_toList]; rfl
      have hxl : x.text.data.toList.length = x.text.size := by rw [Array.length_toList]; rfl
      have hr1 := hr0.next.1
      rw [List.length_append, wordB_len, hkl, ← Nat.add_assoc] at hr1
      have hr2 := hr1.next.1
      rw [List.length_append, wordB_len, hxl, ← Nat.add_assoc] at hr2
      have hln := hr2.len
      rw [List.length_append, HT.out.2, ← HN.out] at hln
      have K4 := text_at r g N c k 1 x.key wr HD.out.rdr ((lie_rest HO.out hr0).below HB.out) HGR.out (by omega) (by omega) hcc hc2 (by decide) (by omega)
      have HK4 := Lib.hid K4
      have HX := Lib.hid (And.intro hx (And.intro hr1 hr2))
      have i1 : (j : Int) < (es.length : Int) := by omega
      have HLN := Lib.hid hln
      have HXK := Lib.hid hxk
      clear hx hdr hr0 hkl hxl hr1 hr2 hln K4 hxk
      go_wp2_with fail
      refine HK4.out.mono ?_
      rintro e Wa ⟨rfl, hra, hoa⟩
      have hDa := HD.out.read hra hoa
      have hBa : Below w.heap.size w Wa := HB.out.trans (hoa.toBelow (fun k hk => by simp only [List.mem_singleton] at hk; rw [hk]; exact HRE.out) HB.out.size)
      obtain ⟨acc, hacc⟩ : ∃ acc, acc = es.take j := ⟨_, rfl⟩
      have hal : acc.length ≤ 100 := by rw [hacc, List.length_take]; omega
      rw [← hacc] at hDa
      have HAC := Lib.hid hacc
      obtain ⟨vE, p1, hOE⟩ := hDa.box.box
      obtain ⟨A2, c2, rfl, _⟩ := hOE.form
      have HO2 := Lib.hid hOE
      have HDa := Lib.hid hDa
      have HBa := Lib.hid hBa
      have HK5 : Hid (∀ W, Off [] Wa W → Calls Tryz.prog 32 #[.pointer (some ⟨r, 0, none⟩), .int .i64 2] W fun e W' => e = .returned (.string x.text) ∧ RdrAt W' r g N c (k + 1 + x.key.size + 2 + x.text.size) ∧ Off [r] Wa W') := Lib.hid (fun W hof => by
        have h1 := hDa.rdr.off hof List.not_mem_nil
        have h2 : Below w.heap.size w W := hBa.trans (hof.toBelow (fun k hk => absurd hk List.not_mem_nil) hBa.size)
        have hln := HLN.out
        have hxk := HXK.out
        have := text_at r g N c (k + 1 + x.key.size) 2 x.text W h1 ((lie_rest HO.out HX.out.2.1).below h2) HGR.out (by omega) (by omega) hcc hc2 (by decide) (by omega)
        refine this.mono ?_
        rintro e W' ⟨rfl, h3, h4⟩
        exact ⟨rfl, h3, (hof.more (fun _ h => absurd h List.not_mem_nil)).trans h4⟩)
      have npb : w.heap.size ∉ [r] := fun hm => by
        simp only [List.mem_singleton] at hm
        exact hDa.box.ty.ne hDa.rdr.ty (by decide) hm
      have NPB := Lib.hid npb
      have HBX : Hid (∀ w7 : World, RdrAt w7 r g N c (k + 1 + x.key.size + 2 + x.text.size) → Off [r] Wa w7 → OwnsG kEnt (w7.alloc (.cells #[.string x.key, .string x.text] 50)) w.heap.size (.slice A2 acc.length c2) acc ∧ (∀ i u, (kEnt.cells x)[i]? = some u → (w7.alloc (.cells #[.string x.key, .string x.text] 50)).cell? ⟨w7.heap.size, i, none⟩ = some u) ∧ w.heap.size ≤ (w7.alloc (.cells #[.string x.key, .string x.text] 50)).heap.size ∧
          DAt (w7.alloc (.cells #[.string x.key, .string x.text] 50)) w.heap.size w.heap.size eb r g N c (k + 1 + x.key.size + 2 + x.text.size) tg acc ∧ (w7.alloc (.cells #[.string x.key, .string x.text] 50)).cell? ⟨w.heap.size, 1, none⟩ = some (.slice A2 acc.length c2) ∧ Below w.heap.size w (w7.alloc (.cells #[.string x.key, .string x.text] 50))) := Lib.hid (fun w7 hrd hof => by
        have h1 : Below w7.heap.size w7 (w7.alloc (.cells #[.string x.key, .string x.text] 50)) := (Below.refl _ _).alloc (Nat.le_refl _) _
        have hD7 := hDa.read hrd hof
        have hO7 := HO2.out.off hof (fun g hg hm => by
          simp only [List.mem_singleton] at hm
          exact (HO2.out.ty g (by simp [hg])).ne hDa.rdr.ty (by decide) hm)
        have hB7 : Below w.heap.size w w7 := hBa.trans (hof.toBelow (fun k hk => by simp only [List.mem_singleton] at hk; rw [hk]; exact HRE.out) hBa.size)
        refine ⟨hO7.below h1, fun i u hu => ?_, Nat.le_trans hB7.size h1.size, hD7.below h1, carry h1 (hof.cell p1 npb), hB7.trans (h1.mono hB7.size)⟩
        match i, hu with
        | 0, hu => cases hu; go_simp
        | 1, hu => cases hu; go_simp)
      have HL1 : Hid ((acc.length + 1) * kEnt.bytes ≤ 140737488355328) := Lib.hid (by show (acc.length + 1) * 32 ≤ _; omega)
      have HL2 : Hid (acc.length + 1 ≤ 9223372036854775807) := Lib.hid (by omega)
      clear hacc hal hOE hra hoa hDa hBa npb HK4
      go_wp2_with fail
      refine wp_region_noPanic ?_
      go_region_law (first
            | (go_simp; go_at_call 32; (with_reducible refine (HK5.out _ ?_).mono ?_); exact ⟨rfl, rfl, rfl, Nat.le_refl _, fun _ _ _ => rfl⟩; rintro e w7 ⟨rfl, hrd7, ho7⟩; have r1 := ho7.cell p1 NPB.out; have HH := Lib.hid (HBX.out w7 hrd7 ho7); have r2 := HH.out.2.2.2.2.1; clear hrd7 ho7)
            | (apply step_append_gB (k := kEnt) (s := .tmp 27) (x := .tmp 32) (t := x) (hown := HH.out.1) (hc := HH.out.2.1) (hb := HH.out.2.2.1) (hn := HL1.out) (hn2 := HL2.out); (any_goals rfl); intro v' w8 ho hoff hfr; obtain ⟨A9, c9, rfl, _⟩ := ho.form; obtain ⟨q1, q2, q3, q4, q5⟩ := DAt.more HH.out.2.2.2.1 HH.out.2.2.2.2.1 HH.out.1 ho hoff; have HPN := Lib.hid q3; have HBN : Hid (Below w.heap.size w _) := Lib.hid (HH.out.2.2.2.2.2.trans (q5.toBelow q4 HH.out.2.2.2.2.2.size)); clear ho hfr hoff q3 q4 q5))
      all_goals (rw [List.length_append, List.length_singleton] at HPN HBN)
      all_goals
        refine NoPanic.normal ?_
        go_wp2_with fail
        refine ⟨⟨j + 1, k + 1 + x.key.size + 2 + x.text.size, hlt, by congr 1, Lib.hid HX.out.2.2, Lib.hid ?_, HBN⟩, meas_dn hlt⟩
        rw [List.take_add_one, HX.out.1, ← HAC.out]
        exact HPN.out
    · obtain rfl : j = es.length := by omega
      have hrs := HRS.out
      rw [List.drop_length, List.flatMap_nil, List.nil_append] at hrs
      have hln := hrs.len
      rw [HT.out.2, ← HN.out] at hln
      have htk : es.take es.length = es := List.take_length
      have hD := HD.out
      rw [htk] at hD
      have hbody : bs.take k = bodyB tg es := by
        have h1 : bs = bodyB tg es ++ tail := by rw [HBS.out, HT.out.1]; rfl
        have h2 : bs.length = (bodyB tg es).length + 4 := by rw [h1, List.length_append, HT.out.2]
        rw [h1, List.take_left']
        have := HN.out
        omega
      have hkl : (bs.take k).length = k := by rw [List.length_take]; have := HN.out; omega
      obtain ⟨n0, hn0⟩ : ∃ n0 : Nat, n0 = (sumZ (bodyB tg es)).toNat := ⟨_, rfl⟩
      have hz0 : sumZ (bodyB tg es) = (n0 : Int) := by have := sumZ_in (bodyB tg es); omega
      have hn32 : n0 < 4294967296 := by have := sumZ_in (bodyB tg es); omega
      have KS := sum_is base (some ⟨g, 0, none⟩) (bs.take k) c wr (by rw [hkl]; exact own_prefix (HO.out.below (HB.out.mono (Nat.le_refl _))) (by have := HN.out; omega)) (by rw [hkl]; omega)
      rw [hkl, hbody, hz0] at KS
      have HKS := Lib.hid KS
      have hl4 : LieB w g k tail := lie_rest HO.out (r := []) (by rw [List.append_nil]; exact hrs)
      have HL4 := Lib.hid hl4
      have hrd : readN tail = n0 := by rw [HT.out.1, ← hn0]; exact read_word 4 n0 hn32
      have HRDN := Lib.hid hrd
      have HKN := Lib.hid hln
      have q1 := hD.rdr.b1
      have ql := hD.rdr.ty.lt
      have HD4 := Lib.hid hD
      have i1 : ¬ ((es.length : Int) < (es.length : Int)) := by omega
      have i2 : (0 : Int) ≤ (k : Int) := by omega
      have i3 : (k : Int) ≤ (c : Int) := by omega
      have u32n : IntKind.u32.wrap (n0 : Int) = (n0 : Int) := by
        rw [show ∀ m : Int, IntKind.u32.wrap m = m % 4294967296 from fun m => by simp [IntKind.wrap, IntKind.bits, IntKind.signed]]
        omega
      clear hrs hln htk hD hbody hkl hn0 hz0 KS hl4 hrd HRS HD
      go_wp2_with fail
      refine HKS.out.mono ?_
      rintro e W4 ⟨rfl, hb4⟩
      have HB4 := Lib.hid (HB.out.trans (hb4.mono HB.out.size))
      have HD4 := Lib.hid (HD4.out.below hb4)
      have q1 := carry hb4 q1
      clear hb4 HKS HB
      go_wp2_with fail
      have K5 := number_at r g N c k tail W4 HD4.out.rdr (HL4.out.below HB4.out) HGR.out (by rw [HT.out.2, ← HKN.out]; exact Nat.le_refl _) (by have := HKN.out; omega) hcc hc2 (by rw [HT.out.2]; decide)
      rw [HT.out.2, HRDN.out, ← HKN.out] at K5
      refine K5.mono ?_
      rintro e W5 ⟨rfl, hr5, ho5⟩
      have hD5 := HD4.out.read hr5 ho5
      have HB5 : Hid (Below w.heap.size w W5) := Lib.hid (HB4.out.trans (ho5.toBelow (fun k hk => by simp only [List.mem_singleton] at hk; rw [hk]; exact HRE.out) HB4.out.size))
      have q2 := hD5.rdr.b1
      have p0 := hD5.box.c0
      obtain ⟨vE, p1, hOE⟩ := hD5.box.box
      obtain ⟨A2, c2, rfl, hc21, hc22, hc23, hEs⟩ := ents_of hOE
      have pl := hD5.box.ty.lt
      have rl := hD5.rdr.ty.lt
      have HD5 := Lib.hid hD5
      have HF5 : Hid (BunFine W5 ⟨tg, es⟩ A2 c2) := Lib.hid ⟨hEs, hc21, hc22, hc23⟩
      have HIS := Lib.hid (is_sorted A2 c2 es W5 hEs HE.out.2.1 hc21 hc22 (by omega))
      clear K5 hr5 ho5 hD5 hOE hc21 hc22 hc23 hEs q1
      go_wp2_with fail
      refine HIS.out.mono ?_
      rintro e W6 ⟨rfl, hb6⟩
      have hb6w : Below w.heap.size w W6 := HB5.out.trans (hb6.mono HB5.out.size)
      have HD6 := Lib.hid (HD5.out.below hb6)
      have HF6 := Lib.hid (HF5.out.below hb6)
      have p0 := carry hb6 p0
      have p1 := carry hb6 p1
      have KC := prop_check ⟨tg, es⟩ A2 c2 W6 (HM.out.below hb6w) HF6.out ⟨by show tg.size ≤ _; omega, by show es.length ≤ _; omega, fun e he => by have := HE.out.2.2 e he; omega⟩
      rw [HE.out.1, errOf, if_pos rfl] at KC
      have HKC := Lib.hid KC
      have HB6 := Lib.hid hb6w
      clear hb6 hb6w KC q2 HIS
      go_wp2_with fail
      refine HKC.out.mono ?_
      rintro e W7 ⟨rfl, hb7⟩
      have hD7 := HD6.out.below hb7
      have p0 := carry hb7 p0
      have p1 := carry hb7 p1
      have e0 := hD7.e0
      have f0 := hD7.box.ty.frozen 0
      have f1 := hD7.box.ty.frozen 1
      have f2 := hD7.ety.frozen 0
      have el := hD7.ety.lt
      have pl := hD7.box.ty.lt
      have nep : ¬ eb = w.heap.size := hD7.ety.ne hD7.box.ty (by decide)
      have nep2 : ¬ w.heap.size = eb := fun h => nep h.symm
      have HF7 := Lib.hid (HF6.out.below hb7)
      have HB7 := Lib.hid (HB6.out.trans (hb7.mono HB6.out.size))
      have HD7 := Lib.hid hD7
      clear hb7 hD7 HKC
      go_wp2_with fail
      obtain ⟨Wz, hWz⟩ : ∃ Wz, Wz = (((W7.setCell ⟨w.heap.size, 0, none⟩ (.string tg)).setCell ⟨w.heap.size, 1, none⟩ (.slice A2 es.length c2)).setCell ⟨eb, 0, none⟩ .nilIface) := ⟨_, rfl⟩
      have z0 : Wz.cell? ⟨w.heap.size, 0, none⟩ = some (.string tg) := by rw [hWz]; exact cell_other (cell_other (cell_same p0) (by simp)) (by first | (simp; done) | (simp; exact nep))
      have z1 : Wz.cell? ⟨w.heap.size, 1, none⟩ = some (.slice A2 es.length c2) := by rw [hWz]; exact cell_other (cell_same (cell_other p1 (by simp))) (by first | (simp; done) | (simp; exact nep))
      have z2 : Wz.cell? ⟨eb, 0, none⟩ = some .nilIface := by rw [hWz]; exact cell_same (cell_other (cell_other e0 (by first | (simp; done) | (simp; exact nep2))) (by first | (simp; done) | (simp; exact nep2)))
      have hBz : Below w.heap.size w Wz := by rw [hWz]; exact bel_set (bel_set (bel_set HB7.out (Nat.le_refl _)) (Nat.le_refl _)) HD7.out.ege
      have oz : Off [w.heap.size, eb] W7 Wz := by rw [hWz]; exact (((Off.refl _ W7).setCell _ _ (by simp)).setCell _ _ (by simp)).setCell _ _ (by simp)
      obtain ⟨v7, k1, k2⟩ := HD7.out.box.box
      rw [p1] at k1
      injection k1 with k1
      rw [← k1] at k2
      have hOz := k2.off oz (fun g hg hm => by
        rcases List.mem_cons.1 hm with h | h
        · exact (k2.ty g (by simp [hg])).ne HD7.out.box.ty (by decide) h
        · simp only [List.mem_singleton] at h
          exact (k2.ty g (by simp [hg])).ne HD7.out.ety (by decide) h)
      obtain ⟨A', c', hA', h1, h2, h3, h4⟩ := ents_of hOz
      injection hA' with e1 _ e3
      subst e1 e3
      rw [← hWz]
      refine leaves_cons (f := 30) (args := #[.pointer (some ⟨w.heap.size, 0, none⟩), .pointer (some ⟨eb, 0, none⟩)]) (by simp) (by simp [go_sem]) ?_
      refine (decode_idle _ _ _).mono ?_
      rintro e u' w7 ⟨rfl, rfl, rfl⟩
      refine ⟨.tuple #[.agg #[.string tg, .slice A2 es.length c2], .nilIface], ?_, A2, c2, rfl, ⟨h4, h1, h2, h3⟩, hBz⟩
      simp [results, Tryz.results10, go_sem, z0, z1, z2]
end Go.Proofs.YtnhlnhmjnnopaaaGreatDoor
