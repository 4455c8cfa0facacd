/- CodeLens: the walk. -/
import Derived.Test.YthlcjlmaaaappaaDoorCompile
import Derived.Test.YthlcjlmaaaappaaDoorJoinRows
import Derived.Test.YthlcjlmaaaappaaDoorLitNodes
import Derived.Test.YthlcjlmaaaappaaDoorWrapPlain
import Derived.Deep.RegionHeld3
namespace Go.Proofs.YthlcjlmaaaappaaDoor
open Go.RowKit

theorem eval_len {v : Value} {A : Option Addr} {n m c : Nat} (h : n = m) (hv : v = .slice A m c) : v = .slice A n c := by rw [hv, h]
theorem below_hid {w a b : World} (h : Hid (Below w.heap.size w a)) (k : Below a.heap.size a b) : Hid (Below w.heap.size w b) := Lib.hid (h.out.trans (k.mono h.out.size))
theorem drew_hid {w a : World} (h : Hid (Below w.heap.size w a)) : Hid (Below w.heap.size w a.drew) := Lib.hid h.out.drew
theorem code_any (f : Nat) (v : Value) (ms : List Nd) (N : Nat) (hC : cntP f ms = N) (w : World) (hE : RuleEnv w) (hK : MKinds w) (hN : NodesIn f w v ms) :
    Calls Tryd.prog 5 #[v] w fun e w' => (∃ B C d B' n' d' E, e = .returned (.tuple #[.agg #[.slice B C d, .slice B' n' d'], E]) ∧ Hid ((E = .nilIface ∧ C = N) ∨ ∃ k, E = errT k)) ∧ Below w.heap.size w w' := by
  by_cases h : msgP f ms = 0
  · refine (code_ok f v ms w hE hK hN h).mono ?_
    rintro e w1 ⟨⟨A, c, A2, n2, c2, rfl⟩, hb⟩
    exact ⟨⟨_, _, _, _, _, _, _, rfl, Lib.hid (.inl ⟨rfl, hC⟩)⟩, hb⟩
  · refine (code_no f v ms w hE hK hN h).mono ?_
    rintro e w1 ⟨rfl, hb⟩
    exact ⟨⟨_, _, _, _, _, _, _, rfl, Lib.hid (.inr ⟨_, rfl⟩)⟩, hb⟩
theorem msg_show : msgP 1 showA = 0 := by decide +kernel
set_option maxHeartbeats 16000000 in
theorem walk (f : Nat) (v1 v2 : Value) (ms ns : List Nd) (w : World) (hE : RuleEnv w) (hK : MKinds w) (hN : NodesIn (f + 1) w v1 ms) (hM : NodesIn (f + 1) w v2 ns) (hA1 : ∀ n c, v1 = .slice none n c → c = 0) (hA2 : ∀ n c, v2 = .slice none n c → c = 0) :
    Calls Tryd.prog 3 #[v1, v2] w fun e w' => e = .returned (.bool true) ∧ Below w.heap.size w w' := by
  obtain ⟨A, c, rfl, hc, hc2, hl⟩ := hN.form
  obtain ⟨A', c', rfl, hc', hc2', hl'⟩ := hM.form
  have HE := Lib.hid hE
  have HK := Lib.hid hK
  have HN := Lib.hid hN
  have HM := Lib.hid hM
  have HA1 : Hid (A = none → c = 0) := Lib.hid (fun h => hA1 _ _ (by rw [h]))
  have HA2 : Hid (A' = none → c' = 0) := Lib.hid (fun h => hA2 _ _ (by rw [h]))
  clear hE hK hN hM hA1 hA2
  by_cases h1 : msgP (f + 1) ms = 0
  · have K1 := Lib.hid (code_ok (f + 1) _ ms w HE.out HK.out HN.out h1)
    by_cases h2 : msgP (f + 1) ns = 0
    · have hs1 : cntP (f + 1) ms ≤ 60 := (msg_small h1).1
      have hs2 : cntP (f + 1) ns ≤ 60 := (msg_small h2).1
      have HL1 : Hid (ms.length ≤ 60) := Lib.hid (by rw [cntP_succ] at hs1; omega)
      have HL2 : Hid (ns.length ≤ 60) := Lib.hid (by rw [cntP_succ] at hs2; omega)
      have HCJ := Lib.hid (cnt_join f ms ns)
      have HCW : Hid (cntP (f + 2) (wrapS ⟨#[115]⟩ ms) = cntP (f + 1) ms + 1) := Lib.hid (cnt_wrap (f + 1) _ ms _)
      have KJ := Lib.hid (fun (W : World) (v : Value) (hb : Below w.heap.size w W) (hN : NodesIn (f + 1) W v (ms ++ ns)) => code_any (f + 1) v _ _ HCJ.out W (HE.out.below hb) (HK.out.below hb) hN)
      have KW := Lib.hid (fun (W : World) (v : Value) (hb : Below w.heap.size w W) (hN : NodesIn (f + 2) W v (wrapS ⟨#[115]⟩ ms)) => code_any (f + 2) v _ _ HCW.out W (HE.out.below hb) (HK.out.below hb) hN)
      generalize hC1 : cntP (f + 1) ms = C1 at *
      have K2 := Lib.hid (fun (W : World) (hb : Below w.heap.size w W) => code_ok (f + 1) _ ns W (HE.out.below hb) (HK.out.below hb) (NodesIn.below hb _ HM.out) h2)
      generalize hC2 : cntP (f + 1) ns = C2 at *
      obtain ⟨qa, hqa, hla⟩ := rows_of HN.out
      obtain ⟨qb, hqb, hlb⟩ := rows_of HM.out
      have HQA := Lib.hid hqa
      have HQB := Lib.hid hqb
      have HLA := Lib.hid hla
      have HLB := Lib.hid hlb
      clear hqa hqb hla hlb
      go_enter Tryd.func3, Tryd.ntmps3
      go_wp2_with fail
      refine K1.out.mono ?_
      rintro e w1 ⟨⟨B1, d1, B1', n1', d1', rfl⟩, hb1⟩
      have HB1 := Lib.hid hb1
      clear hb1 K1
      go_wp2_with fail
      have ba : Below w1.heap.size w1 (w1.alloc (.cells #[.slice B1 C1 d1, .slice B1' n1' d1'] 25)) := (Below.refl _ _).alloc (Nat.le_refl _) _
      have ha := HB1.out.trans (ba.mono HB1.out.size)
      refine (K2.out _ ha).mono ?_
      rintro e w2 ⟨⟨B2, d2, B2', n2', d2', rfl⟩, hb2⟩
      have HB2 := Lib.hid (ha.trans (hb2.mono ha.size))
      have PA0 : Hid (w2.cell? ⟨w1.heap.size, 0, none⟩ = some (.slice B1 C1 d1)) := Lib.hid (carry hb2 (by go_simp))
      have PA1 : Hid (w2.cell? ⟨w1.heap.size, 1, none⟩ = some (.slice B1' n1' d1')) := Lib.hid (carry hb2 (by go_simp))
      have s2 : w1.heap.size < w2.heap.size := by have := hb2.size; simp at this; omega
      clear hb2 K2 ba ha
      go_wp2_with fail
      have bb : Below w2.heap.size w2 ((w2.alloc (.cells #[.slice B2 C2 d2, .slice B2' n2' d2'] 25)).alloc (.cells #[.int .i64 2, .string ⟨#[97]⟩, .int .i64 0, .slice none 0 0] 32)) := ((Below.refl _ _).alloc (Nat.le_refl _) _).alloc (by simp) _
      have hb := HB2.out.trans (bb.mono HB2.out.size)
      refine (code_ok 1 _ showA _ (HE.out.below hb) (HK.out.below hb) (lit_show _ (w2.heap.size + 1) (by go_simp) (by go_simp) (by go_simp) (by go_simp)) msg_show).mono ?_
      rintro e w3 ⟨⟨B3, d3, B3', n3', d3', rfl⟩, hb3⟩
      have HB3 := Lib.hid (hb.trans (hb3.mono hb.size))
      have ex : cntP 1 showA = 1 := rfl
      rw [ex]
      have QA0 := Lib.hid (carry hb3 (carry bb PA0.out))
      have QA1 := Lib.hid (carry hb3 (carry bb PA1.out))
      have QB0 : Hid (w3.cell? ⟨w2.heap.size, 0, none⟩ = some (.slice B2 C2 d2)) := Lib.hid (carry hb3 (by go_simp))
      have QB1 : Hid (w3.cell? ⟨w2.heap.size, 1, none⟩ = some (.slice B2' n2' d2')) := Lib.hid (carry hb3 (by go_simp))
      have s3 : w2.heap.size < w3.heap.size := by have := hb3.size; simp at this; omega
      clear hb3 hb bb ex PA0 PA1
      go_wp2_with fail
      have bx : Below w3.heap.size w3 (w3.alloc (.cells #[.slice B3 1 d3, .slice B3' n3' d3'] 25)) := (Below.refl _ _).alloc (Nat.le_refl _) _
      have hbx := HB3.out.trans (bx.mono HB3.out.size)
      refine (code_len _ _ _ _ _ _ _).mono ?_
      rintro e w4 ⟨rfl, hb4⟩
      have HB4 := Lib.hid (hbx.trans (hb4.mono hbx.size))
      have PA0 := Lib.hid (carry hb4 (carry bx QA0.out))
      have PA1 := Lib.hid (carry hb4 (carry bx QA1.out))
      have PB0 := Lib.hid (carry hb4 (carry bx QB0.out))
      have PB1 := Lib.hid (carry hb4 (carry bx QB1.out))
      have s4 : w3.heap.size < w4.heap.size := by have := hb4.size; simp at this; omega
      clear hb4 hbx bx QA0 QA1 QB0 QB1
      have HLIT : Hid (OwnsG kNodeQ (w4.alloc (.cells #[] 32)) w4.heap.size (.slice (some ⟨w4.heap.size, 0, none⟩) 0 0) []) := Lib.hid (World.ownsRow_lit (size := 4) w4 _ 0 (Nat.le_refl _) (by decide) rfl)
      have bl : Below w4.heap.size w4 (w4.alloc (.cells #[] 32)) := (Below.refl _ _).alloc (Nat.le_refl _) _
      have hbl := HB4.out.trans (bl.mono HB4.out.size)
      have HLA5 := Lib.hid (HLA.out.below hbl)
      have HS5 : Hid (w4.heap.size ≤ (w4.alloc (.cells #[] 32)).heap.size) := Lib.hid bl.size
      have HBL := Lib.hid bl
      have HN1 : Hid (([] : List (Vals 4)).length + qa.length ≤ 9223372036854775807) := Lib.hid (by have := HL1.out; have := HQA.out.1; simp; omega)
      have HN2 : Hid ((([] : List (Vals 4)).length + qa.length) * kNodeQ.bytes ≤ 140737488355328) := Lib.hid (by show (0 + qa.length) * 56 ≤ _; have := HL1.out; have := HQA.out.1; omega)
      have HN3 : Hid (qa.length + qb.length ≤ 9223372036854775807) := Lib.hid (by have := HL1.out; have := HQA.out.1; have := HL2.out; have := HQB.out.1; omega)
      have HN4 : Hid ((qa.length + qb.length) * kNodeQ.bytes ≤ 140737488355328) := Lib.hid (by show (qa.length + qb.length) * 56 ≤ _; have := HL1.out; have := HQA.out.1; have := HL2.out; have := HQB.out.1; omega)
      clear bl hbl
      go_wp2_with (at_builtin; first
        | (refine wpList_append_manyG (k := kNodeQ) rfl _ _ rfl rfl (eval_len HQA.out.1 rfl) HLIT.out HLA5.out HA1.out HS5.out HN2.out HN1.out ?_; intro v' w5 ho hoff; rw [List.nil_append] at ho; obtain ⟨A5, c5, rfl, _⟩ := ho.form; have HB45 := Lib.hid (HBL.out.trans (HLIT.out.grown hoff HS5.out)); have HB5 := Lib.hid (HB4.out.trans (HB45.out.mono HB4.out.size)); have HO5 := Lib.hid ho; have HLB5 := Lib.hid (HLB.out.below HB5.out); clear ho hoff)
        | (refine wpList_append_manyG (k := kNodeQ) rfl _ _ rfl rfl (eval_len HQB.out.1 rfl) HO5.out HLB5.out HA2.out HB45.out.size HN4.out HN3.out ?_; intro v' w6 ho hoff; obtain ⟨A6, c6, rfl, _⟩ := ho.form; have HB46 := Lib.hid (HB45.out.trans (HO5.out.grown hoff HB45.out.size)); have HB6 := Lib.hid (HB4.out.trans (HB46.out.mono HB4.out.size)); have HO6 := Lib.hid ho; clear ho hoff))
      have HNJ := Lib.hid (nodes_join HO6.out ((HQA.out.append HQB.out).below HB6.out) (by rw [List.length_append]; have := HL1.out; have := HL2.out; omega))
      have hln : (qa ++ qb).length = qa.length + qb.length := List.length_append
      rw [hln] at HNJ
      refine (KJ.out w6 _ HB6.out HNJ.out).mono ?_
      rintro e w7 ⟨⟨B7, C7, d7, B7', n7', d7', E7, rfl, HJ⟩, hb7⟩
      have HB7 := Lib.hid (HB6.out.trans (hb7.mono HB6.out.size))
      have hb47 := HB46.out.trans (hb7.mono HB46.out.size)
      have QA0 := Lib.hid (carry hb47 PA0.out)
      have QA1 := Lib.hid (carry hb47 PA1.out)
      have QB0 := Lib.hid (carry hb47 PB0.out)
      have QB1 := Lib.hid (carry hb47 PB1.out)
      have s7 : w4.heap.size ≤ w7.heap.size := hb47.size
      clear hb7 hb47 PA0 PA1 PB0 PB1 HLIT HLA5 HS5 HBL HN1 HN2 HN3 HN4 HO5 HLB5 HB45 HB46 HB5 HO6 HNJ KJ HLA HLB HQA HQB hln
      go_wp2_with fail
      have KL : Hid (∀ (W : World) (n : Nat), W.heap.size = n → Below w7.heap.size w7 W → Below w7.heap.size w7 ((W.alloc (.cells #[.string otherS, .slice A ms.length c] 35)).alloc (.cells #[.int .i64 5, .string ⟨#[115]⟩, .int .i64 0, .slice (some ⟨n, 0, none⟩) 1 1] 32)) ∧
        NodesIn (f + 2) ((W.alloc (.cells #[.string otherS, .slice A ms.length c] 35)).alloc (.cells #[.int .i64 5, .string ⟨#[115]⟩, .int .i64 0, .slice (some ⟨n, 0, none⟩) 1 1] 32)) (.slice (some ⟨n + 1, 0, none⟩) 1 1) (wrapS ⟨#[115]⟩ ms)) := Lib.hid (fun W n hn hb => by
        subst hn
        have h1 : Below w7.heap.size w7 (W.alloc (.cells #[.string otherS, .slice A ms.length c] 35)) := hb.alloc hb.size _
        have h2 : Below w7.heap.size w7 ((W.alloc (.cells #[.string otherS, .slice A ms.length c] 35)).alloc (.cells #[.int .i64 5, .string ⟨#[115]⟩, .int .i64 0, .slice (some ⟨W.heap.size, 0, none⟩) 1 1] 32)) := h1.alloc h1.size _
        have h3 : Below w.heap.size w ((W.alloc (.cells #[.string otherS, .slice A ms.length c] 35)).alloc (.cells #[.int .i64 5, .string ⟨#[115]⟩, .int .i64 0, .slice (some ⟨W.heap.size, 0, none⟩) 1 1] 32)) := HB7.out.trans (h2.mono HB7.out.size)
        exact ⟨h2, lit_wrap 5 ⟨#[115]⟩ _ (W.heap.size + 1) W.heap.size (by decide) (NodesIn.below h3 _ HN.out) (by decide) (by go_simp) (by go_simp) (by go_simp) (by go_simp) (by go_simp) (by go_simp)⟩)
      unfold otherS at KL
      have bx : Below w7.heap.size w7 (w7.alloc (.cells #[.slice B7 C7 d7, .slice B7' n7' d7'] 25)) := (Below.refl _ _).alloc (Nat.le_refl _) _
      obtain ⟨hk1, hk2⟩ := KL.out _ (w7.heap.size + 1) (by simp) bx
      have hk3 := HB7.out.trans (hk1.mono HB7.out.size)
      refine (KW.out _ _ hk3 hk2).mono ?_
      rintro e w8 ⟨⟨B8, C8, d8, B8', n8', d8', E8, rfl, HJ8⟩, hb8⟩
      have HB8 := Lib.hid (hk3.trans (hb8.mono hk3.size))
      have hb78 := hk1.trans (hb8.mono hk1.size)
      have PA0 := Lib.hid (carry hb78 QA0.out)
      have PA1 := Lib.hid (carry hb78 QA1.out)
      have PB0 := Lib.hid (carry hb78 QB0.out)
      have PB1 := Lib.hid (carry hb78 QB1.out)
      have PC0 : Hid (w8.cell? ⟨w7.heap.size, 0, none⟩ = some (.slice B7 C7 d7)) := Lib.hid (carry hb8 (by go_simp))
      have PC1 : Hid (w8.cell? ⟨w7.heap.size, 1, none⟩ = some (.slice B7' n7' d7')) := Lib.hid (carry hb8 (by go_simp))
      have s8 : w7.heap.size < w8.heap.size := by have := hb8.size; simp at this; omega
      clear hb78 hb8 hk1 hk2 hk3 bx QA0 QA1 QB0 QB1 KL KW
      have b9 : Below w8.heap.size w8 (w8.alloc (.cells #[.slice B8 C8 d8, .slice B8' n8' d8'] 25)) := (Below.refl _ _).alloc (Nat.le_refl _) _
      have HB9 := Lib.hid (HB8.out.trans (b9.mono HB8.out.size))
      have a0 := carry b9 PA0.out
      have a1 := carry b9 PA1.out
      have b0 := carry b9 PB0.out
      have b1 := carry b9 PB1.out
      have c0 := carry b9 PC0.out
      have c1 := carry b9 PC1.out
      have x0 : (w8.alloc (.cells #[.slice B8 C8 d8, .slice B8' n8' d8'] 25)).cell? ⟨w8.heap.size, 0, none⟩ = some (.slice B8 C8 d8) := by go_simp
      have x1 : (w8.alloc (.cells #[.slice B8 C8 d8, .slice B8' n8' d8'] 25)).cell? ⟨w8.heap.size, 1, none⟩ = some (.slice B8' n8' d8') := by go_simp
      go_upto_region 10 with fail
      generalize w8.alloc (.cells #[.slice B8 C8 d8, .slice B8' n8' d8'] 25) = W9 at *
      have e1 : IntKind.i64.wrap ((C1 : Int) + 1) = (C1 : Int) + 1 := IntWalk.i64_in _ (by omega)
      have e2 : IntKind.i64.wrap ((C1 : Int) + (C2 : Int)) = ((C1 + C2 : Nat) : Int) := by rw [Int.natCast_add]; exact IntWalk.i64_in _ (by omega)
      clear PA0 PA1 PB0 PB1 PC0 PC1 b9 HB1 HB2 HB3 HB4 HB6 HB7 HB8 HE HK HN HM HA1 HA2
      rcases HJ.out with ⟨rfl, rfl⟩ | ⟨k7, rfl⟩
      · rcases HJ8.out with ⟨rfl, rfl⟩ | ⟨k8, rfl⟩
        · refine wp_region_held_drew (S := (fun w' => w'.cell? ⟨w1.heap.size, 0, none⟩ = some (.slice B1 C1 d1) ∧ w'.cell? ⟨w1.heap.size, 1, none⟩ = some (.slice B1' n1' d1') ∧ w'.cell? ⟨w2.heap.size, 0, none⟩ = some (.slice B2 C2 d2) ∧ w'.cell? ⟨w2.heap.size, 1, none⟩ = some (.slice B2' n2' d2') ∧ w'.cell? ⟨w7.heap.size, 0, none⟩ = some (.slice B7 (C1 + C2) d7) ∧ w'.cell? ⟨w7.heap.size, 1, none⟩ = some (.slice B7' n7' d7') ∧ w'.cell? ⟨w8.heap.size, 0, none⟩ = some (.slice B8 (C1 + 1) d8) ∧ w'.cell? ⟨w8.heap.size, 1, none⟩ = some (.slice B8' n8' d8') ∧ Hid (Below w.heap.size w w'))) (by kernel_rfl) ?_ (fun hHeld => ?_)
          · (try dsimp only); (go_split_ands; refine ⟨?_, ?_, ?_, ?_, ?_, ?_, ?_, ?_, ?_⟩ <;> (first | assumption | exact carry hbx (by assumption) | exact below_hid (by assumption) hbx | exact drew_hid (by assumption)))
          refine wpAnyH_take (i := 0) (v := ?v1) rfl (by kernel_rfl) (by kernel_rfl) (by kernel_rfl) (fun _ _ _ h => h) (Or.inl ⟨rfl, ?hy1⟩) hHeld ?rest1
          case hy1 => (intro w hSw; (try dsimp only at hSw); go_simp; try with_reducible rfl)
          try simp only [Act.put, List.setIfInBounds_toArray, List.set_cons_zero, List.set_cons_succ, List.getElem_toArray, List.getElem_cons_zero, List.getElem_cons_succ]
          refine wpAnyH_take (i := 1) (v := ?v2) rfl (by kernel_rfl) (by kernel_rfl) (by kernel_rfl) (fun _ _ _ h => h) (Or.inl ⟨rfl, ?hy2⟩) hHeld ?rest2
          case hy2 => (intro w hSw; (try dsimp only at hSw); go_simp; try with_reducible rfl)
          try simp only [Act.put, List.setIfInBounds_toArray, List.set_cons_zero, List.set_cons_succ, List.getElem_toArray, List.getElem_cons_zero, List.getElem_cons_succ]
          refine wpAnyH_take (i := 2) (v := ?v3) rfl (by kernel_rfl) (by kernel_rfl) (by kernel_rfl) (fun _ _ _ h => h) (Or.inl ⟨rfl, ?hy3⟩) hHeld ?rest3
          case hy3 => (intro w hSw; (try dsimp only at hSw); go_simp; try with_reducible rfl)
          try simp only [Act.put, List.setIfInBounds_toArray, List.set_cons_zero, List.set_cons_succ, List.getElem_toArray, List.getElem_cons_zero, List.getElem_cons_succ]
          refine wpAnyH_take (i := 3) (v := ?v4) rfl (by kernel_rfl) (by kernel_rfl) (by kernel_rfl) (fun _ _ _ h => h) (Or.inl ⟨rfl, ?hy4⟩) hHeld ?rest4
          case hy4 => (intro w hSw; (try dsimp only at hSw); go_simp; try with_reducible rfl)
          try simp only [Act.put, List.setIfInBounds_toArray, List.set_cons_zero, List.set_cons_succ, List.getElem_toArray, List.getElem_cons_zero, List.getElem_cons_succ]
          refine wpAnyH_take (i := 5) (v := ?v5) rfl (by kernel_rfl) (by kernel_rfl) (by kernel_rfl) (fun _ _ _ h => h) (Or.inl ⟨rfl, ?hy5⟩) hHeld ?rest5
          case hy5 => (intro w hSw; (try dsimp only at hSw); go_simp; try with_reducible rfl)
          try simp only [Act.put, List.setIfInBounds_toArray, List.set_cons_zero, List.set_cons_succ, List.getElem_toArray, List.getElem_cons_zero, List.getElem_cons_succ]
          refine wpAnyH_take (i := 7) (v := ?v6) rfl (by kernel_rfl) (by kernel_rfl) (by kernel_rfl) (fun _ _ _ h => h) (Or.inl ⟨rfl, ?hy6⟩) hHeld ?rest6
          case hy6 => (intro w hSw; (try dsimp only at hSw); go_simp; try with_reducible rfl)
          try simp only [Act.put, List.setIfInBounds_toArray, List.set_cons_zero, List.set_cons_succ, List.getElem_toArray, List.getElem_cons_zero, List.getElem_cons_succ]
          refine wpAnyH_ready (rs := [4]) (by kernel_rfl) (by simp) (AllReadyH.cons rfl (fun K hK => ?_) AllReadyH.nil)
          go_simp
          go_at_call 6; refine (code_len _ _ _ _ _ _ _).mono ?_; rintro e wx ⟨rfl, hbx⟩
          try dsimp only
          refine hK.out _ _ ?_ (fun hNew => ?_)
          · (go_split_ands; refine ⟨?_, ?_, ?_, ?_, ?_, ?_, ?_, ?_, ?_⟩ <;> (first | assumption | exact carry hbx (by assumption) | exact below_hid (by assumption) hbx | exact drew_hid (by assumption)))
          clear hK K hHeld hbx
          have hHeld := hNew
          clear hNew
          try simp only [Act.put, List.setIfInBounds_toArray, List.set_cons_zero, List.set_cons_succ, List.getElem_toArray, List.getElem_cons_zero, List.getElem_cons_succ]
          refine wpAnyH_ready (rs := [6]) (by kernel_rfl) (by simp) (AllReadyH.cons rfl (fun K hK => ?_) AllReadyH.nil)
          go_simp
          go_at_call 6; refine (code_len _ _ _ _ _ _ _).mono ?_; rintro e wx ⟨rfl, hbx⟩
          try dsimp only
          refine hK.out _ _ ?_ (fun hNew => ?_)
          · (go_split_ands; refine ⟨?_, ?_, ?_, ?_, ?_, ?_, ?_, ?_, ?_⟩ <;> (first | assumption | exact carry hbx (by assumption) | exact below_hid (by assumption) hbx | exact drew_hid (by assumption)))
          clear hK K hHeld hbx
          have hHeld := hNew
          clear hNew
          try simp only [Act.put, List.setIfInBounds_toArray, List.set_cons_zero, List.set_cons_succ, List.getElem_toArray, List.getElem_cons_zero, List.getElem_cons_succ]
          refine wpAnyH_ready (rs := [8]) (by kernel_rfl) (by simp) (AllReadyH.cons rfl (fun K hK => ?_) AllReadyH.nil)
          go_simp
          go_at_call 6; refine (code_len _ _ _ _ _ _ _).mono ?_; rintro e wx ⟨rfl, hbx⟩
          try dsimp only
          refine hK.out _ _ ?_ (fun hNew => ?_)
          · (go_split_ands; refine ⟨?_, ?_, ?_, ?_, ?_, ?_, ?_, ?_, ?_⟩ <;> (first | assumption | exact carry hbx (by assumption) | exact below_hid (by assumption) hbx | exact drew_hid (by assumption)))
          clear hK K hHeld hbx
          have hHeld := hNew
          clear hNew
          try simp only [Act.put, List.setIfInBounds_toArray, List.set_cons_zero, List.set_cons_succ, List.getElem_toArray, List.getElem_cons_zero, List.getElem_cons_succ]
          refine wpAnyH_take (i := 9) (v := ?v7) rfl (by kernel_rfl) (by kernel_rfl) (by kernel_rfl) (fun _ _ _ h => h) (Or.inl ⟨rfl, ?hy7⟩) hHeld ?rest7
          case hy7 => (intro w hSw; (try dsimp only at hSw); go_simp; try with_reducible rfl)
          try simp only [Act.put, List.setIfInBounds_toArray, List.set_cons_zero, List.set_cons_succ, List.getElem_toArray, List.getElem_cons_zero, List.getElem_cons_succ]
          refine wpAnyH_take (i := 10) (v := ?v8) rfl (by kernel_rfl) (by kernel_rfl) (by kernel_rfl) (fun _ _ _ h => h) (Or.inl ⟨rfl, ?hy8⟩) hHeld ?rest8
          case hy8 => (intro w hSw; (try dsimp only at hSw); go_simp; try with_reducible rfl)
          try simp only [Act.put, List.setIfInBounds_toArray, List.set_cons_zero, List.set_cons_succ, List.getElem_toArray, List.getElem_cons_zero, List.getElem_cons_succ]
          refine wpAnyH_take (i := 11) (v := ?v9) rfl (by kernel_rfl) (by kernel_rfl) (by kernel_rfl) (fun _ _ _ h => h) (Or.inl ⟨rfl, ?hy9⟩) hHeld ?rest9
          case hy9 => (intro w hSw; (try dsimp only at hSw); go_simp; try with_reducible rfl)
          try simp only [Act.put, List.setIfInBounds_toArray, List.set_cons_zero, List.set_cons_succ, List.getElem_toArray, List.getElem_cons_zero, List.getElem_cons_succ]
          refine wpAnyH_take (i := 12) (v := ?v10) rfl (by kernel_rfl) (by kernel_rfl) (by kernel_rfl) (fun _ _ _ h => h) (Or.inl ⟨rfl, ?hy10⟩) hHeld ?rest10
          case hy10 => (intro w hSw; (try dsimp only at hSw); go_simp; try with_reducible rfl)
          try simp only [Act.put, List.setIfInBounds_toArray, List.set_cons_zero, List.set_cons_succ, List.getElem_toArray, List.getElem_cons_zero, List.getElem_cons_succ]
          refine wpAnyH_take (i := 13) (v := ?v11) rfl (by kernel_rfl) (by kernel_rfl) (by kernel_rfl) (fun _ _ _ h => h) (Or.inl ⟨rfl, ?hy11⟩) hHeld ?rest11
          case hy11 => (intro w hSw; (try dsimp only at hSw); go_simp; try with_reducible rfl)
          try simp only [Act.put, List.setIfInBounds_toArray, List.set_cons_zero, List.set_cons_succ, List.getElem_toArray, List.getElem_cons_zero, List.getElem_cons_succ]
          refine wpAnyH_take (i := 14) (v := ?v12) rfl (by kernel_rfl) (by kernel_rfl) (by kernel_rfl) (fun _ _ _ h => h) (Or.inl ⟨rfl, ?hy12⟩) hHeld ?rest12
          case hy12 => (intro w hSw; (try dsimp only at hSw); go_simp; try with_reducible rfl)
          try simp only [Act.put, List.setIfInBounds_toArray, List.set_cons_zero, List.set_cons_succ, List.getElem_toArray, List.getElem_cons_zero, List.getElem_cons_succ]
          refine wpAnyH_take (i := 15) (v := ?v13) rfl (by kernel_rfl) (by kernel_rfl) (by kernel_rfl) (fun _ _ _ h => h) (Or.inl ⟨rfl, ?hy13⟩) hHeld ?rest13
          case hy13 => (intro w hSw; (try dsimp only at hSw); go_simp; try with_reducible rfl)
          try simp only [Act.put, List.setIfInBounds_toArray, List.set_cons_zero, List.set_cons_succ, List.getElem_toArray, List.getElem_cons_zero, List.getElem_cons_succ]
          refine wpAnyH_take (i := 16) (v := ?v14) rfl (by kernel_rfl) (by kernel_rfl) (by kernel_rfl) (fun _ _ _ h => h) (Or.inl ⟨rfl, ?hy14⟩) hHeld ?rest14
          case hy14 => (intro w hSw; (try dsimp only at hSw); go_simp; try with_reducible rfl)
          try simp only [Act.put, List.setIfInBounds_toArray, List.set_cons_zero, List.set_cons_succ, List.getElem_toArray, List.getElem_cons_zero, List.getElem_cons_succ]
          refine wpAnyH_take (i := 18) (v := ?v15) rfl (by kernel_rfl) (by kernel_rfl) (by kernel_rfl) (fun _ _ _ h => h) (Or.inl ⟨rfl, ?hy15⟩) hHeld ?rest15
          case hy15 => (intro w hSw; (try dsimp only at hSw); go_simp; try with_reducible rfl)
          try simp only [Act.put, List.setIfInBounds_toArray, List.set_cons_zero, List.set_cons_succ, List.getElem_toArray, List.getElem_cons_zero, List.getElem_cons_succ]
          refine wpAnyH_ready (rs := [17]) (by kernel_rfl) (by simp) (AllReadyH.cons rfl (fun K hK => ?_) AllReadyH.nil)
          go_simp
          go_at_call 6; refine (code_len _ _ _ _ _ _ _).mono ?_; rintro e wx ⟨rfl, hbx⟩
          try dsimp only
          refine hK.out _ _ ?_ (fun hNew => ?_)
          · (go_split_ands; refine ⟨?_, ?_, ?_, ?_, ?_, ?_, ?_, ?_, ?_⟩ <;> (first | assumption | exact carry hbx (by assumption) | exact below_hid (by assumption) hbx | exact drew_hid (by assumption)))
          clear hK K hHeld hbx
          have hHeld := hNew
          clear hNew
          try simp only [Act.put, List.setIfInBounds_toArray, List.set_cons_zero, List.set_cons_succ, List.getElem_toArray, List.getElem_cons_zero, List.getElem_cons_succ]
          refine wpAnyH_ready (rs := [19]) (by kernel_rfl) (by simp) (AllReadyH.cons rfl (fun K hK => ?_) AllReadyH.nil)
          go_simp
          go_at_call 6; refine (code_len _ _ _ _ _ _ _).mono ?_; rintro e wx ⟨rfl, hbx⟩
          try dsimp only
          refine hK.out _ _ ?_ (fun hNew => ?_)
          · (go_split_ands; refine ⟨?_, ?_, ?_, ?_, ?_, ?_, ?_, ?_, ?_⟩ <;> (first | assumption | exact carry hbx (by assumption) | exact below_hid (by assumption) hbx | exact drew_hid (by assumption)))
          clear hK K hHeld hbx
          have hHeld := hNew
          clear hNew
          try simp only [Act.put, List.setIfInBounds_toArray, List.set_cons_zero, List.set_cons_succ, List.getElem_toArray, List.getElem_cons_zero, List.getElem_cons_succ]
          refine wpAnyH_take (i := 20) (v := ?v16) rfl (by kernel_rfl) (by kernel_rfl) (by kernel_rfl) (fun _ _ _ h => h) (Or.inl ⟨rfl, ?hy16⟩) hHeld ?rest16
          case hy16 => (intro w hSw; (try dsimp only at hSw); go_simp; try with_reducible rfl)
          try simp only [Act.put, List.setIfInBounds_toArray, List.set_cons_zero, List.set_cons_succ, List.getElem_toArray, List.getElem_cons_zero, List.getElem_cons_succ]
          refine wpAnyH_take (i := 21) (v := ?v17) rfl (by kernel_rfl) (by kernel_rfl) (by kernel_rfl) (fun _ _ _ h => h) (Or.inl ⟨rfl, ?hy17⟩) hHeld ?rest17
          case hy17 => (intro w hSw; (try dsimp only at hSw); go_simp; try with_reducible rfl)
          try simp only [Act.put, List.setIfInBounds_toArray, List.set_cons_zero, List.set_cons_succ, List.getElem_toArray, List.getElem_cons_zero, List.getElem_cons_succ]
          refine wpAnyH_take (i := 22) (v := ?v18) rfl (by kernel_rfl) (by kernel_rfl) (by kernel_rfl) (fun _ _ _ h => h) (Or.inl ⟨rfl, ?hy18⟩) hHeld ?rest18
          case hy18 => (intro w hSw; (try dsimp only at hSw); go_simp; try with_reducible rfl)
          try simp only [Act.put, List.setIfInBounds_toArray, List.set_cons_zero, List.set_cons_succ, List.getElem_toArray, List.getElem_cons_zero, List.getElem_cons_succ]
          refine wpAnyH_take (i := 23) (v := ?v19) rfl (by kernel_rfl) (by kernel_rfl) (by kernel_rfl) (fun _ _ _ h => h) (Or.inl ⟨rfl, ?hy19⟩) hHeld ?rest19
          case hy19 => (intro w hSw; (try dsimp only at hSw); go_simp; try with_reducible rfl)
          try simp only [Act.put, List.setIfInBounds_toArray, List.set_cons_zero, List.set_cons_succ, List.getElem_toArray, List.getElem_cons_zero, List.getElem_cons_succ]
          refine wpAnyH_take (i := 24) (v := ?v20) rfl (by kernel_rfl) (by kernel_rfl) (by kernel_rfl) (fun _ _ _ h => h) (Or.inl ⟨rfl, ?hy20⟩) hHeld ?rest20
          case hy20 => (intro w hSw; (try dsimp only at hSw); go_simp; try with_reducible rfl)
          try simp only [Act.put, List.setIfInBounds_toArray, List.set_cons_zero, List.set_cons_succ, List.getElem_toArray, List.getElem_cons_zero, List.getElem_cons_succ]
          refine wpAnyH_done (by kernel_rfl) ?_ _
          go_wp2_with fail
          have HF := hHeld.2.2.2.2.2.2.2.2
          go_ret
          exact ⟨rfl, HF.out⟩
        · refine wp_region_held_drew (S := (fun w' => w'.cell? ⟨w1.heap.size, 0, none⟩ = some (.slice B1 C1 d1) ∧ w'.cell? ⟨w1.heap.size, 1, none⟩ = some (.slice B1' n1' d1') ∧ w'.cell? ⟨w2.heap.size, 0, none⟩ = some (.slice B2 C2 d2) ∧ w'.cell? ⟨w2.heap.size, 1, none⟩ = some (.slice B2' n2' d2') ∧ w'.cell? ⟨w7.heap.size, 0, none⟩ = some (.slice B7 (C1 + C2) d7) ∧ w'.cell? ⟨w7.heap.size, 1, none⟩ = some (.slice B7' n7' d7') ∧ w'.cell? ⟨w8.heap.size, 0, none⟩ = some (.slice B8 C8 d8) ∧ w'.cell? ⟨w8.heap.size, 1, none⟩ = some (.slice B8' n8' d8') ∧ Hid (Below w.heap.size w w'))) (by kernel_rfl) ?_ (fun hHeld => ?_)
          · (try dsimp only); (go_split_ands; refine ⟨?_, ?_, ?_, ?_, ?_, ?_, ?_, ?_, ?_⟩ <;> (first | assumption | exact carry hbx (by assumption) | exact below_hid (by assumption) hbx | exact drew_hid (by assumption)))
          refine wpAnyH_take (i := 0) (v := ?v21) rfl (by kernel_rfl) (by kernel_rfl) (by kernel_rfl) (fun _ _ _ h => h) (Or.inl ⟨rfl, ?hy21⟩) hHeld ?rest21
          case hy21 => (intro w hSw; (try dsimp only at hSw); go_simp; try with_reducible rfl)
          try simp only [Act.put, List.setIfInBounds_toArray, List.set_cons_zero, List.set_cons_succ, List.getElem_toArray, List.getElem_cons_zero, List.getElem_cons_succ]
          refine wpAnyH_take (i := 1) (v := ?v22) rfl (by kernel_rfl) (by kernel_rfl) (by kernel_rfl) (fun _ _ _ h => h) (Or.inl ⟨rfl, ?hy22⟩) hHeld ?rest22
          case hy22 => (intro w hSw; (try dsimp only at hSw); go_simp; try with_reducible rfl)
          try simp only [Act.put, List.setIfInBounds_toArray, List.set_cons_zero, List.set_cons_succ, List.getElem_toArray, List.getElem_cons_zero, List.getElem_cons_succ]
          refine wpAnyH_take (i := 2) (v := ?v23) rfl (by kernel_rfl) (by kernel_rfl) (by kernel_rfl) (fun _ _ _ h => h) (Or.inl ⟨rfl, ?hy23⟩) hHeld ?rest23
          case hy23 => (intro w hSw; (try dsimp only at hSw); go_simp; try with_reducible rfl)
          try simp only [Act.put, List.setIfInBounds_toArray, List.set_cons_zero, List.set_cons_succ, List.getElem_toArray, List.getElem_cons_zero, List.getElem_cons_succ]
          refine wpAnyH_take (i := 3) (v := ?v24) rfl (by kernel_rfl) (by kernel_rfl) (by kernel_rfl) (fun _ _ _ h => h) (Or.inl ⟨rfl, ?hy24⟩) hHeld ?rest24
          case hy24 => (intro w hSw; (try dsimp only at hSw); go_simp; try with_reducible rfl)
          try simp only [Act.put, List.setIfInBounds_toArray, List.set_cons_zero, List.set_cons_succ, List.getElem_toArray, List.getElem_cons_zero, List.getElem_cons_succ]
          refine wpAnyH_take (i := 5) (v := ?v25) rfl (by kernel_rfl) (by kernel_rfl) (by kernel_rfl) (fun _ _ _ h => h) (Or.inl ⟨rfl, ?hy25⟩) hHeld ?rest25
          case hy25 => (intro w hSw; (try dsimp only at hSw); go_simp; try with_reducible rfl)
          try simp only [Act.put, List.setIfInBounds_toArray, List.set_cons_zero, List.set_cons_succ, List.getElem_toArray, List.getElem_cons_zero, List.getElem_cons_succ]
          refine wpAnyH_take (i := 7) (v := ?v26) rfl (by kernel_rfl) (by kernel_rfl) (by kernel_rfl) (fun _ _ _ h => h) (Or.inl ⟨rfl, ?hy26⟩) hHeld ?rest26
          case hy26 => (intro w hSw; (try dsimp only at hSw); go_simp; try with_reducible rfl)
          try simp only [Act.put, List.setIfInBounds_toArray, List.set_cons_zero, List.set_cons_succ, List.getElem_toArray, List.getElem_cons_zero, List.getElem_cons_succ]
          refine wpAnyH_ready (rs := [4]) (by kernel_rfl) (by simp) (AllReadyH.cons rfl (fun K hK => ?_) AllReadyH.nil)
          go_simp
          go_at_call 6; refine (code_len _ _ _ _ _ _ _).mono ?_; rintro e wx ⟨rfl, hbx⟩
          try dsimp only
          refine hK.out _ _ ?_ (fun hNew => ?_)
          · (go_split_ands; refine ⟨?_, ?_, ?_, ?_, ?_, ?_, ?_, ?_, ?_⟩ <;> (first | assumption | exact carry hbx (by assumption) | exact below_hid (by assumption) hbx | exact drew_hid (by assumption)))
          clear hK K hHeld hbx
          have hHeld := hNew
          clear hNew
          try simp only [Act.put, List.setIfInBounds_toArray, List.set_cons_zero, List.set_cons_succ, List.getElem_toArray, List.getElem_cons_zero, List.getElem_cons_succ]
          refine wpAnyH_ready (rs := [6]) (by kernel_rfl) (by simp) (AllReadyH.cons rfl (fun K hK => ?_) AllReadyH.nil)
          go_simp
          go_at_call 6; refine (code_len _ _ _ _ _ _ _).mono ?_; rintro e wx ⟨rfl, hbx⟩
          try dsimp only
          refine hK.out _ _ ?_ (fun hNew => ?_)
          · (go_split_ands; refine ⟨?_, ?_, ?_, ?_, ?_, ?_, ?_, ?_, ?_⟩ <;> (first | assumption | exact carry hbx (by assumption) | exact below_hid (by assumption) hbx | exact drew_hid (by assumption)))
          clear hK K hHeld hbx
          have hHeld := hNew
          clear hNew
          try simp only [Act.put, List.setIfInBounds_toArray, List.set_cons_zero, List.set_cons_succ, List.getElem_toArray, List.getElem_cons_zero, List.getElem_cons_succ]
          refine wpAnyH_ready (rs := [8]) (by kernel_rfl) (by simp) (AllReadyH.cons rfl (fun K hK => ?_) AllReadyH.nil)
          go_simp
          go_at_call 6; refine (code_len _ _ _ _ _ _ _).mono ?_; rintro e wx ⟨rfl, hbx⟩
          try dsimp only
          refine hK.out _ _ ?_ (fun hNew => ?_)
          · (go_split_ands; refine ⟨?_, ?_, ?_, ?_, ?_, ?_, ?_, ?_, ?_⟩ <;> (first | assumption | exact carry hbx (by assumption) | exact below_hid (by assumption) hbx | exact drew_hid (by assumption)))
          clear hK K hHeld hbx
          have hHeld := hNew
          clear hNew
          try simp only [Act.put, List.setIfInBounds_toArray, List.set_cons_zero, List.set_cons_succ, List.getElem_toArray, List.getElem_cons_zero, List.getElem_cons_succ]
          refine wpAnyH_take (i := 9) (v := ?v27) rfl (by kernel_rfl) (by kernel_rfl) (by kernel_rfl) (fun _ _ _ h => h) (Or.inl ⟨rfl, ?hy27⟩) hHeld ?rest27
          case hy27 => (intro w hSw; (try dsimp only at hSw); go_simp; try with_reducible rfl)
          try simp only [Act.put, List.setIfInBounds_toArray, List.set_cons_zero, List.set_cons_succ, List.getElem_toArray, List.getElem_cons_zero, List.getElem_cons_succ]
          refine wpAnyH_take (i := 10) (v := ?v28) rfl (by kernel_rfl) (by kernel_rfl) (by kernel_rfl) (fun _ _ _ h => h) (Or.inl ⟨rfl, ?hy28⟩) hHeld ?rest28
          case hy28 => (intro w hSw; (try dsimp only at hSw); go_simp; try with_reducible rfl)
          try simp only [Act.put, List.setIfInBounds_toArray, List.set_cons_zero, List.set_cons_succ, List.getElem_toArray, List.getElem_cons_zero, List.getElem_cons_succ]
          refine wpAnyH_take (i := 11) (v := ?v29) rfl (by kernel_rfl) (by kernel_rfl) (by kernel_rfl) (fun _ _ _ h => h) (Or.inl ⟨rfl, ?hy29⟩) hHeld ?rest29
          case hy29 => (intro w hSw; (try dsimp only at hSw); go_simp; try with_reducible rfl)
          try simp only [Act.put, List.setIfInBounds_toArray, List.set_cons_zero, List.set_cons_succ, List.getElem_toArray, List.getElem_cons_zero, List.getElem_cons_succ]
          refine wpAnyH_take (i := 12) (v := ?v30) rfl (by kernel_rfl) (by kernel_rfl) (by kernel_rfl) (fun _ _ _ h => h) (Or.inl ⟨rfl, ?hy30⟩) hHeld ?rest30
          case hy30 => (intro w hSw; (try dsimp only at hSw); go_simp; try with_reducible rfl)
          try simp only [Act.put, List.setIfInBounds_toArray, List.set_cons_zero, List.set_cons_succ, List.getElem_toArray, List.getElem_cons_zero, List.getElem_cons_succ]
          refine wpAnyH_take (i := 13) (v := ?v31) rfl (by kernel_rfl) (by kernel_rfl) (by kernel_rfl) (fun _ _ _ h => h) (Or.inl ⟨rfl, ?hy31⟩) hHeld ?rest31
          case hy31 => (intro w hSw; (try dsimp only at hSw); go_simp; try with_reducible rfl)
          try simp only [Act.put, List.setIfInBounds_toArray, List.set_cons_zero, List.set_cons_succ, List.getElem_toArray, List.getElem_cons_zero, List.getElem_cons_succ]
          refine wpAnyH_take (i := 14) (v := ?v32) rfl (by kernel_rfl) (by kernel_rfl) (by kernel_rfl) (fun _ _ _ h => h) (Or.inl ⟨rfl, ?hy32⟩) hHeld ?rest32
          case hy32 => (intro w hSw; (try dsimp only at hSw); go_simp; try with_reducible rfl)
          try simp only [Act.put, List.setIfInBounds_toArray, List.set_cons_zero, List.set_cons_succ, List.getElem_toArray, List.getElem_cons_zero, List.getElem_cons_succ]
          refine wpAnyH_take (i := 15) (v := ?v33) rfl (by kernel_rfl) (by kernel_rfl) (by kernel_rfl) (fun _ _ _ h => h) (Or.inl ⟨rfl, ?hy33⟩) hHeld ?rest33
          case hy33 => (intro w hSw; (try dsimp only at hSw); go_simp; try with_reducible rfl)
          try simp only [Act.put, List.setIfInBounds_toArray, List.set_cons_zero, List.set_cons_succ, List.getElem_toArray, List.getElem_cons_zero, List.getElem_cons_succ]
          refine wpAnyH_take (i := 16) rfl (by kernel_rfl) (by kernel_rfl) (by kernel_rfl) (fun _ _ _ h => h) (Or.inr ⟨rfl, rfl⟩) hHeld ?_
          try simp only [Act.put, List.setIfInBounds_toArray, List.set_cons_zero, List.set_cons_succ, List.getElem_toArray, List.getElem_cons_zero, List.getElem_cons_succ]
          refine wpAnyH_take (i := 17) rfl (by kernel_rfl) (by kernel_rfl) (by kernel_rfl) (fun _ _ _ h => h) (Or.inr ⟨rfl, rfl⟩) hHeld ?_
          try simp only [Act.put, List.setIfInBounds_toArray, List.set_cons_zero, List.set_cons_succ, List.getElem_toArray, List.getElem_cons_zero, List.getElem_cons_succ]
          refine wpAnyH_take (i := 18) rfl (by kernel_rfl) (by kernel_rfl) (by kernel_rfl) (fun _ _ _ h => h) (Or.inr ⟨rfl, rfl⟩) hHeld ?_
          try simp only [Act.put, List.setIfInBounds_toArray, List.set_cons_zero, List.set_cons_succ, List.getElem_toArray, List.getElem_cons_zero, List.getElem_cons_succ]
          refine wpAnyH_take (i := 19) rfl (by kernel_rfl) (by kernel_rfl) (by kernel_rfl) (fun _ _ _ h => h) (Or.inr ⟨rfl, rfl⟩) hHeld ?_
          try simp only [Act.put, List.setIfInBounds_toArray, List.set_cons_zero, List.set_cons_succ, List.getElem_toArray, List.getElem_cons_zero, List.getElem_cons_succ]
          refine wpAnyH_take (i := 20) rfl (by kernel_rfl) (by kernel_rfl) (by kernel_rfl) (fun _ _ _ h => h) (Or.inr ⟨rfl, rfl⟩) hHeld ?_
          try simp only [Act.put, List.setIfInBounds_toArray, List.set_cons_zero, List.set_cons_succ, List.getElem_toArray, List.getElem_cons_zero, List.getElem_cons_succ]
          refine wpAnyH_take (i := 21) rfl (by kernel_rfl) (by kernel_rfl) (by kernel_rfl) (fun _ _ _ h => h) (Or.inr ⟨rfl, rfl⟩) hHeld ?_
          try simp only [Act.put, List.setIfInBounds_toArray, List.set_cons_zero, List.set_cons_succ, List.getElem_toArray, List.getElem_cons_zero, List.getElem_cons_succ]
          refine wpAnyH_take (i := 22) (v := ?v34) rfl (by kernel_rfl) (by kernel_rfl) (by kernel_rfl) (fun _ _ _ h => h) (Or.inl ⟨rfl, ?hy34⟩) hHeld ?rest34
          case hy34 => (intro w hSw; (try dsimp only at hSw); go_simp; try with_reducible rfl)
          try simp only [Act.put, List.setIfInBounds_toArray, List.set_cons_zero, List.set_cons_succ, List.getElem_toArray, List.getElem_cons_zero, List.getElem_cons_succ]
          refine wpAnyH_take (i := 23) (v := ?v35) rfl (by kernel_rfl) (by kernel_rfl) (by kernel_rfl) (fun _ _ _ h => h) (Or.inl ⟨rfl, ?hy35⟩) hHeld ?rest35
          case hy35 => (intro w hSw; (try dsimp only at hSw); go_simp; try with_reducible rfl)
          try simp only [Act.put, List.setIfInBounds_toArray, List.set_cons_zero, List.set_cons_succ, List.getElem_toArray, List.getElem_cons_zero, List.getElem_cons_succ]
          refine wpAnyH_take (i := 24) (v := ?v36) rfl (by kernel_rfl) (by kernel_rfl) (by kernel_rfl) (fun _ _ _ h => h) (Or.inl ⟨rfl, ?hy36⟩) hHeld ?rest36
          case hy36 => (intro w hSw; (try dsimp only at hSw); go_simp; try with_reducible rfl)
          try simp only [Act.put, List.setIfInBounds_toArray, List.set_cons_zero, List.set_cons_succ, List.getElem_toArray, List.getElem_cons_zero, List.getElem_cons_succ]
          refine wpAnyH_done (by kernel_rfl) ?_ _
          go_wp2_with fail
          have HF := hHeld.2.2.2.2.2.2.2.2
          go_ret
          exact ⟨rfl, HF.out⟩
      · rcases HJ8.out with ⟨rfl, rfl⟩ | ⟨k8, rfl⟩
        · refine wp_region_held_drew (S := (fun w' => w'.cell? ⟨w1.heap.size, 0, none⟩ = some (.slice B1 C1 d1) ∧ w'.cell? ⟨w1.heap.size, 1, none⟩ = some (.slice B1' n1' d1') ∧ w'.cell? ⟨w2.heap.size, 0, none⟩ = some (.slice B2 C2 d2) ∧ w'.cell? ⟨w2.heap.size, 1, none⟩ = some (.slice B2' n2' d2') ∧ w'.cell? ⟨w7.heap.size, 0, none⟩ = some (.slice B7 C7 d7) ∧ w'.cell? ⟨w7.heap.size, 1, none⟩ = some (.slice B7' n7' d7') ∧ w'.cell? ⟨w8.heap.size, 0, none⟩ = some (.slice B8 (C1 + 1) d8) ∧ w'.cell? ⟨w8.heap.size, 1, none⟩ = some (.slice B8' n8' d8') ∧ Hid (Below w.heap.size w w'))) (by kernel_rfl) ?_ (fun hHeld => ?_)
          · (try dsimp only); (go_split_ands; refine ⟨?_, ?_, ?_, ?_, ?_, ?_, ?_, ?_, ?_⟩ <;> (first | assumption | exact carry hbx (by assumption) | exact below_hid (by assumption) hbx | exact drew_hid (by assumption)))
          refine wpAnyH_take (i := 0) (v := ?v37) rfl (by kernel_rfl) (by kernel_rfl) (by kernel_rfl) (fun _ _ _ h => h) (Or.inl ⟨rfl, ?hy37⟩) hHeld ?rest37
          case hy37 => (intro w hSw; (try dsimp only at hSw); go_simp; try with_reducible rfl)
          try simp only [Act.put, List.setIfInBounds_toArray, List.set_cons_zero, List.set_cons_succ, List.getElem_toArray, List.getElem_cons_zero, List.getElem_cons_succ]
          refine wpAnyH_take (i := 1) (v := ?v38) rfl (by kernel_rfl) (by kernel_rfl) (by kernel_rfl) (fun _ _ _ h => h) (Or.inl ⟨rfl, ?hy38⟩) hHeld ?rest38
          case hy38 => (intro w hSw; (try dsimp only at hSw); go_simp; try with_reducible rfl)
          try simp only [Act.put, List.setIfInBounds_toArray, List.set_cons_zero, List.set_cons_succ, List.getElem_toArray, List.getElem_cons_zero, List.getElem_cons_succ]
          refine wpAnyH_take (i := 2) (v := ?v39) rfl (by kernel_rfl) (by kernel_rfl) (by kernel_rfl) (fun _ _ _ h => h) (Or.inl ⟨rfl, ?hy39⟩) hHeld ?rest39
          case hy39 => (intro w hSw; (try dsimp only at hSw); go_simp; try with_reducible rfl)
          try simp only [Act.put, List.setIfInBounds_toArray, List.set_cons_zero, List.set_cons_succ, List.getElem_toArray, List.getElem_cons_zero, List.getElem_cons_succ]
          refine wpAnyH_take (i := 3) rfl (by kernel_rfl) (by kernel_rfl) (by kernel_rfl) (fun _ _ _ h => h) (Or.inr ⟨rfl, rfl⟩) hHeld ?_
          try simp only [Act.put, List.setIfInBounds_toArray, List.set_cons_zero, List.set_cons_succ, List.getElem_toArray, List.getElem_cons_zero, List.getElem_cons_succ]
          refine wpAnyH_take (i := 4) rfl (by kernel_rfl) (by kernel_rfl) (by kernel_rfl) (fun _ _ _ h => h) (Or.inr ⟨rfl, rfl⟩) hHeld ?_
          try simp only [Act.put, List.setIfInBounds_toArray, List.set_cons_zero, List.set_cons_succ, List.getElem_toArray, List.getElem_cons_zero, List.getElem_cons_succ]
          refine wpAnyH_take (i := 5) rfl (by kernel_rfl) (by kernel_rfl) (by kernel_rfl) (fun _ _ _ h => h) (Or.inr ⟨rfl, rfl⟩) hHeld ?_
          try simp only [Act.put, List.setIfInBounds_toArray, List.set_cons_zero, List.set_cons_succ, List.getElem_toArray, List.getElem_cons_zero, List.getElem_cons_succ]
          refine wpAnyH_take (i := 6) rfl (by kernel_rfl) (by kernel_rfl) (by kernel_rfl) (fun _ _ _ h => h) (Or.inr ⟨rfl, rfl⟩) hHeld ?_
          try simp only [Act.put, List.setIfInBounds_toArray, List.set_cons_zero, List.set_cons_succ, List.getElem_toArray, List.getElem_cons_zero, List.getElem_cons_succ]
          refine wpAnyH_take (i := 7) rfl (by kernel_rfl) (by kernel_rfl) (by kernel_rfl) (fun _ _ _ h => h) (Or.inr ⟨rfl, rfl⟩) hHeld ?_
          try simp only [Act.put, List.setIfInBounds_toArray, List.set_cons_zero, List.set_cons_succ, List.getElem_toArray, List.getElem_cons_zero, List.getElem_cons_succ]
          refine wpAnyH_take (i := 8) rfl (by kernel_rfl) (by kernel_rfl) (by kernel_rfl) (fun _ _ _ h => h) (Or.inr ⟨rfl, rfl⟩) hHeld ?_
          try simp only [Act.put, List.setIfInBounds_toArray, List.set_cons_zero, List.set_cons_succ, List.getElem_toArray, List.getElem_cons_zero, List.getElem_cons_succ]
          refine wpAnyH_take (i := 9) rfl (by kernel_rfl) (by kernel_rfl) (by kernel_rfl) (fun _ _ _ h => h) (Or.inr ⟨rfl, rfl⟩) hHeld ?_
          try simp only [Act.put, List.setIfInBounds_toArray, List.set_cons_zero, List.set_cons_succ, List.getElem_toArray, List.getElem_cons_zero, List.getElem_cons_succ]
          refine wpAnyH_take (i := 10) rfl (by kernel_rfl) (by kernel_rfl) (by kernel_rfl) (fun _ _ _ h => h) (Or.inr ⟨rfl, rfl⟩) hHeld ?_
          try simp only [Act.put, List.setIfInBounds_toArray, List.set_cons_zero, List.set_cons_succ, List.getElem_toArray, List.getElem_cons_zero, List.getElem_cons_succ]
          refine wpAnyH_take (i := 11) (v := ?v40) rfl (by kernel_rfl) (by kernel_rfl) (by kernel_rfl) (fun _ _ _ h => h) (Or.inl ⟨rfl, ?hy40⟩) hHeld ?rest40
          case hy40 => (intro w hSw; (try dsimp only at hSw); go_simp; try with_reducible rfl)
          try simp only [Act.put, List.setIfInBounds_toArray, List.set_cons_zero, List.set_cons_succ, List.getElem_toArray, List.getElem_cons_zero, List.getElem_cons_succ]
          refine wpAnyH_take (i := 12) (v := ?v41) rfl (by kernel_rfl) (by kernel_rfl) (by kernel_rfl) (fun _ _ _ h => h) (Or.inl ⟨rfl, ?hy41⟩) hHeld ?rest41
          case hy41 => (intro w hSw; (try dsimp only at hSw); go_simp; try with_reducible rfl)
          try simp only [Act.put, List.setIfInBounds_toArray, List.set_cons_zero, List.set_cons_succ, List.getElem_toArray, List.getElem_cons_zero, List.getElem_cons_succ]
          refine wpAnyH_take (i := 13) (v := ?v42) rfl (by kernel_rfl) (by kernel_rfl) (by kernel_rfl) (fun _ _ _ h => h) (Or.inl ⟨rfl, ?hy42⟩) hHeld ?rest42
          case hy42 => (intro w hSw; (try dsimp only at hSw); go_simp; try with_reducible rfl)
          try simp only [Act.put, List.setIfInBounds_toArray, List.set_cons_zero, List.set_cons_succ, List.getElem_toArray, List.getElem_cons_zero, List.getElem_cons_succ]
          refine wpAnyH_take (i := 14) (v := ?v43) rfl (by kernel_rfl) (by kernel_rfl) (by kernel_rfl) (fun _ _ _ h => h) (Or.inl ⟨rfl, ?hy43⟩) hHeld ?rest43
          case hy43 => (intro w hSw; (try dsimp only at hSw); go_simp; try with_reducible rfl)
          try simp only [Act.put, List.setIfInBounds_toArray, List.set_cons_zero, List.set_cons_succ, List.getElem_toArray, List.getElem_cons_zero, List.getElem_cons_succ]
          refine wpAnyH_take (i := 15) (v := ?v44) rfl (by kernel_rfl) (by kernel_rfl) (by kernel_rfl) (fun _ _ _ h => h) (Or.inl ⟨rfl, ?hy44⟩) hHeld ?rest44
          case hy44 => (intro w hSw; (try dsimp only at hSw); go_simp; try with_reducible rfl)
          try simp only [Act.put, List.setIfInBounds_toArray, List.set_cons_zero, List.set_cons_succ, List.getElem_toArray, List.getElem_cons_zero, List.getElem_cons_succ]
          refine wpAnyH_take (i := 16) (v := ?v45) rfl (by kernel_rfl) (by kernel_rfl) (by kernel_rfl) (fun _ _ _ h => h) (Or.inl ⟨rfl, ?hy45⟩) hHeld ?rest45
          case hy45 => (intro w hSw; (try dsimp only at hSw); go_simp; try with_reducible rfl)
          try simp only [Act.put, List.setIfInBounds_toArray, List.set_cons_zero, List.set_cons_succ, List.getElem_toArray, List.getElem_cons_zero, List.getElem_cons_succ]
          refine wpAnyH_take (i := 18) (v := ?v46) rfl (by kernel_rfl) (by kernel_rfl) (by kernel_rfl) (fun _ _ _ h => h) (Or.inl ⟨rfl, ?hy46⟩) hHeld ?rest46
          case hy46 => (intro w hSw; (try dsimp only at hSw); go_simp; try with_reducible rfl)
          try simp only [Act.put, List.setIfInBounds_toArray, List.set_cons_zero, List.set_cons_succ, List.getElem_toArray, List.getElem_cons_zero, List.getElem_cons_succ]
          refine wpAnyH_ready (rs := [17]) (by kernel_rfl) (by simp) (AllReadyH.cons rfl (fun K hK => ?_) AllReadyH.nil)
          go_simp
          go_at_call 6; refine (code_len _ _ _ _ _ _ _).mono ?_; rintro e wx ⟨rfl, hbx⟩
          try dsimp only
          refine hK.out _ _ ?_ (fun hNew => ?_)
          · (go_split_ands; refine ⟨?_, ?_, ?_, ?_, ?_, ?_, ?_, ?_, ?_⟩ <;> (first | assumption | exact carry hbx (by assumption) | exact below_hid (by assumption) hbx | exact drew_hid (by assumption)))
          clear hK K hHeld hbx
          have hHeld := hNew
          clear hNew
          try simp only [Act.put, List.setIfInBounds_toArray, List.set_cons_zero, List.set_cons_succ, List.getElem_toArray, List.getElem_cons_zero, List.getElem_cons_succ]
          refine wpAnyH_ready (rs := [19]) (by kernel_rfl) (by simp) (AllReadyH.cons rfl (fun K hK => ?_) AllReadyH.nil)
          go_simp
          go_at_call 6; refine (code_len _ _ _ _ _ _ _).mono ?_; rintro e wx ⟨rfl, hbx⟩
          try dsimp only
          refine hK.out _ _ ?_ (fun hNew => ?_)
          · (go_split_ands; refine ⟨?_, ?_, ?_, ?_, ?_, ?_, ?_, ?_, ?_⟩ <;> (first | assumption | exact carry hbx (by assumption) | exact below_hid (by assumption) hbx | exact drew_hid (by assumption)))
          clear hK K hHeld hbx
          have hHeld := hNew
          clear hNew
          try simp only [Act.put, List.setIfInBounds_toArray, List.set_cons_zero, List.set_cons_succ, List.getElem_toArray, List.getElem_cons_zero, List.getElem_cons_succ]
          refine wpAnyH_take (i := 20) (v := ?v47) rfl (by kernel_rfl) (by kernel_rfl) (by kernel_rfl) (fun _ _ _ h => h) (Or.inl ⟨rfl, ?hy47⟩) hHeld ?rest47
          case hy47 => (intro w hSw; (try dsimp only at hSw); go_simp; try with_reducible rfl)
          try simp only [Act.put, List.setIfInBounds_toArray, List.set_cons_zero, List.set_cons_succ, List.getElem_toArray, List.getElem_cons_zero, List.getElem_cons_succ]
          refine wpAnyH_take (i := 21) (v := ?v48) rfl (by kernel_rfl) (by kernel_rfl) (by kernel_rfl) (fun _ _ _ h => h) (Or.inl ⟨rfl, ?hy48⟩) hHeld ?rest48
          case hy48 => (intro w hSw; (try dsimp only at hSw); go_simp; try with_reducible rfl)
          try simp only [Act.put, List.setIfInBounds_toArray, List.set_cons_zero, List.set_cons_succ, List.getElem_toArray, List.getElem_cons_zero, List.getElem_cons_succ]
          refine wpAnyH_take (i := 22) (v := ?v49) rfl (by kernel_rfl) (by kernel_rfl) (by kernel_rfl) (fun _ _ _ h => h) (Or.inl ⟨rfl, ?hy49⟩) hHeld ?rest49
          case hy49 => (intro w hSw; (try dsimp only at hSw); go_simp; try with_reducible rfl)
          try simp only [Act.put, List.setIfInBounds_toArray, List.set_cons_zero, List.set_cons_succ, List.getElem_toArray, List.getElem_cons_zero, List.getElem_cons_succ]
          refine wpAnyH_take (i := 23) (v := ?v50) rfl (by kernel_rfl) (by kernel_rfl) (by kernel_rfl) (fun _ _ _ h => h) (Or.inl ⟨rfl, ?hy50⟩) hHeld ?rest50
          case hy50 => (intro w hSw; (try dsimp only at hSw); go_simp; try with_reducible rfl)
          try simp only [Act.put, List.setIfInBounds_toArray, List.set_cons_zero, List.set_cons_succ, List.getElem_toArray, List.getElem_cons_zero, List.getElem_cons_succ]
          refine wpAnyH_take (i := 24) (v := ?v51) rfl (by kernel_rfl) (by kernel_rfl) (by kernel_rfl) (fun _ _ _ h => h) (Or.inl ⟨rfl, ?hy51⟩) hHeld ?rest51
          case hy51 => (intro w hSw; (try dsimp only at hSw); go_simp; try with_reducible rfl)
          try simp only [Act.put, List.setIfInBounds_toArray, List.set_cons_zero, List.set_cons_succ, List.getElem_toArray, List.getElem_cons_zero, List.getElem_cons_succ]
          refine wpAnyH_done (by kernel_rfl) ?_ _
          go_wp2_with fail
          have HF := hHeld.2.2.2.2.2.2.2.2
          go_ret
          exact ⟨rfl, HF.out⟩
        · refine wp_region_held_drew (S := (fun w' => w'.cell? ⟨w1.heap.size, 0, none⟩ = some (.slice B1 C1 d1) ∧ w'.cell? ⟨w1.heap.size, 1, none⟩ = some (.slice B1' n1' d1') ∧ w'.cell? ⟨w2.heap.size, 0, none⟩ = some (.slice B2 C2 d2) ∧ w'.cell? ⟨w2.heap.size, 1, none⟩ = some (.slice B2' n2' d2') ∧ w'.cell? ⟨w7.heap.size, 0, none⟩ = some (.slice B7 C7 d7) ∧ w'.cell? ⟨w7.heap.size, 1, none⟩ = some (.slice B7' n7' d7') ∧ w'.cell? ⟨w8.heap.size, 0, none⟩ = some (.slice B8 C8 d8) ∧ w'.cell? ⟨w8.heap.size, 1, none⟩ = some (.slice B8' n8' d8') ∧ Hid (Below w.heap.size w w'))) (by kernel_rfl) ?_ (fun hHeld => ?_)
          · (try dsimp only); (go_split_ands; refine ⟨?_, ?_, ?_, ?_, ?_, ?_, ?_, ?_, ?_⟩ <;> (first | assumption | exact carry hbx (by assumption) | exact below_hid (by assumption) hbx | exact drew_hid (by assumption)))
          refine wpAnyH_take (i := 0) (v := ?v52) rfl (by kernel_rfl) (by kernel_rfl) (by kernel_rfl) (fun _ _ _ h => h) (Or.inl ⟨rfl, ?hy52⟩) hHeld ?rest52
          case hy52 => (intro w hSw; (try dsimp only at hSw); go_simp; try with_reducible rfl)
          try simp only [Act.put, List.setIfInBounds_toArray, List.set_cons_zero, List.set_cons_succ, List.getElem_toArray, List.getElem_cons_zero, List.getElem_cons_succ]
          refine wpAnyH_take (i := 1) (v := ?v53) rfl (by kernel_rfl) (by kernel_rfl) (by kernel_rfl) (fun _ _ _ h => h) (Or.inl ⟨rfl, ?hy53⟩) hHeld ?rest53
          case hy53 => (intro w hSw; (try dsimp only at hSw); go_simp; try with_reducible rfl)
          try simp only [Act.put, List.setIfInBounds_toArray, List.set_cons_zero, List.set_cons_succ, List.getElem_toArray, List.getElem_cons_zero, List.getElem_cons_succ]
          refine wpAnyH_take (i := 2) (v := ?v54) rfl (by kernel_rfl) (by kernel_rfl) (by kernel_rfl) (fun _ _ _ h => h) (Or.inl ⟨rfl, ?hy54⟩) hHeld ?rest54
          case hy54 => (intro w hSw; (try dsimp only at hSw); go_simp; try with_reducible rfl)
          try simp only [Act.put, List.setIfInBounds_toArray, List.set_cons_zero, List.set_cons_succ, List.getElem_toArray, List.getElem_cons_zero, List.getElem_cons_succ]
          refine wpAnyH_take (i := 3) rfl (by kernel_rfl) (by kernel_rfl) (by kernel_rfl) (fun _ _ _ h => h) (Or.inr ⟨rfl, rfl⟩) hHeld ?_
          try simp only [Act.put, List.setIfInBounds_toArray, List.set_cons_zero, List.set_cons_succ, List.getElem_toArray, List.getElem_cons_zero, List.getElem_cons_succ]
          refine wpAnyH_take (i := 4) rfl (by kernel_rfl) (by kernel_rfl) (by kernel_rfl) (fun _ _ _ h => h) (Or.inr ⟨rfl, rfl⟩) hHeld ?_
          try simp only [Act.put, List.setIfInBounds_toArray, List.set_cons_zero, List.set_cons_succ, List.getElem_toArray, List.getElem_cons_zero, List.getElem_cons_succ]
          refine wpAnyH_take (i := 5) rfl (by kernel_rfl) (by kernel_rfl) (by kernel_rfl) (fun _ _ _ h => h) (Or.inr ⟨rfl, rfl⟩) hHeld ?_
          try simp only [Act.put, List.setIfInBounds_toArray, List.set_cons_zero, List.set_cons_succ, List.getElem_toArray, List.getElem_cons_zero, List.getElem_cons_succ]
          refine wpAnyH_take (i := 6) rfl (by kernel_rfl) (by kernel_rfl) (by kernel_rfl) (fun _ _ _ h => h) (Or.inr ⟨rfl, rfl⟩) hHeld ?_
          try simp only [Act.put, List.setIfInBounds_toArray, List.set_cons_zero, List.set_cons_succ, List.getElem_toArray, List.getElem_cons_zero, List.getElem_cons_succ]
          refine wpAnyH_take (i := 7) rfl (by kernel_rfl) (by kernel_rfl) (by kernel_rfl) (fun _ _ _ h => h) (Or.inr ⟨rfl, rfl⟩) hHeld ?_
          try simp only [Act.put, List.setIfInBounds_toArray, List.set_cons_zero, List.set_cons_succ, List.getElem_toArray, List.getElem_cons_zero, List.getElem_cons_succ]
          refine wpAnyH_take (i := 8) rfl (by kernel_rfl) (by kernel_rfl) (by kernel_rfl) (fun _ _ _ h => h) (Or.inr ⟨rfl, rfl⟩) hHeld ?_
          try simp only [Act.put, List.setIfInBounds_toArray, List.set_cons_zero, List.set_cons_succ, List.getElem_toArray, List.getElem_cons_zero, List.getElem_cons_succ]
          refine wpAnyH_take (i := 9) rfl (by kernel_rfl) (by kernel_rfl) (by kernel_rfl) (fun _ _ _ h => h) (Or.inr ⟨rfl, rfl⟩) hHeld ?_
          try simp only [Act.put, List.setIfInBounds_toArray, List.set_cons_zero, List.set_cons_succ, List.getElem_toArray, List.getElem_cons_zero, List.getElem_cons_succ]
          refine wpAnyH_take (i := 10) rfl (by kernel_rfl) (by kernel_rfl) (by kernel_rfl) (fun _ _ _ h => h) (Or.inr ⟨rfl, rfl⟩) hHeld ?_
          try simp only [Act.put, List.setIfInBounds_toArray, List.set_cons_zero, List.set_cons_succ, List.getElem_toArray, List.getElem_cons_zero, List.getElem_cons_succ]
          refine wpAnyH_take (i := 11) (v := ?v55) rfl (by kernel_rfl) (by kernel_rfl) (by kernel_rfl) (fun _ _ _ h => h) (Or.inl ⟨rfl, ?hy55⟩) hHeld ?rest55
          case hy55 => (intro w hSw; (try dsimp only at hSw); go_simp; try with_reducible rfl)
          try simp only [Act.put, List.setIfInBounds_toArray, List.set_cons_zero, List.set_cons_succ, List.getElem_toArray, List.getElem_cons_zero, List.getElem_cons_succ]
          refine wpAnyH_take (i := 12) (v := ?v56) rfl (by kernel_rfl) (by kernel_rfl) (by kernel_rfl) (fun _ _ _ h => h) (Or.inl ⟨rfl, ?hy56⟩) hHeld ?rest56
          case hy56 => (intro w hSw; (try dsimp only at hSw); go_simp; try with_reducible rfl)
          try simp only [Act.put, List.setIfInBounds_toArray, List.set_cons_zero, List.set_cons_succ, List.getElem_toArray, List.getElem_cons_zero, List.getElem_cons_succ]
          refine wpAnyH_take (i := 13) (v := ?v57) rfl (by kernel_rfl) (by kernel_rfl) (by kernel_rfl) (fun _ _ _ h => h) (Or.inl ⟨rfl, ?hy57⟩) hHeld ?rest57
          case hy57 => (intro w hSw; (try dsimp only at hSw); go_simp; try with_reducible rfl)
          try simp only [Act.put, List.setIfInBounds_toArray, List.set_cons_zero, List.set_cons_succ, List.getElem_toArray, List.getElem_cons_zero, List.getElem_cons_succ]
          refine wpAnyH_take (i := 14) (v := ?v58) rfl (by kernel_rfl) (by kernel_rfl) (by kernel_rfl) (fun _ _ _ h => h) (Or.inl ⟨rfl, ?hy58⟩) hHeld ?rest58
          case hy58 => (intro w hSw; (try dsimp only at hSw); go_simp; try with_reducible rfl)
          try simp only [Act.put, List.setIfInBounds_toArray, List.set_cons_zero, List.set_cons_succ, List.getElem_toArray, List.getElem_cons_zero, List.getElem_cons_succ]
          refine wpAnyH_take (i := 15) (v := ?v59) rfl (by kernel_rfl) (by kernel_rfl) (by kernel_rfl) (fun _ _ _ h => h) (Or.inl ⟨rfl, ?hy59⟩) hHeld ?rest59
          case hy59 => (intro w hSw; (try dsimp only at hSw); go_simp; try with_reducible rfl)
          try simp only [Act.put, List.setIfInBounds_toArray, List.set_cons_zero, List.set_cons_succ, List.getElem_toArray, List.getElem_cons_zero, List.getElem_cons_succ]
          refine wpAnyH_take (i := 16) rfl (by kernel_rfl) (by kernel_rfl) (by kernel_rfl) (fun _ _ _ h => h) (Or.inr ⟨rfl, rfl⟩) hHeld ?_
          try simp only [Act.put, List.setIfInBounds_toArray, List.set_cons_zero, List.set_cons_succ, List.getElem_toArray, List.getElem_cons_zero, List.getElem_cons_succ]
          refine wpAnyH_take (i := 17) rfl (by kernel_rfl) (by kernel_rfl) (by kernel_rfl) (fun _ _ _ h => h) (Or.inr ⟨rfl, rfl⟩) hHeld ?_
          try simp only [Act.put, List.setIfInBounds_toArray, List.set_cons_zero, List.set_cons_succ, List.getElem_toArray, List.getElem_cons_zero, List.getElem_cons_succ]
          refine wpAnyH_take (i := 18) rfl (by kernel_rfl) (by kernel_rfl) (by kernel_rfl) (fun _ _ _ h => h) (Or.inr ⟨rfl, rfl⟩) hHeld ?_
          try simp only [Act.put, List.setIfInBounds_toArray, List.set_cons_zero, List.set_cons_succ, List.getElem_toArray, List.getElem_cons_zero, List.getElem_cons_succ]
          refine wpAnyH_take (i := 19) rfl (by kernel_rfl) (by kernel_rfl) (by kernel_rfl) (fun _ _ _ h => h) (Or.inr ⟨rfl, rfl⟩) hHeld ?_
          try simp only [Act.put, List.setIfInBounds_toArray, List.set_cons_zero, List.set_cons_succ, List.getElem_toArray, List.getElem_cons_zero, List.getElem_cons_succ]
          refine wpAnyH_take (i := 20) rfl (by kernel_rfl) (by kernel_rfl) (by kernel_rfl) (fun _ _ _ h => h) (Or.inr ⟨rfl, rfl⟩) hHeld ?_
          try simp only [Act.put, List.setIfInBounds_toArray, List.set_cons_zero, List.set_cons_succ, List.getElem_toArray, List.getElem_cons_zero, List.getElem_cons_succ]
          refine wpAnyH_take (i := 21) rfl (by kernel_rfl) (by kernel_rfl) (by kernel_rfl) (fun _ _ _ h => h) (Or.inr ⟨rfl, rfl⟩) hHeld ?_
          try simp only [Act.put, List.setIfInBounds_toArray, List.set_cons_zero, List.set_cons_succ, List.getElem_toArray, List.getElem_cons_zero, List.getElem_cons_succ]
          refine wpAnyH_take (i := 22) (v := ?v60) rfl (by kernel_rfl) (by kernel_rfl) (by kernel_rfl) (fun _ _ _ h => h) (Or.inl ⟨rfl, ?hy60⟩) hHeld ?rest60
          case hy60 => (intro w hSw; (try dsimp only at hSw); go_simp; try with_reducible rfl)
          try simp only [Act.put, List.setIfInBounds_toArray, List.set_cons_zero, List.set_cons_succ, List.getElem_toArray, List.getElem_cons_zero, List.getElem_cons_succ]
          refine wpAnyH_take (i := 23) (v := ?v61) rfl (by kernel_rfl) (by kernel_rfl) (by kernel_rfl) (fun _ _ _ h => h) (Or.inl ⟨rfl, ?hy61⟩) hHeld ?rest61
          case hy61 => (intro w hSw; (try dsimp only at hSw); go_simp; try with_reducible rfl)
          try simp only [Act.put, List.setIfInBounds_toArray, List.set_cons_zero, List.set_cons_succ, List.getElem_toArray, List.getElem_cons_zero, List.getElem_cons_succ]
          refine wpAnyH_take (i := 24) (v := ?v62) rfl (by kernel_rfl) (by kernel_rfl) (by kernel_rfl) (fun _ _ _ h => h) (Or.inl ⟨rfl, ?hy62⟩) hHeld ?rest62
          case hy62 => (intro w hSw; (try dsimp only at hSw); go_simp; try with_reducible rfl)
          try simp only [Act.put, List.setIfInBounds_toArray, List.set_cons_zero, List.set_cons_succ, List.getElem_toArray, List.getElem_cons_zero, List.getElem_cons_succ]
          refine wpAnyH_done (by kernel_rfl) ?_ _
          go_wp2_with fail
          have HF := hHeld.2.2.2.2.2.2.2.2
          go_ret
          exact ⟨rfl, HF.out⟩
    · have K2 := Lib.hid (fun (W : World) (hb : Below w.heap.size w W) => code_no (f + 1) _ ns W (HE.out.below hb) (HK.out.below hb) (NodesIn.below hb _ HM.out) h2)
      generalize cntP (f + 1) ms = C1 at *
      generalize msgP (f + 1) ns = E at *
      go_enter Tryd.func3, Tryd.ntmps3
      go_wp2_with fail
      refine K1.out.mono ?_
      rintro e w1 ⟨⟨B1, d1, B1', n1', d1', rfl⟩, hb1⟩
      have HB1 := Lib.hid hb1
      clear hb1 K1
      go_wp2_with fail
      have ba : Below w1.heap.size w1 (w1.alloc (.cells #[.slice B1 C1 d1, .slice B1' n1' d1'] 25)) := (Below.refl _ _).alloc (Nat.le_refl _) _
      have ha := HB1.out.trans (ba.mono HB1.out.size)
      refine (K2.out _ ha).mono ?_
      rintro e w2 ⟨rfl, hb2⟩
      have HB2 := Lib.hid (ha.trans (hb2.mono ha.size))
      clear hb2 K2 ba ha
      go_wp2_with fail
      have bb : Below w2.heap.size w2 ((w2.alloc (.cells #[.slice none 0 0, .slice none 0 0] 25)).alloc (.cells #[.int .i64 2, .string ⟨#[97]⟩, .int .i64 0, .slice none 0 0] 32)) := ((Below.refl _ _).alloc (Nat.le_refl _) _).alloc (by simp) _
      have hb := HB2.out.trans (bb.mono HB2.out.size)
      refine (code_ok 1 _ showA _ (HE.out.below hb) (HK.out.below hb) (lit_show _ (w2.heap.size + 1) (by go_simp) (by go_simp) (by go_simp) (by go_simp)) msg_show).mono ?_
      rintro e w3 ⟨⟨B3, d3, B3', n3', d3', rfl⟩, hb3⟩
      have HB3 := Lib.hid (hb.trans (hb3.mono hb.size))
      have ex : cntP 1 showA = 1 := rfl
      rw [ex]
      clear hb3 hb bb ex
      go_wp2_with fail
      have bx : Below w3.heap.size w3 (w3.alloc (.cells #[.slice B3 1 d3, .slice B3' n3' d3'] 25)) := (Below.refl _ _).alloc (Nat.le_refl _) _
      have hbx := HB3.out.trans (bx.mono HB3.out.size)
      refine (code_len _ _ _ _ _ _ _).mono ?_
      rintro e w4 ⟨rfl, hb4⟩
      have HB4 := Lib.hid (hbx.trans (hb4.mono hbx.size))
      clear hb4 hbx bx
      go_wp2_with fail
      go_ret
      exact ⟨rfl, HB4.out⟩
  · have K1 := Lib.hid (code_no (f + 1) _ ms w HE.out HK.out HN.out h1)
    have K2 := Lib.hid (fun (W : World) (hb : Below w.heap.size w W) => code_any (f + 1) _ ns _ rfl W (HE.out.below hb) (HK.out.below hb) (NodesIn.below hb _ HM.out))
    generalize cntP (f + 1) ns = C2 at *
    generalize msgP (f + 1) ms = E at *
    go_enter Tryd.func3, Tryd.ntmps3
    go_wp2_with fail
    refine K1.out.mono ?_
    rintro e w1 ⟨rfl, hb1⟩
    have HB1 := Lib.hid hb1
    clear hb1 K1
    go_wp2_with fail
    have ba : Below w1.heap.size w1 (w1.alloc (.cells #[.slice none 0 0, .slice none 0 0] 25)) := (Below.refl _ _).alloc (Nat.le_refl _) _
    have ha := HB1.out.trans (ba.mono HB1.out.size)
    refine (K2.out _ ha).mono ?_
    rintro e w2 ⟨⟨B2, C7, d2, B2', n2', d2', E2, rfl, HJ⟩, hb2⟩
    have HB2 := Lib.hid (ha.trans (hb2.mono ha.size))
    have PA0 : Hid (w2.cell? ⟨w1.heap.size, 0, none⟩ = some (.slice none 0 0)) := Lib.hid (carry hb2 (by go_simp))
    have PA1 : Hid (w2.cell? ⟨w1.heap.size, 1, none⟩ = some (.slice none 0 0)) := Lib.hid (carry hb2 (by go_simp))
    clear hb2 K2 ba ha
    go_wp2_with fail
    have bb : Below w2.heap.size w2 ((w2.alloc (.cells #[.slice B2 C7 d2, .slice B2' n2' d2'] 25)).alloc (.cells #[.int .i64 2, .string ⟨#[97]⟩, .int .i64 0, .slice none 0 0] 32)) := ((Below.refl _ _).alloc (Nat.le_refl _) _).alloc (by simp) _
    have hb := HB2.out.trans (bb.mono HB2.out.size)
    refine (code_ok 1 _ showA _ (HE.out.below hb) (HK.out.below hb) (lit_show _ (w2.heap.size + 1) (by go_simp) (by go_simp) (by go_simp) (by go_simp)) msg_show).mono ?_
    rintro e w3 ⟨⟨B3, d3, B3', n3', d3', rfl⟩, hb3⟩
    have HB3 := Lib.hid (hb.trans (hb3.mono hb.size))
    have ex : cntP 1 showA = 1 := rfl
    rw [ex]
    have QA0 := Lib.hid (carry hb3 (carry bb PA0.out))
    have QA1 := Lib.hid (carry hb3 (carry bb PA1.out))
    clear hb3 hb bb ex PA0 PA1
    go_wp2_with fail
    have bx : Below w3.heap.size w3 (w3.alloc (.cells #[.slice B3 1 d3, .slice B3' n3' d3'] 25)) := (Below.refl _ _).alloc (Nat.le_refl _) _
    have hbx := HB3.out.trans (bx.mono HB3.out.size)
    refine (code_len _ _ _ _ _ _ _).mono ?_
    rintro e w4 ⟨rfl, hb4⟩
    have HB4 := Lib.hid (hbx.trans (hb4.mono hbx.size))
    have a0 := carry hb4 (carry bx QA0.out)
    have a1 := carry hb4 (carry bx QA1.out)
    clear hb4 hbx bx QA0 QA1
    go_wp2_with fail
    refine (code_len _ _ _ _ _ _ _).mono ?_
    rintro e w5 ⟨rfl, hb5⟩
    have HB5 := Lib.hid (HB4.out.trans (hb5.mono HB4.out.size))
    clear hb5
    go_wp2_with fail
    go_ret
    exact ⟨rfl, HB5.out⟩
end Go.Proofs.YthlcjlmaaaappaaDoor
