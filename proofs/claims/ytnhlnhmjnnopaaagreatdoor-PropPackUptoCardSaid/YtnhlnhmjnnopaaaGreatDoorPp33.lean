/- PropParse: texts put together. -/
import Derived.Test.YtnhlnhmjnnopaaaGreatDoorPp23
import Derived.Test.YtnhlnhmjnnopaaaGreatDoorPp3
import Derived.Test.YtnhlnhmjnnopaaaGreatDoorPp27
import Derived.Test.YtnhlnhmjnnopaaaGreatDoorPp32
import Derived.Test.YtnhlnhmjnnopaaaGreatDoorPp2
import Derived.Deep.DeepCutAuto
set_option linter.unusedVariables false
set_option linter.unusedSimpArgs false
/- prop.Parse of the lines that prop.Text told. -/
namespace Go.Proofs.YtnhlnhmjnnopaaaGreatDoor
open Go.RowKit

/-- what the round holds -/
structure PAt (W : World) (base r0 pb ob gl : Nat) (L : List ByteArray) (tg : ByteArray) (acc : List EntC) (kept : List UInt8) : Prop where
  box : BoxAt W base pb tg acc
  bld : ∃ v, BuiltAt W base ob v kept
  lty : TyAt W gl 9
  lin : ∀ (j : Nat) ln, L[j]? = some ln → W.cell? ⟨gl, j, none⟩ = some (.string ln)
  rty : TyAt W r0 24
  r0c : W.cell? ⟨r0, 0, none⟩ = some (.string ⟨#[]⟩)
  r1c : W.cell? ⟨r0, 1, none⟩ = some (.slice none 0 0)
  rne : r0 ≠ pb
section
variable {W W' : World} {base r0 pb ob gl : Nat} {L : List ByteArray} {tg : ByteArray} {acc : List EntC} {kept : List UInt8}
theorem PAt.below (h : PAt W base r0 pb ob gl L tg acc kept) (hb : Below W.heap.size W W') : PAt W' base r0 pb ob gl L tg acc kept := by
  obtain ⟨v, hv⟩ := h.bld
  exact ⟨h.box.below hb, ⟨v, hv.below hb⟩, h.lty.below hb, fun j ln hj => carry hb (h.lin j ln hj), h.rty.below hb, carry hb h.r0c, carry hb h.r1c, h.rne⟩
/-- the tag is told -/
theorem PAt.tag (h : PAt W base r0 pb ob gl L tg acc kept) (u : ByteArray) : PAt (W.setCell ⟨pb, 0, none⟩ (.string u)) base r0 pb ob gl L u acc kept := by
  have ho : Off [pb] W (W.setCell ⟨pb, 0, none⟩ (.string u)) := (Off.refl [pb] W).setCell _ _ (by simp)
  have hs : SoftB W [pb] := fun k hk => by
    simp only [List.mem_singleton] at hk
    subst hk
    exact .inl h.box.ty
  obtain ⟨v, hv⟩ := h.bld
  have n1 : gl ∉ [pb] := h.lty.softB hs (by decide) (by decide)
  have n2 : r0 ∉ [pb] := by simp; exact h.rne
  exact ⟨h.box.tag u, ⟨v, hv.offB ho hs⟩, h.lty.off ho n1, fun j ln hj => ho.cell (h.lin j ln hj) n1, h.rty.off ho n2, ho.cell h.r0c n2, ho.cell h.r1c n2, h.rne⟩
/-- a line is kept -/
theorem PAt.wrote {v : Value} {l : List UInt8} (h : PAt W base r0 pb ob gl L tg acc kept) (hv : BuiltAt W base ob v kept) (hw : Wrote2 W W' base ob v l) : PAt W' base r0 pb ob gl L tg acc l := by
  obtain ⟨v', hv', _⟩ := hw.at_
  have ho := hw.off
  have hh := hv.hard
  have n1 : gl ∉ ob :: v.ownBlock.toList := h.lty.soft hv.soft (by decide) (by decide)
  have n2 : r0 ∉ ob :: v.ownBlock.toList := h.rty.hardB hh (.inl rfl)
  exact ⟨h.box.off ho hh, ⟨v', hv'⟩, h.lty.off ho n1, fun j ln hj => ho.cell (h.lin j ln hj) n1, h.rty.off ho n2, ho.cell h.r0c n2, ho.cell h.r1c n2, h.rne⟩
/-- an entry more -/
theorem PAt.more {x : EntC} {v v' : Value} {w8 : World} (h : PAt W base r0 pb ob gl L tg acc kept) (hc : W.cell? ⟨pb, 1, none⟩ = some v) (hO : OwnsG kEnt W base v acc) (h8 : OwnsG kEnt w8 base v' (acc ++ [x])) (hF : Off v.ownBlock.toList W w8) :
    w8.cell? ⟨pb, 1, none⟩ = some v ∧ w8.frozen? ⟨pb, 1, none⟩ = false ∧ PAt (w8.setCell ⟨pb, 1, none⟩ v') base r0 pb ob gl L tg (acc ++ [x]) kept ∧ (∀ k ∈ pb :: v.ownBlock.toList, base ≤ k) ∧ Off (pb :: v.ownBlock.toList) W (w8.setCell ⟨pb, 1, none⟩ v') := by
  obtain ⟨h1, h2, h3, ho, hs⟩ := h.box.more hc hO h8 hF
  obtain ⟨vb, hv⟩ := h.bld
  have n1 := h.lty.softB hs (by decide) (by decide)
  have n2 : r0 ∉ pb :: v.ownBlock.toList := fun hm => by
    rcases List.mem_cons.1 hm with e | e
    · exact h.rne e
    · exact (hO.ty r0 e).ne h.rty (by decide) rfl
  refine ⟨h1, h2, ⟨h3, ⟨vb, hv.offB ho hs⟩, h.lty.off ho n1, fun j ln hj => ho.cell (h.lin j ln hj) n1, h.rty.off ho n2, ho.cell h.r0c n2, ho.cell h.r1c n2, h.rne⟩, fun k hk => ?_, ho⟩
  rcases List.mem_cons.1 hk with rfl | hk
  · exact h.box.ge
  · exact (hO.block k hk).1
theorem kept_block {b ob : Nat} {t : TypeId} (h : TyAt W b t) (hk : Lib.OthersKept 5 (some ob) W W') (hn : b ≠ ob) (ht : t ≠ 5) : W'.heap[b]? = W.heap[b]? := by
  obtain ⟨cur, h⟩ := h
  rw [h]
  refine hk b _ h (fun e => hn (by injection e)) (fun c fz e => ht ?_)
  injection e with _ e _
theorem cell_kept {b ob j : Nat} {t : TypeId} {u : Value} (h : TyAt W b t) (hk : Lib.OthersKept 5 (some ob) W W') (hn : b ≠ ob) (ht : t ≠ 5) (hc : W.cell? ⟨b, j, none⟩ = some u) : W'.cell? ⟨b, j, none⟩ = some u := by
  simp only [World.cell?, kept_block h hk hn ht]
  exact hc
/-- when all is told -/
theorem PAt.told (h : PAt W base r0 pb ob gl L tg acc kept) (hk : Lib.OthersKept 5 (some ob) W W') : BoxAt W' base pb tg acc ∧ TyAt W' r0 24 ∧ W'.cell? ⟨r0, 0, none⟩ = some (.string ⟨#[]⟩) ∧ W'.cell? ⟨r0, 1, none⟩ = some (.slice none 0 0) := by
  obtain ⟨vb, hv⟩ := h.bld
  have hT := hv.ty
  have n1 : pb ≠ ob := h.box.ty.ne hT (by decide)
  have n2 : r0 ≠ ob := h.rty.ne hT (by decide)
  obtain ⟨v, h1, h2⟩ := h.box.box
  have tk : ∀ {b : Nat} {t : TypeId}, TyAt W b t → b ≠ ob → t ≠ 5 → TyAt W' b t := fun {b t} h hn ht => by
    obtain ⟨cur, hb⟩ := h
    exact ⟨cur, (kept_block ⟨cur, hb⟩ hk hn ht).trans hb⟩
  refine ⟨⟨⟨v, cell_kept h.box.ty hk n1 (by decide) h1, h2.kept (fun g cur hg hc => ?_)⟩, cell_kept h.box.ty hk n1 (by decide) h.box.c0, tk h.box.ty n1 (by decide), h.box.ge⟩, tk h.rty n2 (by decide), cell_kept h.rty hk n2 (by decide) h.r0c, cell_kept h.rty hk n2 (by decide) h.r1c⟩
  exact kept_block ⟨cur, hc⟩ hk (TyAt.ne ⟨cur, hc⟩ hT (by decide)) (by decide)
end
theorem line_at {L : List ByteArray} {M : List (List UInt8)} (h : L.map (·.data.toList) = M) {j : Nat} {l : List UInt8} (hj : M[j]? = some l) : ∃ ln, L[j]? = some ln ∧ ln.data.toList = l := by
  rw [← h, List.getElem?_map] at hj
  cases hq : L[j]? with
  | none => rw [hq] at hj; cases hj
  | some ln =>
    rw [hq] at hj
    injection hj with hj
    exact ⟨ln, rfl, hj⟩
theorem trimSuffix_snoc (a : List UInt8) (c : UInt8) : Lib.trimSuffix (a ++ [c]) [c] = a := by
  unfold Lib.trimSuffix Lib.hasSuffix
  rw [if_pos (by simp)]
  simp
def tagAt (tg : ByteArray) (j : Nat) : ByteArray := if j = 0 then ⟨#[]⟩ else tg
def keptAt (tg : ByteArray) (es : List EntC) (j : Nat) : List UInt8 := ((linesP tg es).take j).flatten
theorem keptAt_succ {tg : ByteArray} {es : List EntC} {j : Nat} {l : List UInt8} (h : (linesP tg es)[j]? = some l) : keptAt tg es (j + 1) = keptAt tg es j ++ l := by
  unfold keptAt
  rw [List.take_add_one, h, List.flatten_append]
  simp
theorem keptAt_all (tg : ByteArray) (es : List EntC) {j : Nat} (h : es.length + 1 ≤ j) : keptAt tg es j = textP tg es := by
  unfold keptAt
  rw [text_lines, List.take_of_length_le (by unfold linesP; rw [List.length_cons, List.length_map]; exact h)]
theorem keptAt_len {tg : ByteArray} {es : List EntC} {j : Nat} (hz : ∀ e ∈ es, e.key.size ≤ 40 ∧ e.text.size ≤ 2000) (ht : tg.size ≤ 1000) (hn : es.length ≤ 100) : (keptAt tg es j).length ≤ 500000 := by
  have h0 : (keptAt tg es j).length ≤ (textP tg es).length := by
    have h3 : (linesP tg es).flatten = keptAt tg es j ++ ((linesP tg es).drop j).flatten := by
      unfold keptAt
      rw [← List.flatten_append, List.take_append_drop]
    rw [text_lines, h3, List.length_append]
    omega
  have h1 := lines_len es hz
  have h2 := headT_size tg ht
  rw [show (headT tg).size = (headT tg).data.toList.length by rw [Array.length_toList]; rfl, headT_is] at h2
  unfold textP at h0
  rw [List.length_append] at h0
  omega
theorem two_ascii : ∀ (j : Nat) (b : UInt8), (⟨#[64, 10]⟩ : ByteArray).data.toList[j]? = some b → b.toNat < 128 := by
  intro j b h
  have hm := List.mem_of_getElem? h
  have : ∀ x ∈ (⟨#[64, 10]⟩ : ByteArray).data.toList, x.toNat < 128 := by decide
  exact this b hm
theorem ba_ext {a b : ByteArray} (h : a.data.toList = b.data.toList) : a = b := ByteArray.ext (Array.ext' h)
set_option maxHeartbeats 8000000 in
set_option maxRecDepth 100000 in
theorem prop_parse (tg : ByteArray) (es : List EntC) (s : ByteArray) (w : World) (hM : MaxL w) (hs : s.data.toList = textP tg es) (ho : ownTag tg.data.toList = true) (hk : ∀ e ∈ es, keyOk e.key = true) (hn : es.length ≤ 100) (ht : tg.size ≤ 1000) (hz : ∀ e ∈ es, e.key.size ≤ 40 ∧ e.text.size ≤ 2000) (he : (BunC.mk tg es).err = 0) :
    Calls Tryz.prog 13 #[.string s] w fun e w' => ∃ A c, e = .returned (.tuple #[bunV ⟨tg, es⟩ A c, .nilIface]) ∧ BunFine w' ⟨tg, es⟩ A c ∧ Below w.heap.size w w' := by
  have hspl := split_text ho hk hs
  have HSP : Hid ((linesOf s).map (·.data.toList) = linesP tg es ++ [[]]) := Lib.hid hspl
  have hlen : (linesOf s).length = es.length + 2 := by
    have := congrArg List.length hspl
    rw [List.length_map, List.length_append] at this
    unfold linesP at this
    rw [List.length_cons, List.length_map] at this
    show (Lib.splitB _ _ _ _).length = _
    rw [this]
    rfl
  have hssz : s.size ≤ 500000 := by
    have h1 := lines_len es hz
    have h2 := headT_size tg ht
    rw [show (headT tg).size = (headT tg).data.toList.length by rw [Array.length_toList]; rfl, headT_is] at h2
    have h3 : s.size = s.data.toList.length := by rw [Array.length_toList]; rfl
    rw [hs] at h3
    unfold textP at h3
    rw [List.length_append] at h3
    omega
  have hb0 : Below w.heap.size w (((w.alloc (.cells #[.string ⟨#[]⟩, .slice none 0 0] 24)).alloc (.cells #[.string ⟨#[]⟩, .slice none 0 0] 24)).alloc (.cells #[.pointer none, .slice none 0 0] 85)) := (by (repeat (first | with_reducible exact Below.refl _ _ | with_reducible refine bel_set ?_ ?_ | with_reducible refine bel_alloc ?_ ?_ | with_reducible refine Below.drew ?_ | with_reducible refine bel_drewN _ ?_ | with_reducible refine bel_call ?_ (by assumption) ?_)); all_goals (first | (simp; done) | omega | (simp; omega)))
  have HKS := Lib.hid (split_after s _ (hM.below hb0) (by omega))
  obtain ⟨L, hL⟩ : ∃ L, L = linesOf s := ⟨_, rfl⟩
  rw [← hL] at HKS HSP hlen
  have HB0 := Lib.hid hb0
  have HM := Lib.hid hM
  have HK := Lib.hid hk
  have HO := Lib.hid ho
  have HZ := Lib.hid hz
  have HE := Lib.hid he
  have HT := Lib.hid ht
  clear hspl hb0 hM hk ho hz he hs hL ht
  go_enter Tryz.func13, Tryz.ntmps13
  go_wp2_with fail
  refine HKS.out.mono ?_
  rintro e w1 ⟨rfl, rfl⟩
  rw [hlen]
  obtain ⟨W0, hW0⟩ : ∃ W0, W0 = (((w.alloc (.cells #[.string ⟨#[]⟩, .slice none 0 0] 24)).alloc (.cells #[.string ⟨#[]⟩, .slice none 0 0] 24)).alloc (.cells #[.pointer none, .slice none 0 0] 85)).alloc (.cells (L.map Value.string).toArray 9) := ⟨_, rfl⟩
  have hgl : (((w.alloc (.cells #[.string ⟨#[]⟩, .slice none 0 0] 24)).alloc (.cells #[.string ⟨#[]⟩, .slice none 0 0] 24)).alloc (.cells #[.pointer none, .slice none 0 0] 85)).heap.size = w.heap.size + 1 + 1 + 1 := by simp
  have hP0 : PAt W0 w.heap.size w.heap.size (w.heap.size + 1) (w.heap.size + 1 + 1) (w.heap.size + 1 + 1 + 1) L ⟨#[]⟩ [] [] := by
    have e1 : (w.alloc (.cells #[.string ⟨#[]⟩, .slice none 0 0] 24)).heap.size = w.heap.size + 1 := by simp
    have e2 : ((w.alloc (.cells #[.string ⟨#[]⟩, .slice none 0 0] 24)).alloc (.cells #[.string ⟨#[]⟩, .slice none 0 0] 24)).heap.size = w.heap.size + 1 + 1 := by simp
    have hb := BoxAt.new (w.alloc (.cells #[.string ⟨#[]⟩, .slice none 0 0] 24)) (base := w.heap.size) (by rw [e1]; omega)
    rw [e1] at hb
    have hq := BuiltAt.mk0 ((w.alloc (.cells #[.string ⟨#[]⟩, .slice none 0 0] 24)).alloc (.cells #[.string ⟨#[]⟩, .slice none 0 0] 24)) (B := w.heap.size) (by rw [e2]; omega)
    rw [e2] at hq
    have hl := heap_alloc_new (((w.alloc (.cells #[.string ⟨#[]⟩, .slice none 0 0] 24)).alloc (.cells #[.string ⟨#[]⟩, .slice none 0 0] 24)).alloc (.cells #[.pointer none, .slice none 0 0] 85)) (.cells (L.map Value.string).toArray 9)
    rw [hgl] at hl
    have hr := heap_alloc_new w (.cells #[.string ⟨#[]⟩, .slice none 0 0] 24)
    have hb1 : Below (w.alloc (.cells #[.string ⟨#[]⟩, .slice none 0 0] 24)).heap.size (w.alloc (.cells #[.string ⟨#[]⟩, .slice none 0 0] 24)) W0 := by rw [hW0]; exact (by (repeat (first | with_reducible exact Below.refl _ _ | with_reducible refine bel_set ?_ ?_ | with_reducible refine bel_alloc ?_ ?_ | with_reducible refine Below.drew ?_ | with_reducible refine bel_drewN _ ?_ | with_reducible refine bel_call ?_ (by assumption) ?_)); all_goals (first | (simp; done) | omega | (simp; omega)))
    have hb2 : Below ((w.alloc (.cells #[.string ⟨#[]⟩, .slice none 0 0] 24)).alloc (.cells #[.string ⟨#[]⟩, .slice none 0 0] 24)).heap.size ((w.alloc (.cells #[.string ⟨#[]⟩, .slice none 0 0] 24)).alloc (.cells #[.string ⟨#[]⟩, .slice none 0 0] 24)) W0 := by rw [hW0]; exact (by (repeat (first | with_reducible exact Below.refl _ _ | with_reducible refine bel_set ?_ ?_ | with_reducible refine bel_alloc ?_ ?_ | with_reducible refine Below.drew ?_ | with_reducible refine bel_drewN _ ?_ | with_reducible refine bel_call ?_ (by assumption) ?_)); all_goals (first | (simp; done) | omega | (simp; omega)))
    have hb3 : Below (((w.alloc (.cells #[.string ⟨#[]⟩, .slice none 0 0] 24)).alloc (.cells #[.string ⟨#[]⟩, .slice none 0 0] 24)).alloc (.cells #[.pointer none, .slice none 0 0] 85)).heap.size (((w.alloc (.cells #[.string ⟨#[]⟩, .slice none 0 0] 24)).alloc (.cells #[.string ⟨#[]⟩, .slice none 0 0] 24)).alloc (.cells #[.pointer none, .slice none 0 0] 85)) W0 := by rw [hW0]; exact (by (repeat (first | with_reducible exact Below.refl _ _ | with_reducible refine bel_set ?_ ?_ | with_reducible refine bel_alloc ?_ ?_ | with_reducible refine Below.drew ?_ | with_reducible refine bel_drewN _ ?_ | with_reducible refine bel_call ?_ (by assumption) ?_)); all_goals (first | (simp; done) | omega | (simp; omega)))
    rw [← hW0] at hl
    refine ⟨hb.below hb2, ⟨_, hq.below hb3⟩, ⟨_, hl⟩, fun j ln hj => ?_, TyAt.below ⟨_, hr⟩ hb1, carry hb1 (by rw [cell_of_row _ _ _ _ _ _ hr]; rfl), carry hb1 (by rw [cell_of_row _ _ _ _ _ _ hr]; rfl), by omega⟩
    rw [cell_of_row _ _ _ _ _ _ hl, List.getElem?_toArray, List.getElem?_map, hj]
    rfl
  rw [hgl, ← hW0]
  have HBW : Hid (Below w.heap.size w W0) := Lib.hid (by rw [hW0]; exact HB0.out.trans (bel_alloc (Below.refl _ _) (by rw [hgl]; omega)))
  have HP0 := Lib.hid hP0
  obtain ⟨r0, hr0⟩ : ∃ r0, r0 = w.heap.size := ⟨_, rfl⟩
  obtain ⟨pb, hpb⟩ : ∃ pb, pb = w.heap.size + 1 := ⟨_, rfl⟩
  obtain ⟨ob, hob⟩ : ∃ ob, ob = w.heap.size + 1 + 1 := ⟨_, rfl⟩
  obtain ⟨gl, hglb⟩ : ∃ gl, gl = w.heap.size + 1 + 1 + 1 := ⟨_, rfl⟩
  rw [← hglb, ← hob, ← hpb] at HP0 ⊢
  obtain ⟨base, hbs⟩ : ∃ base, base = w.heap.size := ⟨_, rfl⟩
  have HR0 : Hid (PAt W0 base r0 pb ob gl L ⟨#[]⟩ [] []) := Lib.hid (by rw [hbs, hr0]; exact HP0.out)
  have HBS := Lib.hid hbs
  have HRG : Hid (w.heap.size ≤ r0) := Lib.hid (Nat.le_of_eq hr0.symm)
  rw [← hr0]
  clear HP0 hP0 hgl hW0 hr0 hpb hob hglb HKS HB0 hbs hlen
  go_wp2_with fail
  go_loopw [16] (fun i wr => ∃ j : Nat, j ≤ es.length + 2 ∧ i = .int .i64 j ∧ Hid (PAt wr base r0 pb ob gl L (tagAt tg j) (es.take (j - 1)) (keptAt tg es j)) ∧ Hid (Below w.heap.size w wr)) (fun i _ => es.length + 2 - (intOf i).toNat)
  case atStart => exact ⟨0, Nat.zero_le _, rfl, HR0, HBW⟩
  case round =>
    obtain ⟨j, hj, rfl, HP, HB⟩ := hrel
    by_cases hlt : j < es.length + 2
    · by_cases h0 : j = 0
      · subst h0
        obtain ⟨ln, hln, hld⟩ := line_at HSP.out (j := 0) (l := headP tg) rfl
        have y0 : wr.cell? ⟨gl, 0, none⟩ = some (.string ln) := HP.out.lin 0 ln hln
        have hls : ln.size = tg.size + 2 := by
          have : ln.data.toList.length = ln.size := by rw [Array.length_toList]; rfl
          rw [← this, hld]
          unfold headP
          rw [List.length_cons, List.length_append, Array.length_toList]
          rfl
        have htz := HT.out
        have HLD := Lib.hid (And.intro hld hls)
        have HTR := Lib.hid (trim_set ⟨#[64, 10]⟩ two_ascii (by decide) (by decide) ln wr (by omega) (by omega))
        have gll := lt_of_cell y0
        clear hln hld hls htz
        go_wp2_with fail
        refine HTR.out.mono ?_
        rintro e w2 ⟨t, u, rfl, hR, hL, hb2⟩
        obtain rfl : u = tg := ba_ext (trim_head HO.out (by have h := hR; unfold TrimR at h; rw [HLD.out.1] at h; exact h) hL)
        have hP2 := HP.out.below hb2
        have p0 := hP2.box.c0
        have pf := hP2.box.ty.frozen 0
        have pl := hP2.box.ty.lt
        have HP2 := Lib.hid (hP2.tag u)
        have HB2 := Lib.hid (HB.out.trans (hb2.mono HB.out.size))
        clear hR hL hb2 hP2 HTR y0 gll
        go_wp2_with fail
        obtain ⟨v, hv⟩ := HP2.out.bld
        have hbw := HP2.out.box.ge
        refine (built_write ln hv (by have := HLD.out.2; have := HT.out; show 0 + ln.size ≤ _; omega) (by have := HB2.out.size; have := HBS.out; simp; omega)).mono ?_
        rintro e w4 ⟨rfl, hw4⟩
        have HP4 := Lib.hid (HP2.out.wrote hv hw4)
        have HB4 : Hid (Below w.heap.size w w4) := Lib.hid ((bel_set HB2.out (by rw [← HBS.out]; exact HP2.out.box.ge)).trans (hw4.off.toBelow (fun k hk => by rw [← HBS.out]; exact hv.ges k hk) (by have := HB2.out.size; simp; omega)))
        clear hv hw4 p0 pf pl
        go_wp2_with fail
        refine ⟨⟨1, by omega, rfl, Lib.hid ?_, HB4⟩, by show es.length + 2 - 1 < es.length + 2 - 0; omega⟩
        have hk1 : keptAt u es 1 = keptAt u es 0 ++ headP u := keptAt_succ (j := 0) rfl
        rw [hk1, ← HLD.out.1]
        exact HP4.out
      · by_cases hn1 : j ≤ es.length
        · obtain ⟨i, hji⟩ : ∃ i, j = i + 1 := ⟨j - 1, by omega⟩
          obtain ⟨x, hx⟩ : ∃ x, es[i]? = some x := ⟨_, List.getElem?_eq_getElem (by omega)⟩
          have hlj : (linesP tg es)[j]? = some (lineP x) := by rw [hji]; unfold linesP; rw [List.getElem?_cons_succ, List.getElem?_map, hx]; rfl
          obtain ⟨ln, hln, hld⟩ := line_at HSP.out (j := j) (l := lineP x) (by rw [List.getElem?_append_left (List.getElem?_eq_some_iff.1 hlj).1]; exact hlj)
          have y0 : wr.cell? ⟨gl, j, none⟩ = some (.string ln) := HP.out.lin j ln hln
          have hxk := HK.out x (List.mem_of_getElem? hx)
          have hxz := HZ.out x (List.mem_of_getElem? hx)
          have hls : ln.size ≤ 4042 := by
            have h1 := lineT_size x hxz
            rw [show (lineT x).size = (lineT x).data.toList.length by rw [Array.length_toList]; rfl, lineT_is] at h1
            rw [← hld, Array.length_toList] at h1
            exact h1
          obtain ⟨c, r, hcr, hkc⟩ := line_first hxk
          have hnp : Lib.hasPrefix ln.data.toList [33] = false := by
            rw [hld, hcr]
            have : c ≠ 33 := fun e => by rw [e] at hkc; exact absurd hkc (by decide +kernel)
            simp [Lib.hasPrefix, List.isPrefixOf]
            exact fun e => this e.symm
          have HPR : Hid (∀ W, Calls Tryz.prog 41 #[.string ln, .string ⟨#[33]⟩] W fun e w' => e = .returned (.bool false) ∧ w' = W) := Lib.hid (fun W => by
            have h := Tryz.strings_HasPrefix ln ⟨#[33]⟩ W
            rw [hnp] at h
            exact h)
          have i1 : ((j : Int) == 0) = false := by simp; omega
          have i2 : (0 : Int) ≤ (j : Int) := by omega
          have i3 : (j : Int) < (es.length : Int) + 2 := by omega
          have gll := lt_of_cell y0
          have htl : ln.toList = c :: r := by rw [Lib.toList_data, hld, hcr]
          have t1 : (ln.toList == [10]) = false := by
            rw [htl]
            have : c ≠ 10 := fun e => by rw [e] at hkc; exact absurd hkc (by decide +kernel)
            simp [this]
          have t2 : ¬ ln.toList = [] := by rw [htl]; simp
          have t3 : ln.toList.isEmpty = false := by rw [htl]; rfl
          obtain ⟨kv, hkv⟩ : ∃ kv : ByteArray, kv = ⟨(x.key.data.toList ++ 61 :: escP x.text.data.toList).toArray⟩ := ⟨_, rfl⟩
          obtain ⟨ev, hev⟩ : ∃ ev : ByteArray, ev = ⟨(escP x.text.data.toList).toArray⟩ := ⟨_, rfl⟩
          have hkvs : kv.size ≤ 4042 := by
            have h1 : kv.size = (x.key.data.toList ++ 61 :: escP x.text.data.toList).length := by rw [hkv]; rfl
            have h2 : ln.size = ln.data.toList.length := by rw [Array.length_toList]; rfl
            rw [hld, line_parts, List.length_append] at h2
            omega
          have HTS : Hid (∀ W, Calls Tryz.prog 44 #[.string ln, .string ⟨#[10]⟩] W fun e w' => e = .returned (.string kv) ∧ w' = W) := Lib.hid (fun W => by
            have h := Tryz.strings_TrimSuffix ln ⟨#[10]⟩ W (by omega)
            rw [hld, line_parts, show (⟨#[10]⟩ : ByteArray).data.toList = [10] from rfl, trimSuffix_snoc, ← hkv] at h
            exact h)
          have HCU : Hid (∀ W, Below w.heap.size w W → Calls Tryz.prog 43 #[.string kv, .string ⟨#[61]⟩] W fun e w' => e = .returned (.tuple #[.string x.key, .string ev, .bool true]) ∧ Below W.heap.size W w') := Lib.hid (fun W hb => by
            obtain ⟨m, hm⟩ := HM.out.below hb
            have h := Tryz.strings_Cut kv ⟨#[61]⟩ m W (by omega) hm
            rw [show kv.data.toList = x.key.data.toList ++ 61 :: escP x.text.data.toList by rw [hkv], show (⟨#[61]⟩ : ByteArray).data.toList = [61] from rfl, cut_line hxk] at h
            refine h.mono ?_
            rintro e w' ⟨rfl, n, rfl⟩
            refine ⟨by rw [hev], bel_drewN n (Below.refl _ _)⟩)
          have HBA : Hid (∀ W, Calls Tryz.prog 45 #[.string ev] W fun e w' => e = .returned (.string x.text) ∧ Below W.heap.size W w') := Lib.hid (fun W => by
            have h2 : ev.size = (escP x.text.data.toList).length := by rw [hev]; rfl
            have h3 := esc_len x.text.data.toList
            have h4 : x.text.data.toList.length = x.text.size := by rw [Array.length_toList]; rfl
            have h := prop_bare ev W (by omega)
            rw [show ev.data.toList = escP x.text.data.toList by rw [hev], bare_esc] at h
            exact h)
          have HJ := Lib.hid (And.intro hji (And.intro hx (And.intro hlj (And.intro hld (And.intro hxk hxz)))))
          clear hln hnp hcr hkc hji hx hlj hld hxk hxz htl hkv hev hkvs
          go_wp2_with fail
          refine (HPR.out _).mono ?_
          rintro e w' ⟨rfl, rfl⟩
          go_wp2_with fail
          refine (HTS.out _).mono ?_
          rintro e w' ⟨rfl, rfl⟩
          go_wp2_with fail
          refine (HCU.out _ HB.out).mono ?_
          rintro e w2 ⟨rfl, hb2⟩
          have HP2 := Lib.hid (HP.out.below hb2)
          have HB2 := Lib.hid (HB.out.trans (hb2.mono HB.out.size))
          clear hb2 HPR HTS HCU t1 t2 t3 y0 gll
          obtain ⟨acc, hacc⟩ : ∃ acc, acc = es.take (j - 1) := ⟨_, rfl⟩
          have hal : acc.length ≤ 100 := by rw [hacc, List.length_take]; omega
          rw [← hacc] at HP2
          have HAC := Lib.hid hacc
          obtain ⟨vE, p1, hO⟩ := HP2.out.box.box
          obtain ⟨A2, c2, rfl, _⟩ := hO.form
          have HO2 := Lib.hid hO
          have hbs : base ≤ w2.heap.size := by have := HB2.out.size; rw [← HBS.out] at this; exact this
          have HBX : Hid (∀ w7 : World, Below w2.drew.heap.size w2.drew w7 → OwnsG kEnt (w7.alloc (.cells #[.string x.key, .string x.text] 50)) base (.slice A2 acc.length c2) acc ∧ (∀ i u, (kEnt.cells x)[i]? = some u → (w7.alloc (.cells #[.string x.key, .string x.text] 50)).cell? ⟨w7.heap.size, i, none⟩ = some u) ∧ base ≤ (w7.alloc (.cells #[.string x.key, .string x.text] 50)).heap.size ∧
              PAt (w7.alloc (.cells #[.string x.key, .string x.text] 50)) base r0 pb ob gl L (tagAt tg j) acc (keptAt tg es j) ∧ (w7.alloc (.cells #[.string x.key, .string x.text] 50)).cell? ⟨pb, 1, none⟩ = some (.slice A2 acc.length c2) ∧ Below w.heap.size w (w7.alloc (.cells #[.string x.key, .string x.text] 50))) := Lib.hid (fun w7 hb => by
            have h1 : Below w7.heap.size w7 (w7.alloc (.cells #[.string x.key, .string x.text] 50)) := (Below.refl _ _).alloc (Nat.le_refl _) _
            have hP7 := (HP2.out.below (Below.drew (Below.refl _ _))).below hb
            have hO7 : OwnsG kEnt w7 base (.slice A2 acc.length c2) acc := OwnsG.below (w := w2.drew) HO2.out hb
            have hB7 : Below w.heap.size w w7 := HB2.out.trans (Below.mono (B := w2.heap.size) ⟨hb.os, hb.tape, hb.output, hb.size, hb.block⟩ HB2.out.size)
            refine ⟨hO7.below h1, fun i u hu => ?_, Nat.le_trans hbs (Nat.le_trans hb.size h1.size), hP7.below h1, carry h1 (carry (W := w2.drew) hb p1), hB7.trans (h1.mono hB7.size)⟩
            match i, hu with
            | 0, hu => cases hu; go_simp
            | 1, hu => cases hu; go_simp)
          have HL1 : Hid ((acc.length + 1) * kEnt.bytes ≤ 140737488355328) := Lib.hid (by show (acc.length + 1) * 32 ≤ _; omega)
          have HL2 : Hid (acc.length + 1 ≤ 9223372036854775807) := Lib.hid (by omega)
          clear hacc hal hO hbs
          go_upto_region 11 with fail
          go_region_law (first
                | (go_simp; go_at_call 45; (with_reducible refine (HBA.out _).mono ?_); rintro e w7 ⟨rfl, hb7⟩; have r1 := carry (W := w2.drew) hb7 p1; have HH := Lib.hid (HBX.out w7 hb7); have r2 := HH.out.2.2.2.2.1; clear hb7)
                | (apply step_append_gB (k := kEnt) (s := .tmp 49) (x := .tmp 54) (t := x) (hown := HH.out.1) (hc := HH.out.2.1) (hb := HH.out.2.2.1) (hn := HL1.out) (hn2 := HL2.out); (any_goals rfl); intro v' w8 ho hoff hfr; obtain ⟨A9, c9, rfl, _⟩ := ho.form; obtain ⟨q1, q2, q3, q4, q5⟩ := PAt.more HH.out.2.2.2.1 HH.out.2.2.2.2.1 HH.out.1 ho hoff; have HPN := Lib.hid q3; have HBN : Hid (Below w.heap.size w _) := Lib.hid (HH.out.2.2.2.2.2.trans (q5.toBelow (fun k hk => by rw [← HBS.out]; exact q4 k hk) HH.out.2.2.2.2.2.size)); clear ho hfr hoff q3 q4 q5))
          all_goals (rw [List.length_append, List.length_singleton] at HPN HBN)
          all_goals
            go_wp2_with fail
            obtain ⟨v, hv⟩ := HPN.out.bld
            refine (built_write ln hv (by have := keptAt_len (j := j) HZ.out HT.out hn; omega) (by rw [HBS.out]; exact HBN.out.size)).mono ?_
            rintro e w4 ⟨rfl, hw4⟩
            have HP4 := Lib.hid (HPN.out.wrote hv hw4)
            have HB4 : Hid (Below w.heap.size w w4) := Lib.hid (HBN.out.trans (hw4.off.toBelow (fun k hk => by rw [← HBS.out]; exact hv.ges k hk) HBN.out.size))
            clear hv hw4 HPN HBN q1 q2
            go_wp2_with fail
            refine ⟨⟨j + 1, hlt, by congr 1, Lib.hid ?_, HB4⟩, meas_down hlt⟩
            obtain ⟨hji, hx, hlj, hld, _⟩ := HJ.out
            have e1 : es.take (j + 1 - 1) = acc ++ [x] := by
              rw [HAC.out, hji, Nat.add_sub_cancel, Nat.add_sub_cancel, List.take_add_one, hx]
              rfl
            have e2 : tagAt tg (j + 1) = tagAt tg j := by
              unfold tagAt
              rw [if_neg (by omega), if_neg (by omega)]
            rw [e1, e2, keptAt_succ hlj, ← hld]
            exact HP4.out
        · have hje : j = es.length + 1 := by omega
          have hll : (linesP tg es).length = es.length + 1 := by unfold linesP; rw [List.length_cons, List.length_map]
          obtain ⟨ln, hln, hld⟩ := line_at HSP.out (j := j) (l := []) (by rw [List.getElem?_append_right (by omega), hll, hje, Nat.sub_self]; rfl)
          obtain rfl : ln = ⟨#[]⟩ := ba_ext hld
          have y0 : wr.cell? ⟨gl, j, none⟩ = some (.string ⟨#[]⟩) := HP.out.lin j _ hln
          have HPR : Hid (∀ W, Calls Tryz.prog 41 #[.string ⟨#[]⟩, .string ⟨#[33]⟩] W fun e w' => e = .returned (.bool false) ∧ w' = W) := Lib.hid (fun W => Tryz.strings_HasPrefix ⟨#[]⟩ ⟨#[33]⟩ W)
          have i1 : ((j : Int) == 0) = false := by simp; omega
          have i2 : (0 : Int) ≤ (j : Int) := by omega
          have i3 : (j : Int) < (es.length : Int) + 2 := by omega
          have gll := lt_of_cell y0
          have HJ := Lib.hid hje
          clear hln hld hll hje
          go_wp2_with fail
          refine (HPR.out _).mono ?_
          rintro e w' ⟨rfl, rfl⟩
          go_wp2_with fail
          obtain ⟨v, hv⟩ := HP.out.bld
          refine (built_write ⟨#[]⟩ hv (by have := keptAt_len (j := j) HZ.out HT.out hn; show _ + 0 ≤ _; omega) (by rw [HBS.out]; exact HB.out.size)).mono ?_
          rintro e w4 ⟨rfl, hw4⟩
          have HP4 := Lib.hid (HP.out.wrote hv hw4)
          have HB4 : Hid (Below w.heap.size w w4) := Lib.hid (HB.out.trans (hw4.off.toBelow (fun k hk => by rw [← HBS.out]; exact hv.ges k hk) HB.out.size))
          clear hv hw4
          go_wp2_with fail
          refine ⟨⟨j + 1, hlt, by congr 1, Lib.hid ?_, HB4⟩, meas_down hlt⟩
          have hje := HJ.out
          have e1 : es.take (j + 1 - 1) = es.take (j - 1) := by
            rw [List.take_of_length_le (by omega), List.take_of_length_le (by omega)]
          have e2 : tagAt tg (j + 1) = tagAt tg j := by
            unfold tagAt
            rw [if_neg (by omega), if_neg (by omega)]
          have e3 : keptAt tg es (j + 1) = keptAt tg es j ++ (⟨#[]⟩ : ByteArray).data.toList := by
            rw [keptAt_all tg es (j := j + 1) (by omega), keptAt_all tg es (j := j) (by omega)]
            exact (List.append_nil _).symm
          rw [e1, e2, e3]
          exact HP4.out
    · have hje : j = es.length + 2 := by omega
      have hP := HP.out
      rw [show tagAt tg j = tg by unfold tagAt; rw [if_neg (by omega)], List.take_of_length_le (by omega), keptAt_all tg es (by omega)] at hP
      have i3 : ¬ ((j : Int) < (es.length : Int) + 2) := by omega
      obtain ⟨vE, p1, hO⟩ := hP.box.box
      obtain ⟨A, c, rfl, hc1, hc2, hc3, hE⟩ := ents_of hO
      have p0 := hP.box.c0
      have pl := lt_of_cell p0
      have hF : BunFine wr ⟨tg, es⟩ A c := ⟨hE, hc1, hc2, hc3⟩
      obtain ⟨tx, htx⟩ : ∃ tx : ByteArray, tx = ⟨(textP tg es).toArray⟩ := ⟨_, rfl⟩
      have KT := prop_text ⟨tg, es⟩ A c wr (HM.out.below HB.out) hF ⟨by have := HT.out; show tg.size ≤ _; omega, by show es.length ≤ _; omega, fun e he => by have := HZ.out e he; omega⟩ HE.out hn HT.out HZ.out
      rw [show (⟨(textP (BunC.mk tg es).tag (BunC.mk tg es).es).toArray⟩ : ByteArray) = tx from htx.symm] at KT
      have HKT := Lib.hid KT
      have HP2 := Lib.hid hP
      have HF := Lib.hid hF
      have HTX := Lib.hid htx
      clear hje hP hO hE hc1 hc2 hc3 KT hF htx
      go_wp2_with fail
      refine HKT.out.mono ?_
      rintro e w5 ⟨rfl, hb5⟩
      have HP5 := Lib.hid (HP2.out.below hb5)
      have HF5 := Lib.hid (HF.out.below hb5)
      have HB5 := Lib.hid (HB.out.trans (hb5.mono HB.out.size))
      have p0 := carry hb5 p0
      have p1 := carry hb5 p1
      clear hb5 HKT
      go_wp2_with fail
      obtain ⟨v, hv⟩ := HP5.out.bld
      refine (built_string hv (by rw [HBS.out]; exact HB5.out.size)).mono ?_
      rintro e w6 ⟨rfl, hb6, hk6⟩
      rw [← HTX.out]
      obtain ⟨hBx, hTr, hr0, hr1⟩ := HP5.out.told hk6
      have p1 : w6.cell? ⟨pb, 1, none⟩ = some (.slice A es.length c) := cell_kept HP5.out.box.ty hk6 (HP5.out.box.ty.ne hv.ty (by decide)) (by decide) p1
      have p0 := hBx.c0
      have hO6 : OwnsG kEnt w6 base (.slice A es.length c) es := by
        obtain ⟨v2, k1, k2⟩ := hBx.box
        rw [p1] at k1
        injection k1 with k1
        rw [← k1] at k2
        exact k2
      have HO6 := Lib.hid hO6
      have HB6 := Lib.hid (HB5.out.trans (hb6.mono (by rw [HBS.out]; exact Nat.le_refl _)))
      have q0 := hTr.frozen 0
      have q1 := hTr.frozen 1
      have HNE := Lib.hid HP5.out.rne
      have hpl := hBx.ty.lt
      have hrl := hTr.lt
      have HTR := Lib.hid hTr
      have HRC := Lib.hid (And.intro hr0 hr1)
      clear hv hb6 hk6 hBx hTr hO6
      go_wp2_with fail
      have z0 : ((w6.setCell ⟨r0, 0, none⟩ (.string tg)).setCell ⟨r0, 1, none⟩ (.slice A es.length c)).cell? ⟨r0, 0, none⟩ = some (.string tg) := cell_other (cell_same HRC.out.1) (by simp)
      have z1 : ((w6.setCell ⟨r0, 0, none⟩ (.string tg)).setCell ⟨r0, 1, none⟩ (.slice A es.length c)).cell? ⟨r0, 1, none⟩ = some (.slice A es.length c) := cell_same (cell_other HRC.out.2 (by simp))
      have o7 : Off [r0] w6 ((w6.setCell ⟨r0, 0, none⟩ (.string tg)).setCell ⟨r0, 1, none⟩ (.slice A es.length c)) := ((Off.refl [r0] w6).setCell _ _ (by simp)).setCell _ _ (by simp)
      have hO7 := HO6.out.off o7 (fun g hg hm => by
        simp only [List.mem_singleton] at hm
        subst hm
        exact HTR.out.not HO6.out (by decide) (by simp [hg]))
      obtain ⟨A', c', he, h1, h2, h3, h4⟩ := ents_of hO7
      injection he with e1 _ e3
      subst e1 e3
      have hB7 : Below w.heap.size w ((w6.setCell ⟨r0, 0, none⟩ (.string tg)).setCell ⟨r0, 1, none⟩ (.slice A es.length c)) := bel_set (bel_set HB6.out HRG.out) HRG.out
      refine bodyPost_ret (v := .tuple #[.agg #[.string tg, .slice A es.length c], .nilIface]) ?_ rfl ⟨A, c, rfl, ⟨h4, h1, h2, h3⟩, hB7⟩
      simp [results, Tryz.results13, go_sem, z0, z1]
end Go.Proofs.YtnhlnhmjnnopaaaGreatDoor
