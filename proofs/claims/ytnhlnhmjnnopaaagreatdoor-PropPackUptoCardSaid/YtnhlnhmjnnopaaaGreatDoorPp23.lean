/- Built, Box: texts put together. -/
import Derived.Test.YtnhlnhmjnnopaaaGreatDoorPp22
import Derived.Test.YtnhlnhmjnnopaaaGreatDoorPp2
set_option linter.unusedVariables false
set_option linter.unusedSimpArgs false
/- A strings.Builder, with what its WriteString touches: its own two blocks alone. -/
namespace Go.Proofs.YtnhlnhmjnnopaaaGreatDoor
open Go.Shelf Go.RowKit

/-- a builder at b, its row v, what it holds -/
structure BuiltAt (w : World) (B b : Nat) (v : Value) (l : List UInt8) : Prop where
  ge : B ≤ b
  blk : ∃ p, (p = .pointer none ∨ p = .pointer (some ⟨b, 0, none⟩)) ∧ w.heap[b]? = some (.cells #[p, v] 85 (0, 0))
  own : OwnsG kByte w B v l
theorem BuiltAt.ty {w : World} {B b : Nat} {v : Value} {l : List UInt8} (h : BuiltAt w B b v l) : TyAt w b 85 := by
  obtain ⟨p, _, hb⟩ := h.blk
  exact ⟨_, hb⟩
theorem BuiltAt.not {w : World} {B b : Nat} {v : Value} {l : List UInt8} (h : BuiltAt w B b v l) : b ∉ v.ownBlock.toList := h.ty.not h.own (by decide)
theorem BuiltAt.off {w w' : World} {B b : Nat} {v : Value} {l : List UInt8} {m : List Nat} (h : BuiltAt w B b v l) (hf : Off m w w') (h1 : b ∉ m) (h2 : ∀ g, v.ownBlock = some g → g ∉ m) : BuiltAt w' B b v l := by
  have hl := h.ty.lt
  obtain ⟨p, hp, hb⟩ := h.blk
  exact ⟨h.ge, ⟨p, hp, (hf.block b hl h1).trans hb⟩, h.own.off hf h2⟩
theorem BuiltAt.below {w w' : World} {B b : Nat} {v : Value} {l : List UInt8} (h : BuiltAt w B b v l) (hb : Below w.heap.size w w') : BuiltAt w' B b v l :=
  h.off (m := []) (Off.ofBelowB hb) List.not_mem_nil (fun _ _ => List.not_mem_nil)
theorem BuiltAt.mk0 (w : World) {B : Nat} (hB : B ≤ w.heap.size) : BuiltAt (w.alloc (.cells #[.pointer none, .slice none 0 0] 85)) B w.heap.size (.slice none 0 0) [] :=
  ⟨hB, ⟨_, .inl rfl, heap_alloc_new w _⟩, OwnsG.nil _ _⟩
/-- what a write leaves -/
structure Wrote2 (w w' : World) (B b : Nat) (v : Value) (l : List UInt8) : Prop where
  at_ : ∃ v', BuiltAt w' B b v' l ∧ Fresh w v v'
  off : Off (b :: v.ownBlock.toList) w w'
/-- an append of a text's bytes -/
theorem append_bytesU {w : World} {base : Nat} {v : Value} {bs : List UInt8} (s : ByteArray) (h : OwnsG kByte w base v bs) (ty : TypeId) (hb : base ≤ w.heap.size) (hn : bs.length + s.size ≤ 140737488355328) :
    ∃ v' w', (Builtin.append_ #[25, 9] ty #[v, .string s]).run Tryz.prog w = .ok v' w' ∧ OwnsG kByte w' base v' (bs ++ s.data.toList) ∧ Off v.ownBlock.toList w w' ∧ Fresh w v v' := by
  obtain ⟨i, hi, hz, hsz, hby⟩ := kByte.hi
  have h0 : w.ownsRow base 5 1 v bs.length (bs.map byteV) := by rw [← byteRow]; exact h
  have hML : bs.length + s.size ≤ maxLen := by unfold maxLen; omega
  obtain ⟨v', w', h1, h2, h3, _⟩ := Lib.run_append_own_string (P := Tryz.prog) w base 25 9 ty 5 i Tryz.underlying25 Tryz.underlying9 hi hz hsz hby v bs.length _ h0 s hML hn hb
  refine ⟨v', w', h1, ?_, grown_off h3 (fun k hk => by simp [hk]), ?_⟩
  · have hl : s.data.toList.length = s.size := by rw [Array.length_toList]; rfl
    unfold OwnsG
    rw [byteRow, List.length_append, List.map_append, hl]
    exact h2
  · have hxl : (bs.map byteV).length = bs.length * 1 := h0.1
    rcases h0.2 with ⟨rfl, h00⟩ | ⟨g, cap, cur, rfl, hbg, hg, hnc, hcm, hcs, htake⟩
    · have h0' : w.ownsRow w.heap.size 5 1 (.slice none 0 0) bs.length (bs.map byteV) := ⟨hxl, .inl ⟨rfl, h00⟩⟩
      obtain ⟨v2, w2, k1, k2, _, _⟩ := Lib.run_append_own_string (P := Tryz.prog) w w.heap.size 25 9 ty 5 i Tryz.underlying25 Tryz.underlying9 hi hz hsz hby _ bs.length _ h0' s hML hn (Nat.le_refl _)
      rw [h1] at k1
      cases k1
      intro b hbm
      right
      rcases k2.2 with ⟨rfl, _⟩ | ⟨g, cap, cur, rfl, hbg, _⟩
      · cases hbm
      · have : b = g := by simpa [Value.ownBlock] using hbm
        omega
    · by_cases hroom : bs.length + s.size ≤ cap
      · have hcs' : cur.size = cap := by simpa using hcs
        have hr := Lib.run_append_room_string (P := Tryz.prog) w 25 9 ty 5 i Tryz.underlying25 Tryz.underlying9 hi hsz g bs.length cap cur hg s hroom (by omega)
        rw [h1] at hr
        cases hr
        intro b hbm
        exact .inl hbm
      · have holds : ∀ j u, (bs.map byteV)[j]? = some u → w.cell? ((⟨g, 0, none⟩ : Addr).add j) = some u := h0.cells (g := g) rfl
        have hr := Lib.run_append_grow_string (P := Tryz.prog) w 25 9 ty 5 i (.int .u8 0) Tryz.underlying25 Tryz.underlying9 hi hz ⟨g, 0, none⟩ bs.length cap _ (by rw [hsz]; exact hxl) holds s (by omega) (by omega) (by rw [show i.bytes = 1 from hby]; exact growslice_fits (by omega) (by omega))
        rw [h1] at hr
        cases hr
        exact Fresh.of (.inr rfl)
/-- the same, an operation -/
theorem wpList_append_bytesU {w : World} {ops : Array Oper} {rest : List Oper} {o : Oper} {a : Act} {Q : Exit → Act → World → Prop} (hgd : o.guard = none) (sl x : Operand)
    (ho : o.op = .call { callee := .builtin .append, args := #[sl, x], argTypes := #[25, 9] }) {base : Nat} {v : Value} {bs : List UInt8} (s : ByteArray)
    (hs : a.eval sl = v) (hx : a.eval x = .string s) (hown : OwnsG kByte w base v bs) (hb : base ≤ w.heap.size) (hn : bs.length + s.size ≤ 140737488355328)
    (h : ∀ v' w', OwnsG kByte w' base v' (bs ++ s.data.toList) → Off v.ownBlock.toList w w' → Fresh w v v' → wpList Tryz.prog ops Q rest (a.put o.dst v') w') : wpList Tryz.prog ops Q (o :: rest) a w := by
  refine wpList_plain hgd fun K hK => ?_
  obtain ⟨v', w', hr, h2, h3, h4⟩ := append_bytesU s hown o.type hb hn
  unfold Oper.wp execOp
  simp only [ho, resolve, invoke, builtin, Sem.run_bind, Sem.run_pure, Result.andThen_ok, List.map_toArray, List.map_cons, List.map_nil, hs, hx, hr]
  exact hK _ _ (h v' w' h2 h3 h4)
set_option maxHeartbeats 2000000 in
set_option maxRecDepth 100000 in
theorem built_write {w : World} {B b : Nat} {v : Value} {l : List UInt8} (s : ByteArray) (h : BuiltAt w B b v l) (hlen : l.length + s.size ≤ 140737488355328) (hBw : B ≤ w.heap.size) :
    Calls Tryz.prog 36 #[.pointer (some ⟨b, 0, none⟩), .string s] w fun e w' => e = .returned (.tuple #[.int .i64 s.size, .nilIface]) ∧ Wrote2 w w' B b v (l ++ s.data.toList) := by
  obtain ⟨i0, hi, hz0, hz1, hz2⟩ := info_parts infoByte
  have HC : Hid (Calls Tryz.prog 57 #[.pointer (some ⟨b, 0, none⟩)] w fun e w' => e = .returned (.tuple #[]) ∧ w'.heap[b]? = some (.cells #[.pointer (some ⟨b, 0, none⟩), v] 85 (0, 0)) ∧ Off [b] w w') := Lib.hid (by
    obtain ⟨p, hp, hb⟩ := h.blk
    rcases hp with rfl | rfl
    · refine (Builder_copyCheck_fresh b w (by rw [Lib.cell_of_heap hb]; rfl) (by simp [World.shape?, hb]) (Lib.frozen_of_heap hb 0)).mono ?_
      rintro e w' ⟨rfl, rfl⟩
      refine ⟨rfl, ?_, (Off.refl [b] w).setCell _ _ (by simp)⟩
      rw [heap_setCell_same _ _ _ _ _ _ hb]
      rfl
    · refine (Builder_copyCheck_used b w (by rw [Lib.cell_of_heap hb]; rfl)).mono ?_
      rintro e w' ⟨rfl, rfl⟩
      exact ⟨rfl, hb, Off.refl _ _⟩)
  have HH := Lib.hid h
  have hnb := h.not
  have HNB := Lib.hid hnb
  clear h hnb
  go_enter Tryz.func36, Tryz.ntmps36
  go_wp2_with fail
  refine HC.out.mono ?_
  rintro e w1 ⟨rfl, hbk, ho1⟩
  have hown : OwnsG kByte w1 B v l := HH.out.own.off ho1 (fun g hg hm => HNB.out (by simp at hm; subst hm; simp [hg]))
  have HO1 := Lib.hid ho1
  have hB1 : B ≤ w1.heap.size := Nat.le_trans hBw ho1.size
  have c1 : w1.cell? ⟨b, 1, none⟩ = some v := by rw [Lib.cell_of_heap hbk]; rfl
  have hlt : b < w1.heap.size := (Array.getElem?_eq_some_iff.1 hbk).1
  have HOWN := Lib.hid hown
  have HBK := Lib.hid hbk
  clear ho1 hbk hown
  go_wp2_with (at_builtin; refine wpList_append_bytesU rfl _ _ rfl s rfl rfl HOWN.out hB1 hlen ?_)
  intro v' w2 hown' ho2 hfr
  have hnb1 : b ∉ v.ownBlock.toList := HNB.out
  have hb2 : w2.heap[b]? = some (.cells #[.pointer (some ⟨b, 0, none⟩), v] 85 (0, 0)) := (ho2.block b hlt hnb1).trans HBK.out
  have d1 : w2.cell? ⟨b, 1, none⟩ = some v := by rw [Lib.cell_of_heap hb2]; rfl
  have f1 : w2.frozen? ⟨b, 1, none⟩ = false := Lib.frozen_of_heap hb2 1
  have hT2 : TyAt w2 b 85 := ⟨_, hb2⟩
  have hvb := hT2.not hown' (by decide)
  have HW : Hid (Wrote2 w (w2.setCell ⟨b, 1, none⟩ v') B b v (l ++ s.data.toList)) := Lib.hid ⟨⟨v', ⟨HH.out.ge, ⟨_, .inr rfl, by rw [heap_setCell_same _ _ _ _ _ _ hb2]; rfl⟩, hown'.off ((Off.refl [b] w2).setCell ⟨b, 1, none⟩ v' (by simp)) (fun g hg hm => hvb (by simp at hm; subst hm; simp [hg]))⟩, fun g hg => (hfr g hg).imp id (fun h => Nat.le_trans HO1.out.size h)⟩,
    ((HO1.out.more (by simp)).trans (ho2.more (fun g hg => List.mem_cons_of_mem _ hg))).setCell ⟨b, 1, none⟩ v' (by simp)⟩
  obtain ⟨ao, cap, rfl, _⟩ := hown'.form
  rw [show (l ++ s.data.toList).length = l.length + s.size by rw [List.length_append, Array.length_toList]; rfl] at HW
  clear hb2 hT2 hvb hown' ho2 hfr hnb1
  go_wp2
  go_ret2
  exact ⟨rfl, HW.out⟩
theorem BuiltAt.is {w : World} {B b : Nat} {v : Value} {l : List UInt8} (h : BuiltAt w B b v l) : Lib.IsBuilderF 85 5 B b (Lib.byteCells l) w := by
  obtain ⟨p, hp, hb⟩ := h.blk
  have ho : w.ownsRow B 5 1 v (Lib.byteCells l).length (Lib.byteCells l) := by
    have := h.own
    unfold OwnsG at this
    rw [byteRow] at this
    rw [Lib.byteCells_length]
    exact this
  have hne : v.ownBlock ≠ some b := fun e => h.not (by simp [e])
  refine Lib.IsBuilderF.of ?_
  rcases hp with rfl | rfl
  · exact .inl ⟨h.ge, v, hb, ho, hne⟩
  · exact .inr ⟨h.ge, v, hb, ho, hne⟩
theorem built_string {w : World} {B b : Nat} {v : Value} {l : List UInt8} (h : BuiltAt w B b v l) (hB : B ≤ w.heap.size) :
    Calls Tryz.prog 38 #[.pointer (some ⟨b, 0, none⟩)] w fun e w' => e = .returned (.string ⟨l.toArray⟩) ∧ Below B w w' ∧ Lib.OthersKept 5 (some b) w w' := by
  refine (Tryz.Builder_String_any_k B b l w h.is hB).mono ?_
  rintro e w' ⟨rfl, _, h2, h3⟩
  exact ⟨rfl, h2, h3⟩
end Go.Proofs.YtnhlnhmjnnopaaaGreatDoor

/- A bundle that is put together in a box of one's own, beside other things that are written. -/
namespace Go.Proofs.YtnhlnhmjnnopaaaGreatDoor
open Go.RowKit

/-- blocks of a box, and others -/
def SoftB (W : World) (m : List Nat) : Prop := ∀ k ∈ m, TyAt W k 24 ∨ TyAt W k 50
def HardB (W : World) (m : List Nat) : Prop := ∀ k ∈ m, ∃ t, TyAt W k t ∧ t ≠ 24 ∧ t ≠ 50
theorem TyAt.softB {w : World} {b : Nat} {t : TypeId} {m : List Nat} (h : TyAt w b t) (hm : SoftB w m) (h1 : t ≠ 24) (h2 : t ≠ 50) : b ∉ m := by
  intro hb
  rcases hm b hb with k | k
  · exact h.ne k h1 rfl
  · exact h.ne k h2 rfl
theorem TyAt.hardB {w : World} {b : Nat} {t : TypeId} {m : List Nat} (h : TyAt w b t) (hm : HardB w m) (ht : t = 24 ∨ t = 50) : b ∉ m := by
  intro hb
  obtain ⟨t', k, h1, h2⟩ := hm b hb
  rcases ht with rfl | rfl
  · exact h.ne k (fun e => h1 e.symm) rfl
  · exact h.ne k (fun e => h2 e.symm) rfl
theorem HardB.nil (W : World) : HardB W [] := fun _ h => absurd h List.not_mem_nil
structure BoxAt (W : World) (base pb : Nat) (tg : ByteArray) (acc : List EntC) : Prop where
  box : ∃ v, W.cell? ⟨pb, 1, none⟩ = some v ∧ OwnsG kEnt W base v acc
  c0 : W.cell? ⟨pb, 0, none⟩ = some (.string tg)
  ty : TyAt W pb 24
  ge : base ≤ pb
theorem BoxAt.off {W W' : World} {base pb : Nat} {tg : ByteArray} {acc : List EntC} {m : List Nat} (h : BoxAt W base pb tg acc) (hf : Off m W W') (hm : HardB W m) : BoxAt W' base pb tg acc := by
  have n1 := h.ty.hardB hm (.inl rfl)
  obtain ⟨v, h1, h2⟩ := h.box
  exact ⟨⟨v, hf.cell h1 n1, h2.off hf (fun g hg => (h2.ty g (by simp [hg])).hardB hm (.inr rfl))⟩, hf.cell h.c0 n1, h.ty.off hf n1, h.ge⟩
theorem BoxAt.below {W W' : World} {base pb : Nat} {tg : ByteArray} {acc : List EntC} (h : BoxAt W base pb tg acc) (hb : Below W.heap.size W W') : BoxAt W' base pb tg acc := h.off (m := []) (Off.ofBelowB hb) (HardB.nil W)
/-- its tag is told -/
theorem BoxAt.tag {W : World} {base pb : Nat} {tg : ByteArray} {acc : List EntC} (h : BoxAt W base pb tg acc) (u : ByteArray) : BoxAt (W.setCell ⟨pb, 0, none⟩ (.string u)) base pb u acc := by
  obtain ⟨v, h1, h2⟩ := h.box
  refine ⟨⟨v, cell_other h1 (by simp), h2.off ((Off.refl [pb] W).setCell _ _ (by simp)) (fun g hg hm => ?_)⟩, cell_same h.c0, h.ty.set _ _ _, h.ge⟩
  simp only [List.mem_singleton] at hm
  subst hm
  exact h.ty.not h2 (by decide) (by simp [hg])
/-- one entry more -/
theorem BoxAt.more {Wa w8 : World} {base pb : Nat} {tg : ByteArray} {acc : List EntC} {x : EntC} {v v' : Value} (h : BoxAt Wa base pb tg acc) (hc : Wa.cell? ⟨pb, 1, none⟩ = some v) (hO : OwnsG kEnt Wa base v acc)
    (h8 : OwnsG kEnt w8 base v' (acc ++ [x])) (hF : Off v.ownBlock.toList Wa w8) :
    w8.cell? ⟨pb, 1, none⟩ = some v ∧ w8.frozen? ⟨pb, 1, none⟩ = false ∧ BoxAt (w8.setCell ⟨pb, 1, none⟩ v') base pb tg (acc ++ [x]) ∧ Off (pb :: v.ownBlock.toList) Wa (w8.setCell ⟨pb, 1, none⟩ v') ∧ SoftB Wa (pb :: v.ownBlock.toList) := by
  have n1 : pb ∉ v.ownBlock.toList := h.ty.not hO (by decide)
  have hT8 : TyAt w8 pb 24 := h.ty.off hF n1
  have c8 := hF.cell hc n1
  have c80 := hF.cell h.c0 n1
  have hn : pb ∉ v'.ownBlock.toList := hT8.not h8 (by decide)
  have hf8 : Off [pb] w8 (w8.setCell ⟨pb, 1, none⟩ v') := (Off.refl [pb] w8).setCell _ _ (by simp)
  refine ⟨c8, hT8.frozen 1, ⟨⟨v', cell_same c8, h8.off hf8 (fun g hg hm => ?_)⟩, cell_other c80 (by simp), hT8.set _ _ _, h.ge⟩, (hF.more (fun k hk => List.mem_cons_of_mem _ hk)).trans (hf8.more (fun k hk => by simp at hk; simp [hk])), fun k hk => ?_⟩
  · simp only [List.mem_singleton] at hm
    subst hm
    exact hn (by simp [hg])
  · rcases List.mem_cons.1 hk with rfl | hk
    · exact .inl h.ty
    · exact .inr (hO.ty k hk)
theorem BoxAt.new (W : World) {base : Nat} (hb : base ≤ W.heap.size) : BoxAt (W.alloc (.cells #[.string ⟨#[]⟩, .slice none 0 0] 24)) base W.heap.size ⟨#[]⟩ [] := by
  have h := heap_alloc_new W (.cells #[.string ⟨#[]⟩, .slice none 0 0] 24)
  exact ⟨⟨_, by rw [cell_of_row _ _ _ _ _ _ h]; rfl, OwnsG.nil _ _⟩, by rw [cell_of_row _ _ _ _ _ _ h]; rfl, ⟨_, h⟩, hb⟩
theorem BuiltAt.offB {w w' : World} {B b : Nat} {v : Value} {l : List UInt8} {m : List Nat} (h : BuiltAt w B b v l) (hf : Off m w w') (hm : SoftB w m) : BuiltAt w' B b v l :=
  h.off hf (h.ty.softB hm (by decide) (by decide)) (fun g hg => (h.own.ty g (by simp [hg])).softB hm (by decide) (by decide))
theorem BuiltAt.hard {w : World} {B b : Nat} {v : Value} {l : List UInt8} (h : BuiltAt w B b v l) : HardB w (b :: v.ownBlock.toList) := fun k hk => by
  rcases List.mem_cons.1 hk with rfl | hk
  · exact ⟨_, h.ty, by decide, by decide⟩
  · exact ⟨_, h.own.ty k hk, by decide, by decide⟩
theorem BuiltAt.ges {w : World} {B b : Nat} {v : Value} {l : List UInt8} (h : BuiltAt w B b v l) : ∀ k ∈ b :: v.ownBlock.toList, B ≤ k := fun k hk => by
  rcases List.mem_cons.1 hk with rfl | hk
  · exact h.ge
  · exact (h.own.block k hk).1
end Go.Proofs.YtnhlnhmjnnopaaaGreatDoor
