/- store: Kept. -/
import Derived.Test.YtkklemhhimcahaaDoorStorePin
import Derived.Shelf.SlIterI.Keys
import Derived.Shelf.SlIterI.Sorted
import Derived.Shelf.SortM.Plain
import Derived.Shelf.SortM.SortNone
import Derived.TacticsInMore
namespace Go.Proofs.YtkklemhhimcahaaDoor
open Go.RowKit Go.Maps Go.Sort Go.Shelf Go.Lib
variable {w w' : World} {B sb mb N : Nat} {S : List Nat} {vb hd : Nat → Nat}

theorem sorts_int (m : Nat) : AnyZI.SortsIn Tryd.prog Tryd.sortedI_ren Fence.wide m :=
  ⟨fun blk off cap ss W hH hblk hsz => callsIn_wide.2 (AnyM.slices_Sort_int Tryd.sortI blk off cap ss W hH hblk hsz),
   fun p cap W => callsIn_wide.2 (AnyM.slices_Sort_int_none Tryd.sortI p cap W)⟩

theorem keys_len (es : List (Lit × SD)) : (intKeys (.map es : SD)).length = es.length := by simp [intKeys]
theorem row_slice {W : World} {base E sz : Nat} {v : Value} {n : Nat} {xs : List Value} (h : W.ownsRow base E sz v n xs) : ∃ A c, v = .slice A n c := by
  rcases h.2 with ⟨h1, h2⟩ | ⟨g, cap, cur, h1, _⟩
  · exact ⟨none, 0, by rw [h1, h2]⟩
  · exact ⟨_, _, h1⟩

set_option maxHeartbeats 2000000 in
theorem store_kept (w : World) (h : StoreAt w B sb mb N S vb hd) :
    Calls Tryd.prog 16 #[.pointer (some ⟨sb, 0, none⟩)] w fun e w' => (∃ A c, e = .returned (.slice A S.length c)) ∧ Below w.heap.size w w' := by
  refine (callsIn_wide (n := 6)).1 ?_
  obtain ⟨es, hown, hE⟩ := h.own
  have c1 := h.c1
  have hbl := hown.lt
  obtain ⟨es2, e2, hap⟩ := World.ownsMap.tidy hown (int_keyed Tryd.underlying3)
  injection e2 with e2
  subst e2
  have hsz : Maps.size (.map es : SD) = S.length := hE.size hap h.nd
  have hlen : es.length = S.length := hE.size hap h.nd
  have hS20 : S.length ≤ 20 := by
    have := World.ownsMap.size_le hown
    rw [hsz] at this
    have := h.few
    omega
  have hseq : SeqGives Fence.wide 2 Tryd.prog 57 #[.pointer (some ⟨w.heap.size, 0, none⟩)] encZ (fun ss => ss.Perm (intKeys (.map es : SD))) (Maps.size (.map es : SD)) (w.alloc (.cells #[.map (some mb)] 80)) :=
    AnyZI.keys_gives (ρ := Tryd.keysV_ren) { Tryd.keysV with } Fence.wide _ trivial rfl (by omega) w.heap.size mb N (.map es) _ (by simp) (by simp) (owns_block hown (Below.heap_alloc _ _ mb hbl))
  have cK : ∀ mb W, CallsIn Fence.wide 5 Tryd.prog 37 #[.map mb] W fun e w' => e = .returned (.func (.func 57) #[] #[.pointer (some ⟨W.heap.size, 0, none⟩)]) ∧ w' = W.alloc (.cells #[.map mb] 80) := fun mb W => AnyZI.keys_in Tryd.keysV Fence.wide 5 trivial rfl mb W
  have cS := AnyZI.sorted_in Tryd.sortedI Fence.wide 5 trivial trivial trivial trivial rfl (by omega) (sorts_int _) (enters_of Tryd.func56 (by kernel_rfl) rfl) 57 #[.pointer (some ⟨w.heap.size, 0, none⟩)] trivial (enters_of Tryd.func57 (by kernel_rfl) rfl) _ _ (by rw [hsz]; unfold maxLen; omega) (by rw [hsz]; omega) _ hseq
  change CallsIn _ _ Tryd.prog 36 _ _ _ at cS
  have HCS := Lib.hid cS
  have HSZ := Lib.hid hlen
  have hfK : Fence.wide.fn 37 := trivial
  have hfS : Fence.wide.fn 36 := trivial
  clear hseq cS hsz hlen h hown hE hap
  refine callsIn_of_wp Tryd.func16 rfl trivial ?_ rfl
  simp only [Tryd.ntmps16, List.size_toArray, List.length_cons, List.length_nil, Nat.reduceAdd, Nat.reduceSub, Array.replicate_succ, Array.replicate_zero, List.push_toArray, List.append_toArray, List.nil_append, List.cons_append]
  gi_wp2_with (first
    | (gi_at_call 37; refine (cK _ _).mono ?_; rintro e w' ⟨rfl, rfl⟩)
    | (gi_at_call 36; refine HCS.out.mono ?_; rintro e w' ⟨v, ss, rfl, hS, hrow, hnil, hb⟩))
  go_ret
  obtain ⟨A, c, rfl⟩ := row_slice hrow
  have hl : ss.length = S.length := by rw [hS.length_eq, keys_len, HSZ.out]
  exact ⟨⟨A, c, by rw [← hl]; rfl⟩, ((Below.refl _ w).alloc (Nat.le_refl _) _).trans (hb.mono (by simp))⟩
end Go.Proofs.YtkklemhhimcahaaDoor
