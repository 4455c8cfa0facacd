/- strings.SplitSeq: the iterator's walk. -/
import Derived.Test.YtkklemhhimcahaaGreatDoorOff
import Derived.Test.YtkklemhhimcahaaGreatDoorShelf
import Derived.RangeFuncNested
import Derived.RangeFuncBound
import Derived.RangeFuncCalls
import Derived.RangeFuncLeaves
import Derived.Shelf.Abstract
import Derived.Shelf.RegionOpen
import Derived.OwnWalkIn
import Derived.TacticsInMore
import Derived.LoopNIn
import Derived.LoopIn
import Derived.Lib.Split
namespace Go.Proofs.YtkklemhhimcahaaGreatDoor
open Go.RowKit Go.Shelf
attribute [local go_sem] Oper.semAt_some

def MaxL (w : World) : Prop := ∃ m : Int, w.cell? ⟨5, 0, none⟩ = some (.int .i64 m)

/-- all pieces of a text -/
def pieces (sep s : ByteArray) : List ByteArray := Lib.splitB sep 0 s.size s
theorem splitB_fuel (sep : ByteArray) (hsep : 0 < sep.size) : ∀ (k : Nat) (s : ByteArray), s.size ≤ k → Lib.splitB sep 0 k s = Lib.splitB sep 0 s.size s := by
  intro k
  induction k using Nat.strongRecOn with
  | ind k ih =>
    intro s hk
    rcases Nat.eq_or_lt_of_le hk with rfl | hlt
    · rfl
    · obtain ⟨k, rfl⟩ : ∃ m, k = m + 1 := ⟨k - 1, by omega⟩
      by_cases hm : Lib.indexB s sep = -1
      · rw [Lib.splitB_miss _ _ _ _ hm, Lib.splitB_miss _ _ _ _ hm]
      · have hr := Lib.index_room s.data.toList sep.data.toList (by
          rcases Lib.index_spec s.data.toList sep.data.toList with ⟨h, _⟩ | ⟨i, h, _⟩
          · exact absurd h hm
          · omega)
        obtain ⟨i, hi⟩ : ∃ i : Nat, Lib.indexB s sep = i := by
          rcases Lib.index_spec s.data.toList sep.data.toList with ⟨h, _⟩ | ⟨i, h, _⟩
          · exact absurd h hm
          · exact ⟨i, h⟩
        have hi' : Lib.index s.data.toList sep.data.toList = (i : Int) := hi
        have hl : s.data.toList.length = s.size := by simp
        have hl2 : sep.data.toList.length = sep.size := by simp
        rw [hi', hl, hl2] at hr
        obtain ⟨m, hmm⟩ : ∃ m, s.size = m + 1 := ⟨s.size - 1, by omega⟩
        rw [Lib.splitB_hit _ _ _ _ _ hi, hmm, Lib.splitB_hit _ _ _ _ _ hi, ← hmm]
        have hes : (s.extract (i + sep.size) s.size).size = s.size - (i + sep.size) := by simp
        rw [ih k (by omega) _ (by rw [hes]; omega), ih m (by omega) _ (by rw [hes]; omega)]
theorem index_cases (s sep : ByteArray) (hsep : 0 < sep.size) : Lib.index s.data.toList sep.data.toList = -1 ∧ pieces sep s = [s] ∨
    ∃ i : Nat, Lib.index s.data.toList sep.data.toList = i ∧ i + sep.size ≤ s.size ∧ pieces sep s = s.extract 0 i :: pieces sep (s.extract (i + sep.size) s.size) := by
  rcases Lib.index_spec s.data.toList sep.data.toList with ⟨h, _⟩ | ⟨i, h, _⟩
  · exact .inl ⟨h, Lib.splitB_miss _ _ _ _ h⟩
  · right
    have hr := Lib.index_room s.data.toList sep.data.toList (by omega)
    have hl : s.data.toList.length = s.size := by simp
    have hl2 : sep.data.toList.length = sep.size := by simp
    rw [h, hl, hl2] at hr
    refine ⟨i, h, by omega, ?_⟩
    obtain ⟨m, hm⟩ : ∃ m, s.size = m + 1 := ⟨s.size - 1, by omega⟩
    have hes : (s.extract (i + sep.size) s.size).size = s.size - (i + sep.size) := by simp
    unfold pieces
    conv => lhs; rw [hm]
    rw [Lib.splitB_hit sep 0 m s i h, splitB_fuel sep hsep m _ (by rw [hes]; omega)]
    rfl
theorem pieces_size (sep : ByteArray) (hsep : 0 < sep.size) : ∀ (n : Nat) (s : ByteArray), s.size = n → ∀ x ∈ pieces sep s, x.size ≤ s.size := by
  intro n
  induction n using Nat.strongRecOn with
  | ind n ih =>
    intro s hs x hx
    rcases index_cases s sep hsep with ⟨_, h⟩ | ⟨i, _, hr, h⟩
    · rw [h] at hx
      simp at hx
      rw [hx]
      exact Nat.le_refl _
    · rw [h] at hx
      have hes : (s.extract (i + sep.size) s.size).size = s.size - (i + sep.size) := by simp
      rcases List.mem_cons.1 hx with rfl | hx
      · simp
        omega
      · have := ih _ (by rw [hes]; omega) _ rfl x hx
        omega
theorem pieces_len (sep : ByteArray) (hsep : 0 < sep.size) : ∀ (n : Nat) (s : ByteArray), s.size = n → (pieces sep s).length ≤ s.size + 1 := by
  intro n
  induction n using Nat.strongRecOn with
  | ind n ih =>
    intro s hs
    rcases index_cases s sep hsep with ⟨_, h⟩ | ⟨i, _, hr, h⟩
    · rw [h]
      simp
    · rw [h]
      have hes : (s.extract (i + sep.size) s.size).size = s.size - (i + sep.size) := by simp
      have := ih _ (by rw [hes]; omega) _ rfl
      rw [List.length_cons]
      omega

/-- the rest that the iterator still holds, read off the world -/
def restAt (bs : Nat) (W : World) : Nat := match W.cell? ⟨bs, 0, none⟩ with | some (.string r) => r.size | _ => 0
theorem restAt_eq {bs : Nat} {W : World} {t : TypeId} {r : ByteArray} (h : Boxed W bs t (.string r)) : restAt bs W = r.size := by
  unfold restAt
  rw [h.cell]

/-- The three boxes of the iterator. -/
structure Boxes (W : World) (bs : Nat) (sep : ByteArray) : Prop where
  sep : Boxed W (bs + 1) 9 (.string sep)
  save : Boxed W (bs + 2) 3 (.int .i64 0)

set_option maxRecDepth 100000 in
set_option maxHeartbeats 2000000 in
theorem split_iter (n l bs : Nat) (hn : 1 ≤ n) (sep s : ByteArray) (hsep : 0 < sep.size) (hs : s.size < 4294967281) (hs2 : sep.size ≤ 100) (J : List ByteArray → World → Prop)
    (hJ : ∀ pre W u, J pre W → J pre (W.setCell ⟨bs, 0, none⟩ u)) (hJb : ∀ pre W, J pre W → MaxL W ∧ Boxes W bs sep)
    (hY : ∀ pre x post r W, pieces sep s = pre ++ x :: post → J pre W → Boxed W bs 9 (.string r) → YieldAt Fence.wide (n - 1) Tryz.prog l #[.string x] W fun e W' => e = .returned (.bool true) ∧ J (pre ++ [x]) W' ∧ Boxed W' bs 9 (.string r))
    (W : World) (hb : Boxed W bs 9 (.string s)) (h0 : J [] W) :
    CallsIn Fence.wide n Tryz.prog 78 #[.func (.yield l) #[] #[], .pointer (some ⟨bs + 1, 0, none⟩), .pointer (some ⟨bs, 0, none⟩), .pointer (some ⟨bs + 2, 0, none⟩)] W fun e W' => (∃ v, e = .returned v) ∧ J (pieces sep s) W' := by
  have HJ := Lib.hid hJ
  have HJB := Lib.hid hJb
  have HY := Lib.hid hY
  have HB0 := Lib.hid hb
  have H0 := Lib.hid h0
  have cs0 := hb.cell
  have cp0 := (hJb _ _ h0).2.sep.cell
  have p0 : ((sep.size : Int) == 0) = false := by rw [beq_eq_false_iff_ne]; omega
  clear hJ hJb hY hb h0
  refine callsIn_of_wp Tryz.func78 rfl trivial ?_ rfl
  simp only [Tryz.ntmps78, List.size_toArray, List.length_cons, List.length_nil, Nat.reduceAdd, Nat.reduceSub, Array.replicate_succ, Array.replicate_zero, List.push_toArray, List.append_toArray, List.nil_append, List.cons_append]
  gi_wp2
  gi_loopw [7] (fun _ wr => ∃ (pre : List ByteArray) (r : ByteArray), Hid (pieces sep s = pre ++ pieces sep r) ∧ r.size ≤ s.size ∧ Hid (Boxed wr bs 9 (.string r)) ∧ Hid (J pre wr)) (fun _ wr => restAt bs wr)
  case atStart => exact ⟨[], s, Lib.hid rfl, Nat.le_refl _, HB0, H0⟩
  case round =>
    clear cs0 cp0 HB0 H0
    obtain ⟨pre, r, HP, hr, HB, HK⟩ := hrel
    have cs := HB.out.cell
    have fs := HB.out.frozen
    have hjb := HJB.out _ _ HK.out
    have cp := hjb.2.sep.cell
    have cv := hjb.2.save.cell
    obtain ⟨m, hm⟩ := hjb.1
    have KI := Tryz.strings_Index r sep m wr (by omega) hm
    clear hjb hm
    rcases index_cases r sep hsep with ⟨hi, hp⟩ | ⟨i, hi, hri, hp⟩
    · rw [hi] at KI
      have HI := Lib.hid KI
      obtain ⟨fn, tmps, assign, body, hy, hR⟩ := HY.out pre r [] r wr (by rw [HP.out, hp]) HK.out HB.out
      have hfin : Hid (pieces sep s = pre ++ [r]) := Lib.hid (by rw [HP.out, hp])
      clear KI hi hp HY
      gi_wp2
      refine ⟨trivial, (callsIn_wide.2 HI.out).mono ?_⟩
      rintro e w' ⟨rfl, rfl⟩
      clear HI cv
      gi_wp2
      refine hR.mono ?_
      rintro e W3 ⟨rfl, hJ3, hB3⟩
      gi_wp2
      go_end0
      exact ⟨⟨_, rfl⟩, by rw [hfin.out]; exact hJ3⟩
    · rw [hi] at KI
      have HI := Lib.hid KI
      obtain ⟨fn, tmps, assign, body, hy, hR⟩ := HY.out pre (r.extract 0 i) (pieces sep (r.extract (i + sep.size) r.size)) r wr (by rw [HP.out, hp]) HK.out HB.out
      have HP2 : Hid (pieces sep s = (pre ++ [r.extract 0 i]) ++ pieces sep (r.extract (i + sep.size) r.size)) := Lib.hid (by rw [HP.out, hp]; simp)
      have hes : (r.extract (i + sep.size) r.size).size ≤ r.size - (i + sep.size) := by simp
      have i0 : (0 : Int) ≤ (i : Int) := by omega
      have i1 : (i : Int) ≤ (r.size : Int) := by omega
      have i2 : (i : Int) + (sep.size : Int) ≤ (r.size : Int) := by omega
      have e1 : IntKind.i64.wrap ((i : Int) + (sep.size : Int)) = (i : Int) + (sep.size : Int) := IntWalk.i64_in _ (by omega)
      have e2 : ((i : Int) + (sep.size : Int)).toNat = i + sep.size := by omega
      clear KI hi hp
      gi_wp2
      refine ⟨trivial, (callsIn_wide.2 HI.out).mono ?_⟩
      rintro e w' ⟨rfl, rfl⟩
      clear HI
      gi_wp2
      refine hR.mono ?_
      rintro e W3 ⟨rfl, hJ3, hB3⟩
      clear cs fs cp cv
      have cs := hB3.cell
      have fs := hB3.frozen
      have cp := (HJB.out _ _ hJ3).2.sep.cell
      have HB4 := Lib.hid (hB3.set (.string (r.extract (i + sep.size) r.size)))
      have HJ4 := Lib.hid (HJ.out _ _ (.string (r.extract (i + sep.size) r.size)) hJ3)
      have hm1 : restAt bs (W3.setCell ⟨bs, 0, none⟩ (.string (r.extract (i + sep.size) r.size))) < restAt bs w' := by
        rw [restAt_eq HB4.out, restAt_eq HB.out]
        omega
      have HM := Lib.hid hm1
      clear hJ3 hB3 hm1
      gi_wp2
      go_roundw
      case rel => exact ⟨_, _, HP2, by omega, HB4, HJ4⟩
      case measure => exact HM.out
end Go.Proofs.YtkklemhhimcahaaGreatDoor
