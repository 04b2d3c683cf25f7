/-
  The walk of disk.New.
-/
import Derived.Test.YtjhnkpohdlilpaaCrash
import Derived.Test.YtjhnkpohdlilpaaFlush
import Derived.Test.YtjhnkpohdlilpaaWrite
import Derived.Test.YtjhnkpohdlilpaaAppendPend
import Derived.Deep.AppendLies
import Derived.Great.BuildSlice
import Derived.Test.YtjhnkpohdlilpaaDiskLem
import Derived.Test.YtjhnkpohdlilpaaRead
import Derived.Test.YtjhnkpohdlilpaaOut
import Derived.Test.YtjhnkpohdlilpaaDiskSmall
import Derived.Test.YtjhnkpohdlilpaaDisk
import Derived.Test.YtjhnkpohdlilpaaAtom
import Derived.Test.YtjhnkpohdlilpaaDecode
import Derived.Test.YtjhnkpohdlilpaaEncode
import Derived.Test.YtjhnkpohdlilpaaTake
import Derived.Test.YtjhnkpohdlilpaaCopy
import Derived.Laws.CopyOwn
import Derived.Deep.OwnRows
import Derived.Deep.MidRow
import Derived.Test.YtjhnkpohdlilpaaPut
import Derived.Test.YtjhnkpohdlilpaaRows
import Derived.Test.YtjhnkpohdlilpaaWords
import Derived.Test.YtjhnkpohdlilpaaMem
import Derived.Test.YtjhnkpohdlilpaaTail
import Derived.Test.YtjhnkpohdlilpaaCrc
import Derived.Test.YtjhnkpohdlilpaaArr
import Derived.RangeFuncNested
import Derived.RangeFuncBound
import Derived.RangeFuncCalls
import Derived.RangeFuncLeaves
import Derived.Shelf.Abstract
import Derived.Shelf.RegionOpen
import Derived.WalkKit
import Derived.OwnWalkIn
import Derived.TacticsInMore
import Derived.LoopNIn
import Derived.LoopIn
import Derived.WalkSpells
import Derived.WalkLawsBesides
import Derived.Lib.Hide
import Derived.BigQuiet
import Derived.Outline
import Derived.Deep.DeepFit
namespace Go.Proofs.Ytjhnkpohdlilpaa
open Go.RowKit Go.Shelf
attribute [local go_sem] Oper.semAt_some
theorem info81f : (Try.prog.info? 81).map (fun i => (i.zero, i.size, i.bytes)) = some (some (.agg (bArr (fun _ => 0) 64)), 64, 64) := by kernel_rfl
theorem make58 (n : Nat) (h : n ≤ 4096) (w : World) : (Instr.makeSlice 58 (.int .i64 n) (.int .i64 n)).run Try.prog w = .ok (.slice (some ⟨w.heap.size, 0, none⟩) n n) (w.alloc (.cells (bArr (fun _ => 0) (64 * n)) 81)) := by
  obtain ⟨i, hi, hzz⟩ := Option.map_eq_some_iff.1 info81f
  simp only [Prod.mk.injEq] at hzz
  obtain ⟨hz, hs, hb⟩ := hzz
  have hr := run_make (P := Try.prog) w 58 81 i _ Try.underlying58 hi hz .i64 .i64 n n (by omega) (Int.le_refl _) (by rw [hb]; omega) (by omega)
  simp only [Int.toNat_natCast, hs] at hr
  rw [hr]
  have e : madeCells (Value.agg (bArr (fun _ => 0) 64)).cells (n * 64) = bArr (fun _ => 0) (64 * n) := by
    show madeCells (bArr (fun _ => 0) 64) (n * 64) = _
    unfold madeCells
    refine arr_ext (by simp [bArr_size]; omega) fun j hj => ?_
    simp at hj
    rw [bArr_get _ _ _ (by omega)]
    have hm : j % 64 < 64 := Nat.mod_lt _ (by omega)
    have hs : (bArr (fun _ => 0) 64).size = 64 := bArr_size _ _
    rw [Array.getElem?_map, Array.getElem?_range, if_pos (by omega), Option.map_some, hs]
    have := bArr_get (fun _ => 0) 64 (j % 64) hm
    rw [getElem!_def, this]
  rw [e]
theorem new_bad (n : Int) (w : World) (h : n < 1 ∨ 4096 < n) : Calls Try.prog 9 #[.int .i64 n] w fun e w' => e = .returned (.tuple #[.pointer none, .int .i64 1]) ∧ w' = w := by
  rcases h with h | h
  · go_enter Try.func9, Try.ntmps9
    go_wp2
    go_ret2
    exact ⟨rfl, rfl⟩
  · have e1 : ¬ n < 1 := by omega
    go_enter Try.func9, Try.ntmps9
    go_wp2
    go_ret2
    exact ⟨rfl, rfl⟩
theorem flat_zero (n : Nat) : bArr (flat (fun _ _ => 0)) n = bArr (fun _ => 0) n := rfl
def DM.new (n : Nat) : DM := { n := n, now := fun _ _ => 0, las := fun _ _ => 0, pend := [], down := false, left := -1 }
theorem new_blocks (w : World) (A B C : Array Value) : Blk (((w.alloc (.cells A 81)).alloc (.cells B 81)).alloc (.cells C 66)).drew w.heap.size 81 A ∧ Blk (((w.alloc (.cells A 81)).alloc (.cells B 81)).alloc (.cells C 66)).drew (w.heap.size + 1) 81 B ∧ Blk (((w.alloc (.cells A 81)).alloc (.cells B 81)).alloc (.cells C 66)).drew (w.heap.size + 1 + 1) 66 C ∧
    Ch (fun _ => False) w (((w.alloc (.cells A 81)).alloc (.cells B 81)).alloc (.cells C 66)).drew := by
  refine ⟨(((Blk.new w 81 A).alloc _).alloc _).drew, ?_, ?_, ((((Ch.refl _ w).alloc _).alloc _).alloc _).drew⟩
  · have := ((Blk.new (w.alloc (.cells A 81)) 81 B).alloc (.cells C 66)).drew
    rwa [World.size_alloc] at this
  · have := (Blk.new ((w.alloc (.cells A 81)).alloc (.cells B 81)) 66 C).drew
    rwa [World.size_alloc, World.size_alloc] at this
theorem new_shut {w w1 : World} {n D N L : Nat} (h1 : 1 ≤ n) (h2 : n ≤ 4096) (hD : Blk w1 D 66 #[.slice (some ⟨N, 0, none⟩) n n, .slice (some ⟨L, 0, none⟩) n n, .slice none 0 0, .bool false, .int .i64 (-1)]) (hN : Blk w1 N 81 (bArr (fun _ => 0) (64 * n))) (hL : Blk w1 L 81 (bArr (fun _ => 0) (64 * n)))
    (hDN : D ≠ N) (hDL : D ≠ L) (hNL : N ≠ L) (hc : Ch (fun _ => False) w w1) (hb : w.heap.size ≤ D ∧ w.heap.size ≤ N ∧ w.heap.size ≤ L) :
    DiskAt w1 (fpt D N L (.slice none 0 0)) D (DM.new n) ∧ Ch (fun _ => False) w w1 ∧ ∀ k, fpt D N L (.slice none 0 0) k → w.heap.size ≤ k := by
  refine ⟨⟨N, L, .slice none 0 0, ⟨hD, hN, hL, World.ownsRow_nil _ _ _ _, hDN, hDL, hNL, fun _ e => (by cases e), h1, h2, fun _ e => (by cases e), (by show (-1 : Int) ≤ -1; omega), (by show (-1 : Int) ≤ 9223372036854775807; omega)⟩, rfl⟩, hc, ?_⟩
  rintro k (rfl | rfl | rfl | hk)
  · exact hb.1
  · exact hb.2.1
  · exact hb.2.2
  · cases hk
set_option maxRecDepth 100000 in
set_option maxHeartbeats 1000000 in
theorem new_ok (n : Nat) (w : World) (h1 : 1 ≤ n) (h2 : n ≤ 4096) : Calls Try.prog 9 #[.int .i64 n] w fun e w' => ∃ D F, e = .returned (.tuple #[.pointer (some ⟨D, 0, none⟩), .int .i64 0]) ∧ DiskAt w' F D (DM.new n) ∧ Ch (fun _ => False) w w' ∧ (∀ k, F k → w.heap.size ≤ k) := by
  have g1 : ¬ (n : Int) < 1 := by omega
  have g2 : ¬ 4096 < (n : Int) := by omega
  have mk := make58 n h2
  go_enter Try.func9, Try.ntmps9
  go_wp2_with fail
  go_region
  · go_wp2_with fail
    obtain ⟨hA, hB, hD, hc⟩ := new_blocks w (bArr (fun _ => 0) (64 * n)) (bArr (fun _ => 0) (64 * n)) #[.slice (some ⟨w.heap.size, 0, none⟩) n n, .slice (some ⟨w.heap.size + 1, 0, none⟩) n n, .slice none 0 0, .bool false, .int .i64 0]
    refine (astore_any (w.heap.size + 1 + 1) 4 0 (-1) _ (hD.cell rfl) (hD.free 4)).mono ?_
    rintro e w3 ⟨rfl, rfl⟩
    obtain ⟨hA, hB, hD, hc⟩ := new_blocks w (bArr (fun _ => 0) (64 * n)) (bArr (fun _ => 0) (64 * n)) #[.slice (some ⟨w.heap.size, 0, none⟩) n n, .slice (some ⟨w.heap.size + 1, 0, none⟩) n n, .slice none 0 0, .bool false, .int .i64 (-1)]
    have hfin := new_shut h1 h2 hD hA hB (by omega) (by omega) (by omega) hc ⟨by omega, by omega, by omega⟩
    have HF := Lib.hid hfin
    clear hfin hA hB hD hc mk
    go_wp2_with fail
    go_ret2
    exact ⟨_, _, rfl, HF.out.1, HF.out.2.1, HF.out.2.2⟩
  · go_wp2_with fail
    obtain ⟨hA, hB, hD, hc⟩ := new_blocks w (bArr (fun _ => 0) (64 * n)) (bArr (fun _ => 0) (64 * n)) #[.slice (some ⟨w.heap.size + 1, 0, none⟩) n n, .slice (some ⟨w.heap.size, 0, none⟩) n n, .slice none 0 0, .bool false, .int .i64 0]
    refine (astore_any (w.heap.size + 1 + 1) 4 0 (-1) _ (hD.cell rfl) (hD.free 4)).mono ?_
    rintro e w3 ⟨rfl, rfl⟩
    obtain ⟨hA, hB, hD, hc⟩ := new_blocks w (bArr (fun _ => 0) (64 * n)) (bArr (fun _ => 0) (64 * n)) #[.slice (some ⟨w.heap.size + 1, 0, none⟩) n n, .slice (some ⟨w.heap.size, 0, none⟩) n n, .slice none 0 0, .bool false, .int .i64 (-1)]
    have hfin := new_shut h1 h2 hD hB hA (by omega) (by omega) (by omega) hc ⟨by omega, by omega, by omega⟩
    have HF := Lib.hid hfin
    clear hfin hA hB hD hc mk
    go_wp2_with fail
    go_ret2
    exact ⟨_, _, rfl, HF.out.1, HF.out.2.1, HF.out.2.2⟩
theorem new_any (n : Int) (w : World) : Calls Try.prog 9 #[.int .i64 n] w fun e w' => ((n < 1 ∨ 4096 < n) ∧ e = .returned (.tuple #[.pointer none, .int .i64 1]) ∧ w' = w) ∨
    (1 ≤ n ∧ n ≤ 4096 ∧ ∃ D F, e = .returned (.tuple #[.pointer (some ⟨D, 0, none⟩), .int .i64 0]) ∧ DiskAt w' F D (DM.new n.toNat) ∧ Ch (fun _ => False) w w' ∧ (∀ k, F k → w.heap.size ≤ k)) := by
  by_cases h : n < 1 ∨ 4096 < n
  · exact (new_bad n w h).mono fun e w' hh => .inl ⟨h, hh⟩
  · obtain ⟨m, rfl⟩ := Int.eq_ofNat_of_zero_le (a := n) (by omega)
    exact (new_ok m w (by omega) (by omega)).mono fun e w' hh => .inr ⟨by omega, by omega, hh⟩
end Go.Proofs.Ytjhnkpohdlilpaa
