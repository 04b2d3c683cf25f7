/-
  Loads out of the middle of a block; the walk of disk.out.
-/
import Derived.Test.YtjhnkpohdlilpaaDiskSmall
import Derived.Test.YtjhnkpohdlilpaaDisk
import Derived.Test.YtjhnkpohdlilpaaAtom
import Derived.Test.YtjhnkpohdlilpaaDecode
import Derived.Test.YtjhnkpohdlilpaaEncode
import Derived.Test.YtjhnkpohdlilpaaTake
import Derived.Test.YtjhnkpohdlilpaaCopy
import Derived.Laws.CopyOwn
import Derived.Deep.OwnRows
import Derived.Deep.MidRow
import Derived.Test.YtjhnkpohdlilpaaPut
import Derived.Test.YtjhnkpohdlilpaaRows
import Derived.Test.YtjhnkpohdlilpaaWords
import Derived.Test.YtjhnkpohdlilpaaMem
import Derived.Test.YtjhnkpohdlilpaaTail
import Derived.Test.YtjhnkpohdlilpaaCrc
import Derived.Test.YtjhnkpohdlilpaaArr
import Derived.RangeFuncNested
import Derived.RangeFuncBound
import Derived.RangeFuncCalls
import Derived.RangeFuncLeaves
import Derived.Shelf.Abstract
import Derived.Shelf.RegionOpen
import Derived.WalkKit
import Derived.OwnWalkIn
import Derived.TacticsInMore
import Derived.LoopNIn
import Derived.LoopIn
import Derived.WalkSpells
import Derived.WalkLawsBesides
import Derived.Lib.Hide
import Derived.BigQuiet
import Derived.Outline
import Derived.Deep.DeepFit
namespace Go.Proofs.Ytjhnkpohdlilpaa
open Go.RowKit Go.Shelf
attribute [local go_sem] Oper.semAt_some
theorem inf5 : (Try.prog.info? 5).map (·.size) = some 1 := by kernel_rfl
/-- n bytes from o on -/
def bytesOf (f : Nat → BitVec 8) (o n : Nat) : List (BitVec 8) := (List.range n).map fun i => f (o + i)
theorem bytesOf_length (f : Nat → BitVec 8) (o n : Nat) : (bytesOf f o n).length = n := by simp [bytesOf]
theorem src_bArr {w : World} {B : Nat} {t : TypeId} {f : Nat → BitVec 8} {n : Nat} (X : Nat → Prop) (hB : Blk w B t (bArr f n)) (o m : Nat) (hm : o + m ≤ n) (hx : ¬ X B) : Src X w (some ⟨B, o, none⟩) (bytesOf f o m) := fun _ => ⟨B, o, rfl, hx, fun j y hy => by
  have hj : j < m := by
    have := (List.getElem?_eq_some_iff.1 hy).1
    rwa [bytesOf_length] at this
  unfold bytesOf at hy
  rw [List.getElem?_map, List.getElem?_range hj] at hy
  injection hy with hy
  rw [← hy]
  exact hB.cell (bArr_get f n (o + j) (by omega))⟩
theorem over_self (f g : Nat → BitVec 8) (n : Nat) : bArr (over g 0 (bytesOf f 0 n)) n = bArr f n := bArr_congr fun i hi => by
  unfold over
  rw [bytesOf_length, if_pos (by omega)]
  simp [bytesOf, hi]
set_option maxRecDepth 100000 in
theorem out_any (f : Nat → BitVec 8) (w : World) : Calls Try.prog 45 #[.agg (bArr f 64)] w fun e w' => ∃ B, e = .returned (.slice (some ⟨B, 0, none⟩) 64 64) ∧ w.heap.size ≤ B ∧ Blk w' B 5 (bArr f 64) ∧ Ch (fun _ => False) w w' := by
  have hA : Blk ((w.alloc (.cells (bArr f 64) 81)).alloc (.cells (bArr (fun _ => 0) 64) 5)) w.heap.size 81 (bArr f 64) := (Blk.new w 81 _).alloc _
  have hB : Blk ((w.alloc (.cells (bArr f 64) 81)).alloc (.cells (bArr (fun _ => 0) 64) 5)) (w.heap.size + 1) 5 (bArr (fun _ => 0) 64) := by
    have := Blk.new (w.alloc (.cells (bArr f 64) 81)) 5 (bArr (fun _ => 0) 64)
    rwa [World.size_alloc] at this
  have hc : Ch (fun _ => False) w ((w.alloc (.cells (bArr f 64) 81)).alloc (.cells (bArr (fun _ => 0) 64) 5)) := ((Ch.refl _ w).alloc _).alloc _
  have hS := src_bArr (fun _ => False) hA 0 64 (by omega) id
  have hlen : (bytesOf f 0 64).length = Nat.min 64 64 := bytesOf_length _ _ _
  have HL := Lib.hid hlen
  clear hlen
  go_enter Try.func45, Try.ntmps45
  go_wp2_with ((refine wpList_copy_bytes rfl (.tmp 5) (.tmp 6) 56 56 rfl 5 Try.underlying56 inf5 (w.heap.size + 1) 0 64 64 (some ⟨w.heap.size, 0, none⟩) 64 64 rfl rfl (fun _ => 0) 64 5 hB (bytesOf f 0 64) HL.out hS (by rw [HL.out]; decide) ?_; rw [over_self]; intro w1 hB1 hc1))
  go_ret
  exact ⟨w.heap.size + 1, rfl, by omega, hB1, hc.trans hc1 (fun i hi e => by have e' : i = w.heap.size + 1 := e; omega)⟩
theorem run_load_mid {P : Program} {w : World} (ty : TypeId) (b o : Nat) (cs : List Value) (hc : w.rangeAt b o cs) (d : TypeDesc) (hu : P.underlying ty = some d) (hd : d.isRow = true) (n : Nat) (hi : (P.info? ty).map (·.size) = some n) (hn : cs.length = n) :
    (Instr.loadAt ty (.pointer (some ⟨b, o, none⟩))).run P w = .ok (.agg cs.toArray) w := run_loadAt_mid w b o ty cs d hc hu hd (by rw [hn]; exact hi)
theorem inf81 : (Try.prog.info? 81).map (·.size) = some 64 := by kernel_rfl
theorem range_flat {w : World} {N t n : Nat} {s : Nat → Sec} (h : Blk w N t (bArr (flat s) (64 * n))) (k : Nat) (hk : k < n) : w.rangeAt N (k * 64) (bArr (s k) 64).toList := fun j v hv => by
  have hj : j < 64 := by
    have := (List.getElem?_eq_some_iff.1 hv).1
    rw [Array.length_toList, bArr_size] at this
    exact this
  rw [Array.getElem?_toList, bArr_get _ _ _ hj] at hv
  rw [← hv]
  refine h.cell ?_
  rw [bArr_get _ _ _ (by omega)]
  unfold flat
  rw [show (k * 64 + j) / 64 = k by omega, show (k * 64 + j) % 64 = j by omega]
end Go.Proofs.Ytjhnkpohdlilpaa
