/-
  The reference's constants.
-/
import Derived.Test.YtnnffibnonkocaaDoorPadded
import Derived.Test.YtnnffibnonkocaaDoorSum
import Derived.RangeFuncNested
import Derived.RangeFuncBound
import Derived.RangeFuncCalls
import Derived.RangeFuncLeaves
import Derived.Shelf.Abstract
import Derived.Shelf.RegionOpen
import Derived.WalkKit
import Derived.OwnWalkIn
import Derived.TacticsInMore
import Derived.LoopNIn
import Derived.LoopIn
import Derived.WalkSpells
import Derived.WalkLawsBesides
import Derived.Lib.Hide
import Derived.BigQuiet
namespace Go.Proofs.YtnnffibnonkocaaDoor
open Go.RowKit Go.Shelf
attribute [local go_sem] Oper.semAt_some
theorem word4_sum (a b c d : BitVec 8) : a.setWidth 32 <<< 24 + b.setWidth 32 <<< 16 + c.setWidth 32 <<< 8 + d.setWidth 32 = word4 a b c d := by
  have hz : ∀ (x y : BitVec 32), x &&& y = 0#32 → x + y = x ||| y := fun x y h => BitVec.add_eq_or_of_and_eq_zero x y h
  unfold word4
  rw [hz (a.setWidth 32 <<< 24) (b.setWidth 32 <<< 16), hz (a.setWidth 32 <<< 24 ||| b.setWidth 32 <<< 16) (c.setWidth 32 <<< 8), hz (a.setWidth 32 <<< 24 ||| b.setWidth 32 <<< 16 ||| c.setWidth 32 <<< 8) (d.setWidth 32)]
  all_goals
    ext i hi
    simp
    intros
    exact BitVec.getLsbD_of_ge _ _ (by omega)
@[go_sem] theorem b32_sub_ones (t : TypeId) (x : BitVec 32) : binOp .sub t (.int .u32 4294967295) (U32 x) = pure (U32 (~~~ x)) := by
  have h : (Value.int .u32 4294967295) = U32 (BitVec.allOnes 32) := rfl
  have e : BitVec.allOnes 32 - x = ~~~ x := by
    apply BitVec.eq_of_toNat_eq
    rw [BitVec.toNat_sub, BitVec.toNat_not, BitVec.toNat_allOnes]
    have := x.isLt
    omega
  rw [h, b32_sub, e]
set_option maxHeartbeats 1000000 in
theorem first_any (w : World) : Calls Tryd.prog 17 #[] w fun e w' => e = .returned (.agg (wArr h0s.get 8)) ∧ Ch (fun _ => False) w w' := by
  go_enter Tryd.func17, Tryd.ntmps17
  have hR : ∃ arr, arr.size = 8 ∧ Blk (w.alloc (.cells (wArr (fun _ => 0) 8) 41)) w.heap.size 41 arr := ⟨_, wArr_size _ 8, Blk.new w 41 _⟩
  obtain ⟨Ra, hRs, hRb⟩ := hR
  go_wp2_with (first | (refine wpList_store_blk rfl 41 (.tmp 0) (.tmp 1) rfl w.heap.size (wArr h0s.get 8) rfl rfl 41 Ra hRb 8 (by kernel_rfl) hRs (wArr_size _ _) (oneCell_wArr _ _) ?_; intro w5 hR5 hch5))
  refine bodyPost_ret (results_cell_row rfl _ _ w.heap.size 41 (wArr h0s.get 8) (0, 0) _ rfl hR5 Tryd.underlying41 rfl (by rw [wArr_size]; kernel_rfl)) rfl ⟨rfl, ?_⟩
  exact ((Ch.refl _ w).alloc _).trans hch5 (fun i hi e => by have e' : i = w.heap.size := e; omega)
set_option maxHeartbeats 2000000 in
set_option maxRecDepth 100000 in
theorem constants_any (w : World) : Calls Tryd.prog 18 #[] w fun e w' => e = .returned (.agg (wArr kAt 64)) ∧ Ch (fun _ => False) w w' := by
  go_enter Tryd.func18, Tryd.ntmps18
  have hR : ∃ arr, arr.size = 64 ∧ Blk (w.alloc (.cells (wArr (fun _ => 0) 64) 43)) w.heap.size 43 arr := ⟨_, wArr_size _ 64, Blk.new w 43 _⟩
  obtain ⟨Ra, hRs, hRb⟩ := hR
  go_wp2_with (first | (refine wpList_store_blk rfl 43 (.tmp 0) (.tmp 1) rfl w.heap.size (wArr kAt 64) rfl rfl 43 Ra hRb 64 (by kernel_rfl) hRs (wArr_size _ _) (oneCell_wArr _ _) ?_; intro w5 hR5 hch5))
  refine bodyPost_ret (results_cell_row rfl _ _ w.heap.size 43 (wArr kAt 64) (0, 0) _ rfl hR5 Tryd.underlying43 rfl (by rw [wArr_size]; kernel_rfl)) rfl ⟨rfl, ?_⟩
  exact ((Ch.refl _ w).alloc _).trans hch5 (fun i hi e => by have e' : i = w.heap.size := e; omega)
end Go.Proofs.YtnnffibnonkocaaDoor
