/-
  New and Sum: the walks.
-/
import Derived.Test.YtnnffibnonkocaaDoorRows
import Derived.Test.YtnnffibnonkocaaDoorBlock
import Derived.Test.YtnnffibnonkocaaDoorSum
import Derived.Test.YtnnffibnonkocaaDoorDigest
import Derived.RangeFuncNested
import Derived.RangeFuncBound
import Derived.RangeFuncCalls
import Derived.RangeFuncLeaves
import Derived.Shelf.Abstract
import Derived.Shelf.RegionOpen
import Derived.WalkKit
import Derived.OwnWalkIn
import Derived.TacticsInMore
import Derived.LoopNIn
import Derived.LoopIn
import Derived.WalkSpells
import Derived.WalkLawsBesides
import Derived.Lib.Hide
import Derived.BigQuiet
namespace Go.Proofs.YtnnffibnonkocaaDoor
open Go.RowKit Go.Shelf
attribute [local go_sem] Oper.semAt_some
/-- what the listed variables hold -/
structure Laid (w : World) : Prop where
  first : ∀ j, j < 8 → w.cell? ⟨0, j, none⟩ = some (U32 (h0s.get j))
  consts : ∀ j, j < 64 → w.cell? ⟨1, j, none⟩ = some (U32 (kAt j))
theorem Laid.ch {S : Nat → Prop} {w w' : World} (h : Laid w) (hc : Ch S w w') (hS : ∀ i, S i → 2 ≤ i) : Laid w' :=
  ⟨fun j hj => hc.cell (h.first j hj) (fun e => by have := hS _ e; simp at this), fun j hj => hc.cell (h.consts j hj) (fun e => by have := hS _ e; simp at this)⟩
theorem Laid.lt {w : World} (h : Laid w) : 2 ≤ w.heap.size := by
  have := World.block_lt_of_cell? w ⟨1, 0, none⟩ (h.consts 0 (by omega)); simp only at this; omega

theorem wpList_build_to {P : Program} {ops : Array Oper} {rest : List Oper} {o : Oper} {a : Act} {w : World} {Q : Exit → Act → World → Prop} (hg : o.guard = none) (t : TypeId) (parts : Array (Nat × Operand)) (ho : o.op = .build t parts)
    (cells : Array Value) (hf : P.built t (parts.map fun (i, x) => (i, a.eval x)).toList = some cells) (h : wpList P ops Q rest (a.put o.dst (.agg cells)) w) : wpList P ops Q (o :: rest) a w := by
  refine wpList_build hg t parts ho (by rw [hf]; rfl) ?_
  rw [hf]; exact h

set_option maxHeartbeats 1000000 in
set_option maxRecDepth 100000 in
theorem new_any (w : World) (hL : Laid w) :
    Calls Tryd.prog 12 #[] w fun e w' => e = .returned (.pointer (some ⟨w.heap.size, 0, none⟩)) ∧ Blk w' w.heap.size 50 (hArr HS.begin.h HS.begin.o HS.begin.n) ∧ Ch (fun _ => False) w w' := by
  have f0 := hL.first 0 (by omega)
  have f1 := hL.first 1 (by omega)
  have f2 := hL.first 2 (by omega)
  have f3 := hL.first 3 (by omega)
  have f4 := hL.first 4 (by omega)
  have f5 := hL.first 5 (by omega)
  have f6 := hL.first 6 (by omega)
  have f7 := hL.first 7 (by omega)
  simp only [S8.get] at f0 f1 f2 f3 f4 f5 f6 f7
  go_enter Tryd.func12, Tryd.ntmps12
  go_wp2_with (refine wpList_build_to rfl 50 #[(0, .tmp 1)] rfl (hArr h0s (fun _ => 0) 0) (by kernel_rfl) ?_)
  go_ret
  exact ⟨rfl, Blk.new w 50 _, (Ch.refl _ w).alloc _⟩

theorem Src.older {w w1 : World} {S X : Nat → Prop} {a : Option Addr} {ys : List (BitVec 8)} (h : Src X w a ys) (hc : Ch S w w1) (hS : ∀ i, S i → X i) : Src (fun i => X i ∨ w.heap.size ≤ i) w1 a ys := fun hne => by
  obtain ⟨ob, off, rfl, hx, hy⟩ := h hne
  have hlt : ob < w.heap.size := by
    cases ys with
    | nil => exact absurd rfl hne
    | cons y ys => have := World.block_lt_of_cell? w ⟨ob, off + 0, none⟩ (hy 0 y rfl); simpa using this
  exact ⟨ob, off, rfl, fun e => e.elim hx (fun e => by omega), fun j y hj => hc.cell (hy j y hj) (fun e => hx (hS _ e))⟩
theorem Src.mono {w : World} {X Y : Nat → Prop} {a : Option Addr} {ys : List (BitVec 8)} (h : Src X w a ys) (hXY : ∀ i, Y i → X i) : Src Y w a ys := fun hne => by
  obtain ⟨ob, off, rfl, hx, hy⟩ := h hne
  exact ⟨ob, off, rfl, fun e => hx (hXY _ e), hy⟩

set_option maxHeartbeats 1000000 in
set_option maxRecDepth 100000 in
theorem shaSum_any (xs : List (BitVec 8)) (a0 : Option Addr) (c0 : Nat) (w : World) (hL : Laid w) (hc0 : xs.length ≤ c0) (hs : Src (fun _ => False) w a0 xs) (hn : xs.length ≤ 1152921504606846976) :
    Calls Tryd.prog 8 #[.slice a0 xs.length c0] w fun e w' => e = .returned (.agg (bArr (sha xs) 32)) ∧ Ch (fun _ => False) w w' := by
  go_enter Tryd.func8, Tryd.ntmps8
  go_wp2_with fail
  have hR := Blk.new w 24 (bArr (fun _ => 0) 32)
  have hc0' : Ch (fun _ => False) w (w.alloc (.cells (bArr (fun _ => 0) 32) 24)) := (Ch.refl _ w).alloc _
  have hsz : (w.alloc (.cells (bArr (fun _ => 0) 32) 24)).heap.size = w.heap.size + 1 := World.size_alloc _ _
  change Calls _ _ _ (w.alloc (.cells (bArr (fun _ => 0) 32) 24)) _
  generalize w.alloc (.cells (bArr (fun _ => 0) 32) 24) = wa at *
  have hl2 := hL.lt
  have hsz1 : w.heap.size < wa.heap.size := by omega
  clear hsz
  refine (new_any wa (hL.ch hc0' (fun _ e => e.elim))).mono ?_
  rintro e w1 ⟨rfl, hb1, hc1⟩
  have hc01 := hc0'.trans hc1 (fun _ _ e => e)
  have hl1 := hb1.lt
  go_wp2_with fail
  refine (write_any wa.heap.size (by omega) xs a0 c0 HS.begin w1 hb1 (hL.ch hc01 (fun _ e => e.elim)).consts hc0 ((hs.older hc01 (fun _ e => e)).mono (fun i e => by omega)) (by show 0 + xs.length ≤ _; omega)).mono ?_
  rintro e w2 ⟨rfl, hb2, hc2⟩
  have hc02 : Ch (fun _ => False) w w2 := hc01.trans hc2 (fun i hi e => by have e' : i = wa.heap.size := e; omega)
  go_wp2_with fail
  refine (sum_any wa.heap.size (HS.begin.write xs) w2 hb2 (hL.ch hc02 (fun _ e => e.elim)).consts (by have := hc02.size; omega) (by rw [HS.write_n]; show 0 + xs.length ≤ _; omega)).mono ?_
  rintro e w3 ⟨rfl, hc3⟩
  have hR3 := hc3.blk (hc2.blk (hc1.blk hR id) (fun e => by have e' : w.heap.size = wa.heap.size := e; omega)) id
  go_wp2_with (refine wpList_store_blk rfl 24 (.tmp 2) (.tmp 9) rfl w.heap.size (bArr (sha xs) 32) rfl rfl 24 _ hR3 32 (by kernel_rfl) (bArr_size _ _) (bArr_size _ _) (oneCell_bArr _ _) ?_; intro w5 hR5 hch5)
  refine bodyPost_ret (results_cell_row rfl _ _ w.heap.size 24 (bArr (sha xs) 32) (0, 0) _ rfl hR5 Tryd.underlying24 rfl (by rw [bArr_size]; kernel_rfl)) rfl ⟨rfl, ?_⟩
  exact (hc02.trans hc3 (fun _ _ e => e)).trans hch5 (fun i hi e => by have e' : i = w.heap.size := e; omega)
end Go.Proofs.YtnnffibnonkocaaDoor
