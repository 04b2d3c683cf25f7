/-
  Mac: the walk.
-/
import Derived.Test.YtnnffibnonkocaaDoorRows
import Derived.Test.YtnnffibnonkocaaDoorBlock
import Derived.Test.YtnnffibnonkocaaDoorKeyed
import Derived.Test.YtnnffibnonkocaaDoorDigest
import Derived.RangeFuncNested
import Derived.RangeFuncBound
import Derived.RangeFuncCalls
import Derived.RangeFuncLeaves
import Derived.Shelf.Abstract
import Derived.Shelf.RegionOpen
import Derived.WalkKit
import Derived.OwnWalkIn
import Derived.TacticsInMore
import Derived.LoopNIn
import Derived.LoopIn
import Derived.WalkSpells
import Derived.WalkLawsBesides
import Derived.Lib.Hide
import Derived.BigQuiet
namespace Go.Proofs.YtnnffibnonkocaaDoor
open Go.RowKit Go.Shelf
attribute [local go_sem] Oper.semAt_some
/-- bytes' tag under a key -/
def hmac (ks xs : List (BitVec 8)) : Nat → BitVec 8 := sha (keyBlock ks 0x5c ++ shaKey (keyBlock ks 0x36 ++ xs))

set_option maxHeartbeats 1000000 in
set_option maxRecDepth 100000 in
theorem mac_any (ks xs : List (BitVec 8)) (a0 a1 : Option Addr) (c0 c1 : Nat) (w : World) (hL : Laid w) (hc0 : ks.length ≤ c0) (hs : Src (fun _ => False) w a0 ks) (hn : ks.length ≤ 1152921504606846000)
    (hd0 : xs.length ≤ c1) (hs' : Src (fun _ => False) w a1 xs) (hn' : xs.length ≤ 1152921504606846000) :
    Calls Tryd.prog 10 #[.slice a0 ks.length c0, .slice a1 xs.length c1] w fun e w' => e = .returned (.agg (bArr (hmac ks xs) 32)) ∧ Ch (fun _ => False) w w' := by
  go_enter Tryd.func10, Tryd.ntmps10
  go_wp2_with fail
  have hR := Blk.new w 24 (bArr (fun _ => 0) 32)
  have hcR : Ch (fun _ => False) w (w.alloc (.cells (bArr (fun _ => 0) 32) 24)) := (Ch.refl _ w).alloc _
  have hsz : w.heap.size < (w.alloc (.cells (bArr (fun _ => 0) 32) 24)).heap.size := by rw [World.size_alloc]; omega
  change Calls _ _ _ (w.alloc (.cells (bArr (fun _ => 0) 32) 24)) _
  generalize w.alloc (.cells (bArr (fun _ => 0) 32) 24) = wa at *
  have hl2 := hL.lt
  -- the inner hash
  refine (keyed_any ks a0 c0 0x36 _ rfl wa (hL.ch hcR (fun _ e => e.elim)) hc0 (hs.ch hcR (fun _ e => e)) (by omega)).mono ?_
  rintro e w1 ⟨B1, rfl, hB1, hb1, hc1⟩
  have hcw1 : Ch (fun _ => False) w w1 := hcR.trans hc1 (fun _ _ e => e)
  have lb1 := hb1.lt
  go_wp2_with fail
  refine (write_any B1 (by omega) xs a1 c1 _ w1 hb1 (hL.ch hcw1 (fun _ e => e.elim)).consts hd0 ((hs'.older hcw1 (fun _ e => e)).mono (fun i e => by omega)) (by rw [HS.write_n, keyBlock_length]; show 0 + 64 + xs.length ≤ _; omega)).mono ?_
  rintro e w2 ⟨rfl, hb2, hc2⟩
  have hcw2 : Ch (fun _ => False) w w2 := hcw1.trans hc2 (fun i hi e => by have e' : i = B1 := e; omega)
  have hR2 := hc2.blk (hc1.blk hR id) (fun e => by have e' : w.heap.size = B1 := e; omega)
  clear hc1 hc2 hb1 hR hcR hcw1
  go_wp2_with fail
  refine (sum_any B1 _ w2 hb2 (hL.ch hcw2 (fun _ e => e.elim)).consts (by have := hcw2.size; omega) (by rw [HS.write_n, HS.write_n, keyBlock_length]; show 0 + 64 + xs.length ≤ _; omega)).mono ?_
  rintro e w3 ⟨rfl, hc3⟩
  have hcw3 : Ch (fun _ => False) w w3 := hcw2.trans hc3 (fun _ _ e => e)
  have hR3 := hc3.blk hR2 id
  have hdig : ((HS.begin.write (keyBlock ks 0x36)).write xs).digest = sha (keyBlock ks 0x36 ++ xs) := by rw [← HS.write_append]; rfl
  rw [hdig]
  clear hdig hc3 hR2 hb2 hcw2
  generalize hM : keyBlock ks 0x36 ++ xs = M at *
  have HM := Lib.hid hM
  clear hM
  go_wp2_with (refine wpList_store_blk rfl 24 (.tmp 6) (.tmp 14) rfl w3.heap.size (bArr (sha M) 32) rfl rfl 24 (bArr (fun _ => 0) 32) (Blk.new w3 24 (bArr (fun _ => 0) 32)) 32 (by kernel_rfl) (bArr_size _ _) (bArr_size _ _) (oneCell_bArr _ _) ?_; intro w4 hS hc4')
  have hc4 : Ch (fun _ => False) w3 w4 := ((Ch.refl _ w3).alloc _).trans hc4' (fun i hi e => by have e' : i = w3.heap.size := e; omega)
  have hcw4 : Ch (fun _ => False) w w4 := hcw3.trans hc4 (fun _ _ e => e)
  have hR4 := hc4.blk hR3 id
  have lS := hS.lt
  have lw3 := hcw3.size
  clear hc4' hc4 hR3 hcw3
  generalize w3.heap.size = S at *
  -- the outer hash
  refine (keyed_any ks a0 c0 0x5c _ rfl w4 (hL.ch hcw4 (fun _ e => e.elim)) hc0 (hs.ch hcw4 (fun _ e => e)) (by omega)).mono ?_
  rintro e w5 ⟨B2, rfl, hB2, hb5, hc5⟩
  have hcw5 : Ch (fun _ => False) w w5 := hcw4.trans hc5 (fun _ _ e => e)
  have hR5 := hc5.blk hR4 id
  have hS5 := hc5.blk hS id
  have lb5 := hb5.lt
  have lw4 := hcw4.size
  have hsrc : Src (fun i => i = B2 ∨ w5.heap.size ≤ i) w5 (some ⟨S, 0, none⟩) (shaKey M) := fun _ =>
    ⟨S, 0, rfl, fun e => by have := hS5.lt; omega, fun j y hj => by
      have hj32 : j < 32 := by
        have := (List.getElem?_eq_some_iff.1 hj).1
        rwa [shaKey_length] at this
      rw [shaKey_get M j hj32] at hj
      cases hj
      rw [Nat.zero_add]
      exact hS5.cell (bArr_get _ _ _ hj32)⟩
  clear hc5 hR4 hS hcw4
  go_wp2_with fail
  have hwr := write_any B2 (by omega) (shaKey M) (some ⟨S, 0, none⟩) 32 _ w5 hb5 (hL.ch hcw5 (fun _ e => e.elim)).consts (by rw [shaKey_length]; omega) hsrc (by rw [HS.write_n, keyBlock_length, shaKey_length]; show 0 + 64 + 32 ≤ _; omega)
  rw [shaKey_length] at hwr
  refine hwr.mono ?_
  clear hwr
  rintro e w6 ⟨rfl, hb6, hc6⟩
  have hcw6 : Ch (fun _ => False) w w6 := hcw5.trans hc6 (fun i hi e => by have e' : i = B2 := e; omega)
  have hR6 := hc6.blk hR5 (fun e => by have e' : w.heap.size = B2 := e; omega)
  clear hc6 hR5 hcw5 hb5 hsrc hS5
  go_wp2_with fail
  refine (sum_any B2 _ w6 hb6 (hL.ch hcw6 (fun _ e => e.elim)).consts (by have := hcw6.size; omega) (by rw [HS.write_n, HS.write_n, keyBlock_length, shaKey_length]; show 0 + 64 + 32 ≤ _; omega)).mono ?_
  rintro e w7 ⟨rfl, hc7⟩
  have hR7 := hc7.blk hR6 id
  have hcw7 : Ch (fun _ => False) w w7 := hcw6.trans hc7 (fun _ _ e => e)
  have hdig : ((HS.begin.write (keyBlock ks 0x5c)).write (shaKey M)).digest = hmac ks xs := by rw [← HS.write_append, ← HM.out]; rfl
  rw [hdig]
  clear hdig hb6 hcw6 hR6 hc7
  go_wp2_with (refine wpList_store_blk rfl 24 (.tmp 4) (.tmp 21) rfl w.heap.size (bArr (hmac ks xs) 32) rfl rfl 24 _ hR7 32 (by kernel_rfl) (bArr_size _ _) (bArr_size _ _) (oneCell_bArr _ _) ?_; intro w8 hR8 hc8)
  refine bodyPost_ret (results_cell_row rfl _ _ w.heap.size 24 (bArr (hmac ks xs) 32) (0, 0) _ rfl hR8 Tryd.underlying24 rfl (by rw [bArr_size]; kernel_rfl)) rfl ⟨rfl, ?_⟩
  exact hcw7.trans hc8 (fun i hi e => by have e' : i = w.heap.size := e; omega)
end Go.Proofs.YtnnffibnonkocaaDoor
