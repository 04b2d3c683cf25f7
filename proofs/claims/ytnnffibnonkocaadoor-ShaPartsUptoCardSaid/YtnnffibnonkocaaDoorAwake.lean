/-
  awake: the chapter's examples hold.
-/
import Derived.Test.YtnnffibnonkocaaDoorRows
import Derived.Test.YtnnffibnonkocaaDoorBlock
import Derived.Test.YtnnffibnonkocaaDoorMac
import Derived.Test.YtnnffibnonkocaaDoorBOwn
import Derived.Test.YtnnffibnonkocaaDoorChain
import Derived.Test.YtnnffibnonkocaaDoorDigest
import Derived.RangeFuncNested
import Derived.RangeFuncBound
import Derived.RangeFuncCalls
import Derived.RangeFuncLeaves
import Derived.Shelf.Abstract
import Derived.Shelf.RegionOpen
import Derived.WalkKit
import Derived.Lib.SlBytesConst
import Derived.OwnWalkIn
import Derived.TacticsInMore
import Derived.LoopNIn
import Derived.LoopIn
import Derived.WalkSpells
import Derived.WalkLawsBesides
import Derived.Lib.Hide
import Derived.BigQuiet
namespace Go.Proofs.YtnnffibnonkocaaDoor
open Go.RowKit Go.Shelf
attribute [local go_sem] Oper.semAt_some
@[go_sem] theorem b8_eql (t : TypeId) (x y : BitVec 8) : binOp .eql t (U8 x) (U8 y) = pure (.bool (x == y)) := by
  unfold U8
  rw [binOp_eql]
  congr 2
  rw [Bool.eq_iff_iff]
  simp only [beq_iff_eq]
  constructor
  · intro h; exact BitVec.eq_of_toNat_eq (by omega)
  · intro h; rw [h]
@[go_sem] theorem eqGuard_U8 (t : TypeId) (a b : Operand) (x y : BitVec 8) : eqGuard .eql t a b (U8 x) (U8 y) = pure () := rfl

set_option maxHeartbeats 400000 in
set_option maxRecDepth 100000 in
theorem begins_true (f : Nat → BitVec 8) (c0 c1 c2 c3 : BitVec 8) (v : Value) (hv : v = .agg #[U8 c0, U8 c1, U8 c2, U8 c3]) (w : World) (h : ((List.range 32).map f).take 4 = [c0, c1, c2, c3]) :
    Calls Tryd.prog 15 #[.agg (bArr f 32), v] w fun e w' => e = .returned (.bool true) ∧ Ch (fun _ => False) w w' := by
  subst hv
  have h' : [f 0, f 1, f 2, f 3] = [c0, c1, c2, c3] := h
  injection h' with h0 h'
  injection h' with h1 h'
  injection h' with h2 h'
  injection h' with h3 h'
  clear h h'
  have q0 := bArr_get f 32 0 (by omega)
  have q1 := bArr_get f 32 1 (by omega)
  have q2 := bArr_get f 32 2 (by omega)
  have q3 := bArr_get f 32 3 (by omega)
  rw [h0] at q0
  rw [h1] at q1
  rw [h2] at q2
  rw [h3] at q3
  clear h0 h1 h2 h3
  go_enter Tryd.func15, Tryd.ntmps15
  go_wp2
  go_ret
  exact ⟨rfl, ((Ch.refl _ w).alloc _).alloc _⟩

theorem digest_nil : (shaF []).take 4 = [0xe3, 0xb0, 0xc4, 0x42] := by decide +kernel
theorem digest_abc : (shaF [97, 98, 99]).take 4 = [0xba, 0x78, 0x16, 0xbf] := by decide +kernel
def keyText : List (BitVec 8) := [107, 101, 121]
def foxText : List (BitVec 8) := [84, 104, 101, 32, 113, 117, 105, 99, 107, 32, 98, 114, 111, 119, 110, 32, 102, 111, 120, 32, 106, 117, 109, 112, 115, 32, 111, 118, 101, 114, 32, 116, 104, 101, 32, 108, 97, 122, 121, 32, 100, 111, 103]
def hmacF (ks xs : List (BitVec 8)) : List (BitVec 8) := shaF (keyBlock ks 0x5c ++ shaF (keyBlock ks 0x36 ++ xs))
theorem hmacF_eq (ks xs : List (BitVec 8)) : hmacF ks xs = (List.range 32).map (hmac ks xs) := by
  unfold hmacF hmac
  rw [shaF_eq, shaF_eq]
  rfl
theorem tag_fox : (hmacF keyText foxText).take 4 = [0xf7, 0xbc, 0x83, 0xf4] := by decide +kernel

/-- bytes in a block of their own -/
theorem Src.blk {w : World} {B : Nat} {t : TypeId} {arr : Array Value} (h : Blk w B t arr) (xs : List (BitVec 8)) (e : arr = (xs.map U8).toArray) : Src (fun _ => False) w (some ⟨B, 0, none⟩) xs := fun _ =>
  ⟨B, 0, rfl, id, fun j y hy => by
    rw [Nat.zero_add]
    refine h.cell ?_
    rw [e, List.getElem?_toArray, List.getElem?_map, hy]; rfl⟩

set_option maxHeartbeats 1000000 in
set_option maxRecDepth 100000 in
theorem awake_any (w : World) (hL : Laid w) : Calls Tryd.prog 7 #[] w fun e w' => e = .returned (.bool true) ∧ Ch (fun _ => False) w w' := by
  go_enter Tryd.func7, Tryd.ntmps7
  go_wp2_with fail
  refine (shaSum_any [] none 0 w hL (Nat.le_refl _) (fun h => absurd rfl h) (by simp)).mono ?_
  rintro e w1 ⟨rfl, hc1⟩
  go_wp2_with fail
  refine (begins_true (sha []) 0xe3 0xb0 0xc4 0x42 _ rfl w1 (by rw [← shaF_eq]; exact digest_nil)).mono ?_
  rintro e w2 ⟨rfl, hc2⟩
  have hcw2 := hc1.trans hc2 (fun _ _ e => e)
  clear hc1 hc2
  go_wp2_with fail
  have hA := Blk.new w2 5 (([97, 98, 99] : List (BitVec 8)).map U8).toArray
  have hcA := hcw2.alloc (.cells (([97, 98, 99] : List (BitVec 8)).map U8).toArray 5)
  change Calls _ _ _ (w2.alloc (.cells (([97, 98, 99] : List (BitVec 8)).map U8).toArray 5)) _
  generalize w2.alloc (.cells (([97, 98, 99] : List (BitVec 8)).map U8).toArray 5) = wa at *
  refine (shaSum_any [97, 98, 99] _ 3 wa (hL.ch hcA (fun _ e => e.elim)) (Nat.le_refl _) (Src.blk hA _ rfl) (by simp)).mono ?_
  rintro e w3 ⟨rfl, hc3⟩
  have hcw3 := hcA.trans hc3 (fun _ _ e => e)
  clear hcA hc3 hA hcw2
  go_wp2_with fail
  refine (begins_true (sha [97, 98, 99]) 0xba 0x78 0x16 0xbf _ rfl w3 (by rw [← shaF_eq]; exact digest_abc)).mono ?_
  rintro e w4 ⟨rfl, hc4⟩
  have hcw4 := hcw3.trans hc4 (fun _ _ e => e)
  clear hcw3 hc4
  have kc := fun (w : World) (C : Array Value) (n c : Nat) => Lib.run_convert_bytes_const (P := Tryd.prog) w 22 5 C n c Tryd.underlying22 Tryd.underlying5
  have kc2 : ∀ (O : Obj) (C : Array Value) (n c : Nat), (convert 22 22 (.slice (some ⟨w4.heap.size + 1, 0, none⟩) n c)).run Tryd.prog ((w4.alloc O).alloc (.cells C 5)) = .ok (.slice (some ⟨w4.heap.size + 1, 0, none⟩) n c) ((w4.alloc O).alloc (.cells C 5 (C.size, C.size + 1))) := by
    intro O C n c
    have := kc (w4.alloc O) C n c
    rwa [World.size_alloc] at this
  go_wp2_with fail
  have hA := (Src.fresh w4 5 (3, 4) keyText).ch ((Ch.refl (fun _ => False) _).alloc (.cells (foxText.map U8).toArray 5 (43, 44))) (fun _ e => e)
  have hB := Src.fresh (w4.alloc (.cells (keyText.map U8).toArray 5 (3, 4))) 5 (43, 44) foxText
  rw [World.size_alloc] at hB
  have hcB := (hcw4.alloc (.cells (keyText.map U8).toArray 5 (3, 4))).alloc (.cells (foxText.map U8).toArray 5 (43, 44))
  change Calls _ _ _ ((w4.alloc (.cells (keyText.map U8).toArray 5 (3, 4))).alloc (.cells (foxText.map U8).toArray 5 (43, 44))) _
  generalize (w4.alloc (.cells (keyText.map U8).toArray 5 (3, 4))).alloc (.cells (foxText.map U8).toArray 5 (43, 44)) = wa at *
  clear kc kc2
  refine (mac_any keyText foxText _ _ 3 43 wa (hL.ch hcB (fun _ e => e.elim)) (Nat.le_refl _) hA (by decide) (Nat.le_refl _) hB (by decide)).mono ?_
  rintro e w5 ⟨rfl, hc5⟩
  have hcw5 := hcB.trans hc5 (fun _ _ e => e)
  clear hcB hc5 hA hB hcw4
  go_wp2_with fail
  refine (begins_true (hmac keyText foxText) 0xf7 0xbc 0x83 0xf4 _ rfl w5 (by rw [← hmacF_eq]; exact tag_fox)).mono ?_
  rintro e w6 ⟨rfl, hc6⟩
  have hcw6 := hcw5.trans hc6 (fun _ _ e => e)
  clear hcw5 hc6
  go_wp2
  go_ret
  exact ⟨rfl, hcw6⟩
end Go.Proofs.YtnnffibnonkocaaDoor
