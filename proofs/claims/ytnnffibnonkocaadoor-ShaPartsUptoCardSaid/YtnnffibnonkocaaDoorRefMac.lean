/-
  The reference's tag: the walk of palatineref07.Mac.
-/
import Derived.Test.YtnnffibnonkocaaDoorRefSum
import Derived.Test.YtnnffibnonkocaaDoorRefWords
import Derived.Test.YtnnffibnonkocaaDoorPadded
import Derived.Test.YtnnffibnonkocaaDoorSum
import Derived.RangeFuncNested
import Derived.RangeFuncBound
import Derived.RangeFuncCalls
import Derived.RangeFuncLeaves
import Derived.Shelf.Abstract
import Derived.Shelf.RegionOpen
import Derived.WalkKit
import Derived.OwnWalkIn
import Derived.TacticsInMore
import Derived.LoopNIn
import Derived.LoopIn
import Derived.WalkSpells
import Derived.WalkLawsBesides
import Derived.Lib.Hide
import Derived.BigQuiet
namespace Go.Proofs.YtnnffibnonkocaaDoor
open Go.RowKit Go.Shelf
attribute [local go_sem] Oper.semAt_some
@[local go_sem] theorem b8_xor_36 (t : TypeId) (x : BitVec 8) : binOp .xor t (U8 x) (.int .u8 54) = pure (U8 (x ^^^ 0x36)) := b8_xor t x 0x36
@[local go_sem] theorem b8_xor_5c (t : TypeId) (x : BitVec 8) : binOp .xor t (U8 x) (.int .u8 92) = pure (U8 (x ^^^ 0x5c)) := b8_xor t x 0x5c
/-- two slices with unlike first bytes have unlike blocks -/
theorem BOwn.apart {w : World} {base base' : Nat} {v v' : Value} {l l' : List (BitVec 8)} (h : BOwn w base v l) (h' : BOwn w base' v' l') {x y : BitVec 8} (hx : l[0]? = some x) (hy : l'[0]? = some y) (hne : x ≠ y) :
    ∀ i, v.ownBlock = some i → v'.ownBlock = some i → False := by
  intro i hi hi'
  obtain ⟨a0, c, rfl, -, -, hs⟩ := h.shape
  obtain ⟨a1, c', rfl, -, -, hs'⟩ := h'.shape
  obtain ⟨b, o, rfl, -, hc⟩ := hs (by intro e; subst e; cases hx)
  obtain ⟨b', o', rfl, -, hc'⟩ := hs' (by intro e; subst e; cases hy)
  rcases h.2 with ⟨e, _⟩ | ⟨g, cap, cur, e, -⟩
  · cases e
  rcases h'.2 with ⟨e', _⟩ | ⟨g', cap', cur', e', -⟩
  · cases e'
  injection e with e1 _ _; injection e1 with e1; injection e1 with e1 e2 _; subst e1; subst e2
  injection e' with e1 _ _; injection e1 with e1; injection e1 with e1 e2 _; subst e1; subst e2
  cases hi; cases hi'
  have := (hc 0 x hx).symm.trans (hc' 0 y hy)
  injection this with this
  exact hne (by
    have e : U8 x = U8 y := this
    unfold U8 at e
    injection e with _ e
    apply BitVec.eq_of_toNat_eq; omega)
theorem keyByte_zero_ne (K : List (BitVec 8)) : keyByte K 0x36 0 ≠ keyByte K 0x5c 0 := by
  unfold keyByte
  intro h
  have := congrArg (fun x => K.getD 0 0 ^^^ x) h
  simp only [← BitVec.xor_assoc, BitVec.xor_self, BitVec.zero_xor] at this
  exact absurd this (by decide)
theorem padKey_get (K : List (BitVec 8)) (n j : Nat) : (K ++ List.replicate n 0).getD j 0 = K.getD j 0 := by
  rw [List.getD_eq_getElem?_getD, List.getD_eq_getElem?_getD]
  by_cases h : j < K.length
  · rw [List.getElem?_append_left h]
  · rw [List.getElem?_append_right (by omega), List.getElem?_eq_none (l := K) (by omega), List.getElem?_replicate]
    split <;> rfl

set_option maxHeartbeats 4000000 in
set_option maxRecDepth 100000 in
theorem refMac_short (ks xs : List (BitVec 8)) (a0 a1 : Option Addr) (c0 c1 : Nat) (w : World) (_hc0 : ks.length ≤ c0) (hnil : a0 = none → c0 = 0) (hs : Src (fun _ => False) w a0 ks) (hn : ks.length ≤ 140737488355200)
    (_hc1 : xs.length ≤ c1) (hnil1 : a1 = none → c1 = 0) (hs1 : Src (fun _ => False) w a1 xs) (hn1 : xs.length ≤ 140737488355136) (hlen : ks.length ≤ 64) :
    Calls Tryd.prog 11 #[.slice a0 ks.length c0, .slice a1 xs.length c1] w fun e w' => e = .returned (.agg (bArr (hmac ks xs) 32)) ∧ Ch (fun _ => False) w w' := by
  have HN := Lib.hid hnil
  have HN1 := Lib.hid hnil1
  clear hnil hnil1
  have z24 : ∀ w : World, (zeroValue 24).run Tryd.prog w = .ok (.agg (bArr (fun _ => 0) 32)) w := fun w => by kernel_rfl
  go_enter Tryd.func11, Tryd.ntmps11
  have g64 : ¬ (64 : Int) < ks.length := by omega
  have hm1 : BOwn ((w.alloc (.cells (bArr (fun _ => 0) 32) 24)).alloc (.cells #[] 5)) (w.heap.size + 1) (.slice (some ⟨w.heap.size + 1, 0, none⟩) 0 0) [] := by
    have := BOwn.made (w.alloc (.cells (bArr (fun _ => 0) 32) 24)); rwa [World.size_alloc] at this
  have hcR : Ch (fun _ => False) w ((w.alloc (.cells (bArr (fun _ => 0) 32) 24)).alloc (.cells #[] 5)) := ((Ch.refl _ w).alloc _).alloc _
  have hR := (Blk.new w 24 (bArr (fun _ => 0) 32)).alloc (.cells #[] 5)
  go_wp2_with (refine wpList_append_bytes rfl (.tmp 11) (.tmp 12) rfl (w.heap.size + 1) (.slice (some ⟨w.heap.size + 1, 0, none⟩) 0 0) [] rfl hm1 ks a0 ks.length c0 rfl rfl HN.out (hs.ch hcR (fun _ e => e)) ks.length (by simp) (by omega) (by simp) ?_; intro a2 c2 w2 hown hch)
  have hcw : Ch (fun _ => False) w w2 := hcR.trans hch (fun i hi e => by have e' : some (w.heap.size + 1) = some i := e; injection e' with e'; omega)
  have hR2 := hch.blk hR (fun e => by have e' : some (w.heap.size + 1) = some w.heap.size := e; injection e' with e'; omega)
  have hb1 : w.heap.size + 1 ≤ w2.heap.size := by have := hR2.lt; omega
  rw [List.nil_append] at hown
  have hnK := hlen
  clear hch hR hm1 hcR g64 hlen
  obtain ⟨nK, hnK'⟩ : ∃ nK, nK = ks.length := ⟨_, rfl⟩
  obtain ⟨K, hKK⟩ : ∃ K, K = ks := ⟨_, rfl⟩
  have HKO := Lib.hid (show K = keyOf ks from hKK.trans (if_neg (by omega)).symm)
  have hKl : K.length = nK := by rw [hKK, hnK']
  rw [← hnK'] at hown hnK
  rw [← hnK']
  rw [← hKK] at hown
  clear hKK hnK'
  generalize hbg : w.heap.size + 1 = base at *
  have hbw : w.heap.size < base := by omega
  have HKL := Lib.hid hKl
  clear hbg hKl
  go_loopw [5] (fun v wr => ∃ (j : Nat) (a : Option Addr) (c : Nat), nK + j ≤ 64 ∧ v = .slice a (nK + j) c ∧ BOwn wr base v (K ++ List.replicate j 0) ∧ Blk wr w.heap.size 24 (bArr (fun _ => 0) 32) ∧ base ≤ wr.heap.size ∧ Ch (fun _ => False) w wr) (fun v _ => 64 - sliceLen v)
  case atStart => exact ⟨0, a2, c2, by omega, (by first | rfl | (rw [HNK.out])), (by rw [List.replicate_zero, List.append_nil]; first | exact hown | (have := hown; rw [HNK.out] at this; exact this)), hR2, hb1, hcw⟩
  case round =>
    clear hown
    clear hcw hR2
    obtain ⟨j, a, c, hj, rfl, hown, hR2, lw, hch⟩ := hrel
    generalize hm : nK + j = m at *
    have HM := Lib.hid hm
    clear hm
    by_cases hlt : m < 64
    · have g64 : (m : Int) < 64 := by omega
      go_wp2_with (refine wpList_append_byte rfl (.tmp 25) (.tmp 26) rfl base (.slice a m c) _ rfl hown 0 _ rfl rfl (m + 1) (by have := HM.out; have := HKL.out; simp; omega) (by omega) (by omega) ?_; intro a3 c3 w3 hown3 hch3)
      go_roundw
      case rel =>
        refine ⟨j + 1, a3, c3, by have := HM.out; omega, by have := HM.out; rw [← this]; rfl, ?_, hch3.blk hR2 (fun e => by have := hown.block_le _ e; omega), by have := hch3.size; omega, hch.trans hch3 (fun i hi e => by have := hown.block_le i e; omega)⟩
        rw [List.replicate_succ', ← List.append_assoc]
        exact hown3
      case measure => simp only [sliceLen]; omega
    · obtain rfl : m = 64 := by omega
      clear hlt hj
      have hTl : (K ++ List.replicate j 0).length = 64 := by have := HM.out; have := HKL.out; simp; omega
      obtain ⟨KB, rfl, hKB1, hKB2, hKc⟩ := hown.flat (by intro e; rw [e] at hTl; simp at hTl)
      have hKc' : ∀ i, i < 64 → wr.cell? ⟨KB, i, none⟩ = some (U8 (K.getD i 0)) := fun i hi => by rw [hKc i (by omega), padKey_get]
      have HKC := Lib.hid hKc'
      have hcw3 := hch
      have hR3 := hR2
      clear hKc hKc' hch hTl hR2 hown
      obtain ⟨wm, rfl⟩ : ∃ x, x = wr := ⟨_, rfl⟩
      go_wp2_with fail
      go_loopw [7, 8, 9] (fun vi vo i wr => ∃ (k : Nat) (ai ao : Option Addr) (ci co : Nat), k ≤ 64 ∧ i = .int .i64 k ∧ (k = 0 → ao = none) ∧ vi = .slice ai k ci ∧ vo = .slice ao k co ∧ BOwn wr wm.heap.size vi ((List.range k).map (keyByte K 0x36)) ∧ BOwn wr wm.heap.size vo ((List.range k).map (keyByte K 0x5c)) ∧
          (∀ i, vi.ownBlock = some i → vo.ownBlock = some i → False) ∧ Ch (fun _ => False) wm wr) (fun _ _ i _ => 64 - (intOf i).toNat)
      case atStart => exact ⟨0, none, none, 0, 0, by omega, rfl, fun _ => rfl, rfl, rfl, BOwn.nil _ _, BOwn.nil _ _, (fun i e => by cases e), Ch.refl _ _⟩
      case round =>
        obtain ⟨k, ai, ao, ci, co, hk, rfl, h0, rfl, rfl, hoi, hoo, hap, hch⟩ := hrel
        have lw := hch.size
        have HAP := Lib.hid hap
        have H0 := Lib.hid h0
        clear hap h0
        have hli : ((List.range k).map (keyByte K 0x36)).length = k := by simp
        have hlo : ((List.range k).map (keyByte K 0x5c)).length = k := by simp
        have HLI := Lib.hid hli
        have HLO := Lib.hid hlo
        clear hli hlo
        by_cases hlt : k < 64
        · have l64 : (k : Int) < 64 := by omega
          have ck := hch.cell (HKC.out k hlt) id
          go_wp2_with (first
            | (refine wpList_append_byte rfl (.tmp 32) (.tmp 38) rfl wm.heap.size (.slice ai k ci) _ rfl hoi (keyByte K 0x36 k) _ rfl rfl (k + 1) (by rw [HLI.out]) (by omega) lw ?_
               intro a3 c3 w3 hoi3 hch3
               have hoo3 := hoo.ch' hch3 (fun i e e' => HAP.out i e' e)
               have hcm3 : Ch (fun _ => False) wm w3 := hch.trans hch3 (fun i hi e => by have := hoi.block_le i e; omega)
               have ck3 := hcm3.cell (HKC.out k hlt) id
               have lw3 := hcm3.size)
            | (refine wpList_append_byte rfl (.tmp 40) (.tmp 46) rfl wm.heap.size (.slice ao k co) _ rfl hoo3 (keyByte K 0x5c k) _ rfl rfl (k + 1) (by rw [HLO.out]) (by omega) lw3 ?_
               intro a4 c4 w4 hoo4 hch4))
          have hoi4 : BOwn w4 wm.heap.size (.slice a3 (k + 1) c3) ((List.range k).map (keyByte K 0x36) ++ [keyByte K 0x36 k]) := by
            refine hoi3.ch' hch4 (fun i e e' => ?_)
            by_cases h0 : k = 0
            · have hz := H0.out h0
              subst hz
              cases e'
            · exact BOwn.apart hoi3 hoo3 (x := keyByte K 0x36 0) (y := keyByte K 0x5c 0) (by rw [List.getElem?_append_left (by simp; omega), List.getElem?_map, List.getElem?_range (by omega)]; rfl) (by rw [List.getElem?_map, List.getElem?_range (by omega)]; rfl) (keyByte_zero_ne K) i e e'
          go_roundw
          case rel =>
            rw [← List.map_singleton, ← List.map_append, ← List.range_succ] at hoi4 hoo4
            refine ⟨k + 1, a3, a4, c3, c4, by omega, by go_num, (fun e => by omega), rfl, rfl, hoi4, hoo4, ?_, hcm3.trans hch4 (fun i hi e => by have := hoo3.block_le i e; omega)⟩
            exact BOwn.apart hoi4 hoo4 (x := keyByte K 0x36 0) (y := keyByte K 0x5c 0) (by rw [List.getElem?_map, List.getElem?_range (by omega)]; rfl) (by rw [List.getElem?_map, List.getElem?_range (by omega)]; rfl) (keyByte_zero_ne K)
          case measure => simp [intOf]; omega
        · obtain rfl : k = 64 := by omega
          clear hlt hk H0
          have hKI : (List.range 64).map (keyByte K 0x36) = keyBlock ks 0x36 := by rw [HKO.out]; rfl
          have hKOut : (List.range 64).map (keyByte K 0x5c) = keyBlock ks 0x5c := by rw [HKO.out]; rfl
          rw [hKI] at hoi
          rw [hKOut] at hoo
          have hcwr := hcw3.trans hch (fun _ _ e => e)
          have hR4 := hch.blk hR3 id
          have hs4 := hs1.ch hcwr (fun _ e => e)
          have lw0 := hcwr.size
          clear hKI hKOut hcw3 hR3 HKC hch HLI HLO
          go_wp2_with (refine wpList_append_bytes rfl (.tmp 48) (.tmp 49) rfl wm.heap.size (.slice ai 64 ci) _ rfl hoi xs a1 xs.length c1 rfl rfl HN1.out hs4 (64 + xs.length) (by rw [keyBlock_length]) (by omega) lw ?_; intro a5 c5 w5 hoi5 hch5; have hoo5 := hoo.ch' hch5 (fun i e e' => HAP.out i e' e))
          have hc5 : Ch (fun _ => False) w w5 := hcwr.trans hch5 (fun i hi e => by have := hoi.block_le i e; omega)
          have hch5s := hch5.size
          have hR5 := hch5.blk hR4 (fun e => by have := hoi.block_le _ e; have := hR4.lt; omega)
          obtain ⟨a5', c5', he5, hle5, hnil5, hsrc5⟩ := hoi5.shape
          have hl5 : (keyBlock ks 0x36 ++ xs).length = 64 + xs.length := by rw [List.length_append, keyBlock_length]
          rw [hl5] at he5 hle5
          injection he5 with e1 _ e2
          subst e1 e2
          have hcall := refSum_any (keyBlock ks 0x36 ++ xs) a5 c5 w5 (by rw [hl5]; exact hle5) hnil5 (hsrc5.mono (fun _ e => e.elim)) (by rw [hl5]; omega)
          rw [hl5] at hcall
          refine hcall.mono ?_
          clear hcall hsrc5 hnil5 hle5 hoi5 hl5 hoi hoo hcwr hR4 hs4 hch5 HN HN1 hs
          rintro e w6 ⟨rfl, hc6⟩
          have hoo6 := hoo5.ch hc6 (fun _ e => e.elim)
          have hR6 := hc6.blk hR5 id
          have hcw6 := hc5.trans hc6 (fun _ _ e => e)
          have lw6 : wm.heap.size ≤ w6.heap.size := by have := hc6.size; omega
          clear hc6 hc5 hR5 hoo5
          generalize hM : keyBlock ks 0x36 ++ xs = M at *
          have HM := Lib.hid hM
          clear hM
          go_wp2_with (first
            | (refine wpList_store_blk rfl 24 (.tmp 10) (.tmp 52) rfl w6.heap.size (bArr (sha M) 32) rfl rfl 24 (bArr (fun _ => 0) 32) (Blk.new w6 24 (bArr (fun _ => 0) 32)) 32 (by kernel_rfl) (bArr_size _ _) (bArr_size _ _) (oneCell_bArr _ _) ?_
               intro w7 hS hc7'
               have hc7 : Ch (fun _ => False) w6 w7 := ((Ch.refl _ w6).alloc _).trans hc7' (fun i hi e => by have e' : i = w6.heap.size := e; omega)
               have hsrc7 : Src (fun _ => False) w7 (some ⟨w6.heap.size, 0, none⟩) (shaKey M) := fun _ =>
                 ⟨w6.heap.size, 0, rfl, id, fun j y hj => by
                  have hj32 : j < 32 := by
                    have := (List.getElem?_eq_some_iff.1 hj).1
                    rwa [shaKey_length] at this
                  rw [shaKey_get M j hj32] at hj
                  cases hj
                  rw [Nat.zero_add]
                  exact hS.cell (bArr_get _ _ _ hj32)⟩
               have hoo7 := hoo6.ch hc7 (fun _ e => e.elim))
            | (refine wpList_append_bytes rfl (.tmp 53) (.tmp 54) rfl wm.heap.size (.slice ao 64 co) _ rfl hoo7 (shaKey M) (some ⟨w6.heap.size, 0, none⟩) 32 32 rfl (shaKey_length M).symm (fun e => by cases e) hsrc7 96 (by rw [keyBlock_length, shaKey_length]) (by omega) (by have := hc7.size; omega) ?_
               intro a8 c8 w8 hoo8 hch8))
          have hcw7 := hcw6.trans hc7 (fun _ _ e => e)
          have hR7 := hc7.blk hR6 id
          have hcw8 : Ch (fun _ => False) w w8 := hcw7.trans hch8 (fun i hi e => by have := hoo7.block_le i e; omega)
          have hR8 := hch8.blk hR7 (fun e => by have := hoo7.block_le _ e; omega)
          obtain ⟨a8', c8', he8, hle8, hnil8, hsrc8⟩ := hoo8.shape
          have hl8 : (keyBlock ks 0x5c ++ shaKey M).length = 96 := by rw [List.length_append, keyBlock_length, shaKey_length]
          rw [hl8] at he8 hle8
          injection he8 with e1 _ e2
          subst e1 e2
          have hcall := refSum_any (keyBlock ks 0x5c ++ shaKey M) a8 c8 w8 (by rw [hl8]; exact hle8) hnil8 (hsrc8.mono (fun _ e => e.elim)) (by rw [hl8]; omega)
          rw [hl8] at hcall
          refine hcall.mono ?_
          clear hcall hsrc8 hnil8 hle8 hoo8 hl8 hcw7 hR7 hcw6 hR6 hoo6 hS hc7 hc7' hsrc7 hoo7 hch8
          rintro e w9 ⟨rfl, hc9⟩
          have hR9 := hc9.blk hR8 id
          have hcw9 := hcw8.trans hc9 (fun _ _ e => e)
          have hdig : sha (keyBlock ks 0x5c ++ shaKey M) = hmac ks xs := by rw [← HM.out]; rfl
          rw [hdig]
          clear hdig hc9 hR8 hcw8
          go_wp2_with (refine wpList_store_blk rfl 24 (.tmp 4) (.tmp 57) rfl w.heap.size (bArr (hmac ks xs) 32) rfl rfl 24 _ hR9 32 (by kernel_rfl) (bArr_size _ _) (bArr_size _ _) (oneCell_bArr _ _) ?_; intro w10 hR10 hc10)
          refine bodyPost_ret (results_cell_row rfl _ _ w.heap.size 24 (bArr (hmac ks xs) 32) (0, 0) _ rfl hR10 Tryd.underlying24 rfl (by rw [bArr_size]; kernel_rfl)) rfl ⟨rfl, ?_⟩
          exact hcw9.trans hc10 (fun i hi e => by have e' : i = w.heap.size := e; omega)

set_option maxHeartbeats 4000000 in
set_option maxRecDepth 100000 in
theorem refMac_long (ks xs : List (BitVec 8)) (a0 a1 : Option Addr) (c0 c1 : Nat) (w : World) (hc0 : ks.length ≤ c0) (hnil : a0 = none → c0 = 0) (hs : Src (fun _ => False) w a0 ks) (hn : ks.length ≤ 140737488355200)
    (_hc1 : xs.length ≤ c1) (hnil1 : a1 = none → c1 = 0) (hs1 : Src (fun _ => False) w a1 xs) (hn1 : xs.length ≤ 140737488355136) (hlen : 64 < ks.length) :
    Calls Tryd.prog 11 #[.slice a0 ks.length c0, .slice a1 xs.length c1] w fun e w' => e = .returned (.agg (bArr (hmac ks xs) 32)) ∧ Ch (fun _ => False) w w' := by
  have HN := Lib.hid hnil
  have HN1 := Lib.hid hnil1
  clear hnil hnil1
  have z24 : ∀ w : World, (zeroValue 24).run Tryd.prog w = .ok (.agg (bArr (fun _ => 0) 32)) w := fun w => by kernel_rfl
  go_enter Tryd.func11, Tryd.ntmps11
  have g64 : (64 : Int) < ks.length := by omega
  have hm1 : BOwn ((w.alloc (.cells (bArr (fun _ => 0) 32) 24)).alloc (.cells #[] 5)) (w.heap.size + 1) (.slice (some ⟨w.heap.size + 1, 0, none⟩) 0 0) [] := by
    have := BOwn.made (w.alloc (.cells (bArr (fun _ => 0) 32) 24)); rwa [World.size_alloc] at this
  have hcR : Ch (fun _ => False) w ((w.alloc (.cells (bArr (fun _ => 0) 32) 24)).alloc (.cells #[] 5)) := ((Ch.refl _ w).alloc _).alloc _
  have hR := (Blk.new w 24 (bArr (fun _ => 0) 32)).alloc (.cells #[] 5)
  go_wp2_with (refine wpList_append_bytes rfl (.tmp 11) (.tmp 12) rfl (w.heap.size + 1) (.slice (some ⟨w.heap.size + 1, 0, none⟩) 0 0) [] rfl hm1 ks a0 ks.length c0 rfl rfl HN.out (hs.ch hcR (fun _ e => e)) ks.length (by simp) (by omega) (by simp) ?_; intro a2 c2 w2 hown hch)
  have hcw : Ch (fun _ => False) w w2 := hcR.trans hch (fun i hi e => by have e' : some (w.heap.size + 1) = some i := e; injection e' with e'; omega)
  have hR2 := hch.blk hR (fun e => by have e' : some (w.heap.size + 1) = some w.heap.size := e; injection e' with e'; omega)
  have hb1 : w.heap.size + 1 ≤ w2.heap.size := by have := hR2.lt; omega
  clear hown hch hR hcR hm1
  refine (refSum_any ks a0 c0 w2 hc0 HN.out (hs.ch hcw (fun _ e => e)) hn).mono ?_
  rintro e w3 ⟨rfl, hc3⟩
  have hcw3 := hcw.trans hc3 (fun _ _ e => e)
  have hR3 := hc3.blk hR2 id
  have lw3 : w.heap.size + 1 ≤ w3.heap.size := by have := hc3.size; omega
  clear hcw hR2 hc3 hb1
  go_wp2_with (first
    | (refine wpList_store_blk rfl 24 (.tmp 6) (.tmp 18) rfl w3.heap.size (bArr (sha ks) 32) rfl rfl 24 (bArr (fun _ => 0) 32) (Blk.new w3 24 (bArr (fun _ => 0) 32)) 32 (by kernel_rfl) (bArr_size _ _) (bArr_size _ _) (oneCell_bArr _ _) ?_
       intro w7 hS hc7'
       have hc7 : Ch (fun _ => False) w3 w7 := ((Ch.refl _ w3).alloc _).trans hc7' (fun i hi e => by have e' : i = w3.heap.size := e; omega)
       have hsrc7 : Src (fun _ => False) (w7.alloc (.cells #[] 5)) (some ⟨w3.heap.size, 0, none⟩) (shaKey ks) := fun _ =>
         ⟨w3.heap.size, 0, rfl, id, fun j y hj => by
          have hj32 : j < 32 := by
            have := (List.getElem?_eq_some_iff.1 hj).1
            rwa [shaKey_length] at this
          rw [shaKey_get ks j hj32] at hj
          cases hj
          rw [Nat.zero_add]
          exact (hS.alloc _).cell (bArr_get _ _ _ hj32)⟩
       have hm7 := BOwn.made w7
       have lw7 := hc7.size)
    | (refine wpList_append_bytes rfl (.tmp 19) (.tmp 20) rfl w7.heap.size (.slice (some ⟨w7.heap.size, 0, none⟩) 0 0) [] rfl hm7 (shaKey ks) (some ⟨w3.heap.size, 0, none⟩) 32 32 rfl (shaKey_length ks).symm (fun e => by cases e) hsrc7 32 (by rw [shaKey_length]; rfl) (by omega) (by simp) ?_
       intro a2 c2 w8 hown hch8))
  have hca : Ch (fun _ => False) w (w7.alloc (.cells #[] 5)) := (hcw3.trans hc7 (fun _ _ e => e)).alloc _
  have hcw : Ch (fun _ => False) w w8 := hca.trans hch8 (fun i hi e => by have e' : some w7.heap.size = some i := e; injection e' with e'; omega)
  have hR2 := hch8.blk ((hc7.blk hR3 id).alloc _) (fun e => by have e' : some w7.heap.size = some w.heap.size := e; injection e' with e'; omega)
  have hb1 : w.heap.size + 1 ≤ w8.heap.size := by have := hR2.lt; have := hcw.size; have := hch8.size; rw [World.size_alloc] at this; omega
  rw [List.nil_append] at hown
  replace hown := hown.mono (base' := w.heap.size + 1) (by omega)
  clear hch8 hca hR3 hcw3 hc7 hc7' hS hsrc7 hm7 lw7 lw3 g64
  obtain ⟨nK, hnK'⟩ : ∃ nK, nK = 32 := ⟨_, rfl⟩
  obtain ⟨K, hKK⟩ : ∃ K, K = shaKey ks := ⟨_, rfl⟩
  have HKO := Lib.hid (show K = keyOf ks from hKK.trans (if_pos hlen).symm)
  have hKl : K.length = nK := by rw [hKK, hnK', shaKey_length]
  have hnK : nK ≤ 64 := by omega
  rw [← hnK'] at hown
  rw [← hKK] at hown
  clear hKK hlen
  obtain ⟨w2, rfl⟩ : ∃ x, x = w8 := ⟨_, rfl⟩
  have HNK := Lib.hid hnK'
  clear hnK'
  generalize hbg : w.heap.size + 1 = base at *
  have hbw : w.heap.size < base := by omega
  have HKL := Lib.hid hKl
  clear hbg hKl
  go_loopw [5] (fun v wr => ∃ (j : Nat) (a : Option Addr) (c : Nat), nK + j ≤ 64 ∧ v = .slice a (nK + j) c ∧ BOwn wr base v (K ++ List.replicate j 0) ∧ Blk wr w.heap.size 24 (bArr (fun _ => 0) 32) ∧ base ≤ wr.heap.size ∧ Ch (fun _ => False) w wr) (fun v _ => 64 - sliceLen v)
  case atStart => exact ⟨0, a2, c2, by omega, (by first | rfl | (rw [HNK.out])), (by rw [List.replicate_zero, List.append_nil]; first | exact hown | (have := hown; rw [HNK.out] at this; exact this)), hR2, hb1, hcw⟩
  case round =>
    clear hown
    clear hcw hR2
    obtain ⟨j, a, c, hj, rfl, hown, hR2, lw, hch⟩ := hrel
    generalize hm : nK + j = m at *
    have HM := Lib.hid hm
    clear hm
    by_cases hlt : m < 64
    · have g64 : (m : Int) < 64 := by omega
      go_wp2_with (refine wpList_append_byte rfl (.tmp 25) (.tmp 26) rfl base (.slice a m c) _ rfl hown 0 _ rfl rfl (m + 1) (by have := HM.out; have := HKL.out; simp; omega) (by omega) (by omega) ?_; intro a3 c3 w3 hown3 hch3)
      go_roundw
      case rel =>
        refine ⟨j + 1, a3, c3, by have := HM.out; omega, by have := HM.out; rw [← this]; rfl, ?_, hch3.blk hR2 (fun e => by have := hown.block_le _ e; omega), by have := hch3.size; omega, hch.trans hch3 (fun i hi e => by have := hown.block_le i e; omega)⟩
        rw [List.replicate_succ', ← List.append_assoc]
        exact hown3
      case measure => simp only [sliceLen]; omega
    · obtain rfl : m = 64 := by omega
      clear hlt hj
      have hTl : (K ++ List.replicate j 0).length = 64 := by have := HM.out; have := HKL.out; simp; omega
      obtain ⟨KB, rfl, hKB1, hKB2, hKc⟩ := hown.flat (by intro e; rw [e] at hTl; simp at hTl)
      have hKc' : ∀ i, i < 64 → wr.cell? ⟨KB, i, none⟩ = some (U8 (K.getD i 0)) := fun i hi => by rw [hKc i (by omega), padKey_get]
      have HKC := Lib.hid hKc'
      have hcw3 := hch
      have hR3 := hR2
      clear hKc hKc' hch hTl hR2 hown
      obtain ⟨wm, rfl⟩ : ∃ x, x = wr := ⟨_, rfl⟩
      go_wp2_with fail
      go_loopw [7, 8, 9] (fun vi vo i wr => ∃ (k : Nat) (ai ao : Option Addr) (ci co : Nat), k ≤ 64 ∧ i = .int .i64 k ∧ (k = 0 → ao = none) ∧ vi = .slice ai k ci ∧ vo = .slice ao k co ∧ BOwn wr wm.heap.size vi ((List.range k).map (keyByte K 0x36)) ∧ BOwn wr wm.heap.size vo ((List.range k).map (keyByte K 0x5c)) ∧
          (∀ i, vi.ownBlock = some i → vo.ownBlock = some i → False) ∧ Ch (fun _ => False) wm wr) (fun _ _ i _ => 64 - (intOf i).toNat)
      case atStart => exact ⟨0, none, none, 0, 0, by omega, rfl, fun _ => rfl, rfl, rfl, BOwn.nil _ _, BOwn.nil _ _, (fun i e => by cases e), Ch.refl _ _⟩
      case round =>
        obtain ⟨k, ai, ao, ci, co, hk, rfl, h0, rfl, rfl, hoi, hoo, hap, hch⟩ := hrel
        have lw := hch.size
        have HAP := Lib.hid hap
        have H0 := Lib.hid h0
        clear hap h0
        have hli : ((List.range k).map (keyByte K 0x36)).length = k := by simp
        have hlo : ((List.range k).map (keyByte K 0x5c)).length = k := by simp
        have HLI := Lib.hid hli
        have HLO := Lib.hid hlo
        clear hli hlo
        by_cases hlt : k < 64
        · have l64 : (k : Int) < 64 := by omega
          have ck := hch.cell (HKC.out k hlt) id
          go_wp2_with (first
            | (refine wpList_append_byte rfl (.tmp 32) (.tmp 38) rfl wm.heap.size (.slice ai k ci) _ rfl hoi (keyByte K 0x36 k) _ rfl rfl (k + 1) (by rw [HLI.out]) (by omega) lw ?_
               intro a3 c3 w3 hoi3 hch3
               have hoo3 := hoo.ch' hch3 (fun i e e' => HAP.out i e' e)
               have hcm3 : Ch (fun _ => False) wm w3 := hch.trans hch3 (fun i hi e => by have := hoi.block_le i e; omega)
               have ck3 := hcm3.cell (HKC.out k hlt) id
               have lw3 := hcm3.size)
            | (refine wpList_append_byte rfl (.tmp 40) (.tmp 46) rfl wm.heap.size (.slice ao k co) _ rfl hoo3 (keyByte K 0x5c k) _ rfl rfl (k + 1) (by rw [HLO.out]) (by omega) lw3 ?_
               intro a4 c4 w4 hoo4 hch4))
          have hoi4 : BOwn w4 wm.heap.size (.slice a3 (k + 1) c3) ((List.range k).map (keyByte K 0x36) ++ [keyByte K 0x36 k]) := by
            refine hoi3.ch' hch4 (fun i e e' => ?_)
            by_cases h0 : k = 0
            · have hz := H0.out h0
              subst hz
              cases e'
            · exact BOwn.apart hoi3 hoo3 (x := keyByte K 0x36 0) (y := keyByte K 0x5c 0) (by rw [List.getElem?_append_left (by simp; omega), List.getElem?_map, List.getElem?_range (by omega)]; rfl) (by rw [List.getElem?_map, List.getElem?_range (by omega)]; rfl) (keyByte_zero_ne K) i e e'
          go_roundw
          case rel =>
            rw [← List.map_singleton, ← List.map_append, ← List.range_succ] at hoi4 hoo4
            refine ⟨k + 1, a3, a4, c3, c4, by omega, by go_num, (fun e => by omega), rfl, rfl, hoi4, hoo4, ?_, hcm3.trans hch4 (fun i hi e => by have := hoo3.block_le i e; omega)⟩
            exact BOwn.apart hoi4 hoo4 (x := keyByte K 0x36 0) (y := keyByte K 0x5c 0) (by rw [List.getElem?_map, List.getElem?_range (by omega)]; rfl) (by rw [List.getElem?_map, List.getElem?_range (by omega)]; rfl) (keyByte_zero_ne K)
          case measure => simp [intOf]; omega
        · obtain rfl : k = 64 := by omega
          clear hlt hk H0
          have hKI : (List.range 64).map (keyByte K 0x36) = keyBlock ks 0x36 := by rw [HKO.out]; rfl
          have hKOut : (List.range 64).map (keyByte K 0x5c) = keyBlock ks 0x5c := by rw [HKO.out]; rfl
          rw [hKI] at hoi
          rw [hKOut] at hoo
          have hcwr := hcw3.trans hch (fun _ _ e => e)
          have hR4 := hch.blk hR3 id
          have hs4 := hs1.ch hcwr (fun _ e => e)
          have lw0 := hcwr.size
          clear hKI hKOut hcw3 hR3 HKC hch HLI HLO
          go_wp2_with (refine wpList_append_bytes rfl (.tmp 48) (.tmp 49) rfl wm.heap.size (.slice ai 64 ci) _ rfl hoi xs a1 xs.length c1 rfl rfl HN1.out hs4 (64 + xs.length) (by rw [keyBlock_length]) (by omega) lw ?_; intro a5 c5 w5 hoi5 hch5; have hoo5 := hoo.ch' hch5 (fun i e e' => HAP.out i e' e))
          have hc5 : Ch (fun _ => False) w w5 := hcwr.trans hch5 (fun i hi e => by have := hoi.block_le i e; omega)
          have hch5s := hch5.size
          have hR5 := hch5.blk hR4 (fun e => by have := hoi.block_le _ e; have := hR4.lt; omega)
          obtain ⟨a5', c5', he5, hle5, hnil5, hsrc5⟩ := hoi5.shape
          have hl5 : (keyBlock ks 0x36 ++ xs).length = 64 + xs.length := by rw [List.length_append, keyBlock_length]
          rw [hl5] at he5 hle5
          injection he5 with e1 _ e2
          subst e1 e2
          have hcall := refSum_any (keyBlock ks 0x36 ++ xs) a5 c5 w5 (by rw [hl5]; exact hle5) hnil5 (hsrc5.mono (fun _ e => e.elim)) (by rw [hl5]; omega)
          rw [hl5] at hcall
          refine hcall.mono ?_
          clear hcall hsrc5 hnil5 hle5 hoi5 hl5 hoi hoo hcwr hR4 hs4 hch5 HN HN1 hs
          rintro e w6 ⟨rfl, hc6⟩
          have hoo6 := hoo5.ch hc6 (fun _ e => e.elim)
          have hR6 := hc6.blk hR5 id
          have hcw6 := hc5.trans hc6 (fun _ _ e => e)
          have lw6 : wm.heap.size ≤ w6.heap.size := by have := hc6.size; omega
          clear hc6 hc5 hR5 hoo5
          generalize hM : keyBlock ks 0x36 ++ xs = M at *
          have HM := Lib.hid hM
          clear hM
          go_wp2_with (first
            | (refine wpList_store_blk rfl 24 (.tmp 10) (.tmp 52) rfl w6.heap.size (bArr (sha M) 32) rfl rfl 24 (bArr (fun _ => 0) 32) (Blk.new w6 24 (bArr (fun _ => 0) 32)) 32 (by kernel_rfl) (bArr_size _ _) (bArr_size _ _) (oneCell_bArr _ _) ?_
               intro w7 hS hc7'
               have hc7 : Ch (fun _ => False) w6 w7 := ((Ch.refl _ w6).alloc _).trans hc7' (fun i hi e => by have e' : i = w6.heap.size := e; omega)
               have hsrc7 : Src (fun _ => False) w7 (some ⟨w6.heap.size, 0, none⟩) (shaKey M) := fun _ =>
                 ⟨w6.heap.size, 0, rfl, id, fun j y hj => by
                  have hj32 : j < 32 := by
                    have := (List.getElem?_eq_some_iff.1 hj).1
                    rwa [shaKey_length] at this
                  rw [shaKey_get M j hj32] at hj
                  cases hj
                  rw [Nat.zero_add]
                  exact hS.cell (bArr_get _ _ _ hj32)⟩
               have hoo7 := hoo6.ch hc7 (fun _ e => e.elim))
            | (refine wpList_append_bytes rfl (.tmp 53) (.tmp 54) rfl wm.heap.size (.slice ao 64 co) _ rfl hoo7 (shaKey M) (some ⟨w6.heap.size, 0, none⟩) 32 32 rfl (shaKey_length M).symm (fun e => by cases e) hsrc7 96 (by rw [keyBlock_length, shaKey_length]) (by omega) (by have := hc7.size; omega) ?_
               intro a8 c8 w8 hoo8 hch8))
          have hcw7 := hcw6.trans hc7 (fun _ _ e => e)
          have hR7 := hc7.blk hR6 id
          have hcw8 : Ch (fun _ => False) w w8 := hcw7.trans hch8 (fun i hi e => by have := hoo7.block_le i e; omega)
          have hR8 := hch8.blk hR7 (fun e => by have := hoo7.block_le _ e; omega)
          obtain ⟨a8', c8', he8, hle8, hnil8, hsrc8⟩ := hoo8.shape
          have hl8 : (keyBlock ks 0x5c ++ shaKey M).length = 96 := by rw [List.length_append, keyBlock_length, shaKey_length]
          rw [hl8] at he8 hle8
          injection he8 with e1 _ e2
          subst e1 e2
          have hcall := refSum_any (keyBlock ks 0x5c ++ shaKey M) a8 c8 w8 (by rw [hl8]; exact hle8) hnil8 (hsrc8.mono (fun _ e => e.elim)) (by rw [hl8]; omega)
          rw [hl8] at hcall
          refine hcall.mono ?_
          clear hcall hsrc8 hnil8 hle8 hoo8 hl8 hcw7 hR7 hcw6 hR6 hoo6 hS hc7 hc7' hsrc7 hoo7 hch8
          rintro e w9 ⟨rfl, hc9⟩
          have hR9 := hc9.blk hR8 id
          have hcw9 := hcw8.trans hc9 (fun _ _ e => e)
          have hdig : sha (keyBlock ks 0x5c ++ shaKey M) = hmac ks xs := by rw [← HM.out]; rfl
          rw [hdig]
          clear hdig hc9 hR8 hcw8
          go_wp2_with (refine wpList_store_blk rfl 24 (.tmp 4) (.tmp 57) rfl w.heap.size (bArr (hmac ks xs) 32) rfl rfl 24 _ hR9 32 (by kernel_rfl) (bArr_size _ _) (bArr_size _ _) (oneCell_bArr _ _) ?_; intro w10 hR10 hc10)
          refine bodyPost_ret (results_cell_row rfl _ _ w.heap.size 24 (bArr (hmac ks xs) 32) (0, 0) _ rfl hR10 Tryd.underlying24 rfl (by rw [bArr_size]; kernel_rfl)) rfl ⟨rfl, ?_⟩
          exact hcw9.trans hc10 (fun i hi e => by have e' : i = w.heap.size := e; omega)

theorem refMac_any (ks xs : List (BitVec 8)) (a0 a1 : Option Addr) (c0 c1 : Nat) (w : World) (hc0 : ks.length ≤ c0) (hnil : a0 = none → c0 = 0) (hs : Src (fun _ => False) w a0 ks) (hn : ks.length ≤ 140737488355200)
    (_hc1 : xs.length ≤ c1) (hnil1 : a1 = none → c1 = 0) (hs1 : Src (fun _ => False) w a1 xs) (hn1 : xs.length ≤ 140737488355136) :
    Calls Tryd.prog 11 #[.slice a0 ks.length c0, .slice a1 xs.length c1] w fun e w' => e = .returned (.agg (bArr (hmac ks xs) 32)) ∧ Ch (fun _ => False) w w' := by
  by_cases h : ks.length ≤ 64
  · exact refMac_short ks xs a0 a1 c0 c1 w hc0 hnil hs hn _hc1 hnil1 hs1 hn1 h
  · exact refMac_long ks xs a0 a1 c0 c1 w hc0 hnil hs hn _hc1 hnil1 hs1 hn1 (by omega)
end Go.Proofs.YtnnffibnonkocaaDoor
