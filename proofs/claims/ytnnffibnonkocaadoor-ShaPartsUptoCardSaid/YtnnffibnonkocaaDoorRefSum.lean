/-
  The reference's sum: the walk of palatineref07.Sum.
-/
import Derived.Test.YtnnffibnonkocaaDoorRefWords
import Derived.Test.YtnnffibnonkocaaDoorPadded
import Derived.Test.YtnnffibnonkocaaDoorSum
import Derived.RangeFuncNested
import Derived.RangeFuncBound
import Derived.RangeFuncCalls
import Derived.RangeFuncLeaves
import Derived.Shelf.Abstract
import Derived.Shelf.RegionOpen
import Derived.WalkKit
import Derived.OwnWalkIn
import Derived.TacticsInMore
import Derived.LoopNIn
import Derived.LoopIn
import Derived.WalkSpells
import Derived.WalkLawsBesides
import Derived.Lib.Hide
import Derived.BigQuiet
namespace Go.Proofs.YtnnffibnonkocaaDoor
open Go.RowKit Go.Shelf
attribute [local go_sem] Oper.semAt_some
theorem BOwn.flat {w : World} {base n c : Nat} {a : Option Addr} {l : List (BitVec 8)} (h : BOwn w base (.slice a n c) l) (hl : l ≠ []) :
    ∃ g, a = some ⟨g, 0, none⟩ ∧ base ≤ g ∧ g < w.heap.size ∧ ∀ j, j < l.length → w.cell? ⟨g, j, none⟩ = some (U8 (l.getD j 0)) := by
  rcases h.2 with ⟨_, hn⟩ | ⟨g, cap, cur, hv, hb, hg, hle, hm, hs, ht⟩
  · exact absurd (List.eq_nil_of_length_eq_zero hn) hl
  · injection hv with ha hn hc
    refine ⟨g, ha, hb, (Array.getElem?_eq_some_iff.1 hg).1, fun j hj => ?_⟩
    have h1 : (cur.toList.take (l.length * 1))[j]? = some (U8 (l.getD j 0)) := by
      rw [ht, List.getElem?_map, List.getD_eq_getElem?_getD]
      rw [List.getElem?_eq_getElem hj]; rfl
    rw [List.getElem?_take_of_lt (by omega), Array.getElem?_toList] at h1
    simp [World.cell?, hg, h1]
theorem Blk.setd {w : World} {S : Nat} {t : TypeId} {f : Nat → BitVec 32} (h : Blk w S t (wArr f 8)) (s : S8) :
    Blk ((((((((w.setCell ⟨S, 7, none⟩ (U32 s.h)).setCell ⟨S, 6, none⟩ (U32 s.g)).setCell ⟨S, 5, none⟩ (U32 s.f)).setCell ⟨S, 4, none⟩ (U32 s.e)).setCell ⟨S, 3, none⟩ (U32 s.d)).setCell ⟨S, 2, none⟩ (U32 s.c)).setCell ⟨S, 1, none⟩ (U32 s.b)).setCell ⟨S, 0, none⟩ (U32 s.a)) S t (wArr s.get 8) := by
  have h8 := (((((((h.set 7 (U32 s.h)).set 6 (U32 s.g)).set 5 (U32 s.f)).set 4 (U32 s.e)).set 3 (U32 s.d)).set 2 (U32 s.c)).set 1 (U32 s.b)).set 0 (U32 s.a)
  rw [wArr_set, wArr_set, wArr_set, wArr_set, wArr_set, wArr_set, wArr_set, wArr_set] at h8
  rw [wArr_congr (f := s.get) (g := _) (fun i hi => ?_)]
  · exact h8
  · match i, hi with
    | 0, _ => rfl | 1, _ => rfl | 2, _ => rfl | 3, _ => rfl | 4, _ => rfl | 5, _ => rfl | 6, _ => rfl | 7, _ => rfl
theorem Ch.setd {X : Nat → Prop} {a w : World} (h : Ch X a w) {S : Nat} (hS : a.heap.size ≤ S ∨ X S) (v0 v1 v2 v3 v4 v5 v6 v7 : Value) :
    Ch X a ((((((((w.setCell ⟨S, 7, none⟩ v0).setCell ⟨S, 6, none⟩ v1).setCell ⟨S, 5, none⟩ v2).setCell ⟨S, 4, none⟩ v3).setCell ⟨S, 3, none⟩ v4).setCell ⟨S, 2, none⟩ v5).setCell ⟨S, 1, none⟩ v6).setCell ⟨S, 0, none⟩ v7) :=
  (((((((h.set (p := ⟨S, 7, none⟩) hS v0).set (p := ⟨S, 6, none⟩) hS v1).set (p := ⟨S, 5, none⟩) hS v2).set (p := ⟨S, 4, none⟩) hS v3).set (p := ⟨S, 3, none⟩) hS v4).set (p := ⟨S, 2, none⟩) hS v5).set (p := ⟨S, 1, none⟩) hS v6).set (p := ⟨S, 0, none⟩) hS v7
set_option maxHeartbeats 4000000 in
set_option maxRecDepth 100000 in
theorem refSum_any (xs : List (BitVec 8)) (a0 : Option Addr) (c0 : Nat) (w : World) (hc0 : xs.length ≤ c0) (hnil : a0 = none → c0 = 0) (hs : Src (fun _ => False) w a0 xs) (hn : xs.length ≤ 140737488355200) :
    Calls Tryd.prog 9 #[.slice a0 xs.length c0] w fun e w' => e = .returned (.agg (bArr (sha xs) 32)) ∧ Ch (fun _ => False) w w' := by
  have HN := Lib.hid hnil
  clear hnil
  go_enter Tryd.func9, Tryd.ntmps9
  go_wp2_with fail
  have hR := Blk.new w 24 (bArr (fun _ => 0) 32)
  have hcR : Ch (fun _ => False) w (w.alloc (.cells (bArr (fun _ => 0) 32) 24)) := (Ch.refl _ w).alloc _
  change Calls _ _ _ (w.alloc (.cells (bArr (fun _ => 0) 32) 24)) _
  generalize w.alloc (.cells (bArr (fun _ => 0) 32) 24) = wa at *
  refine (padded_any xs a0 c0 wa hc0 HN.out (hs.ch hcR (fun _ e => e)) hn).mono ?_
  rintro e w1 ⟨a1, c1, rfl, hown, hc1⟩
  have hlw := hcR.size
  have hRl := hR.lt
  replace hR := hc1.blk hR id
  replace hcR := hcR.trans hc1 (fun _ _ e => e)
  have hL := padded_length xs
  have hL0 : 0 < nblocks xs.length := by have h0 : 0 < (padded xs).length := by unfold padded padding; simp only [List.length_append, List.length_cons]; omega
                                         omega
  have hLe : (padded xs).length ≤ 140737488355328 := by rw [hL]; unfold nblocks; have := zpad_lt xs.length; omega
  obtain ⟨PB, rfl, hPB1, hPB2, hP⟩ := hown.flat (by intro e; rw [e] at hL; simp at hL; omega)
  clear hown hc1 hs HN
  generalize hPe : padded xs = P at *
  generalize hNe : nblocks xs.length = N at *
  generalize hLe' : P.length = L at *
  have HPe := Lib.hid hPe
  have HNe := Lib.hid hNe
  have HLL := Lib.hid hL
  have HLe' := Lib.hid hLe'
  have HP := Lib.hid hP
  clear hPe hNe hL hLe' hP
  go_wp2_with fail
  refine (first_any w1).mono ?_
  rintro e w2 ⟨rfl, hc2⟩
  have HR := Lib.hid hR
  have HcR := Lib.hid hcR
  have lw2 := hc2.size
  have z41 : ∀ w : World, (zeroValue 41).run Tryd.prog w = .ok (.agg (wArr (fun _ => 0) 8)) w := fun w => by kernel_rfl
  have z43 : ∀ w : World, (zeroValue 43).run Tryd.prog w = .ok (.agg (wArr (fun _ => 0) 64)) w := fun w => by kernel_rfl
  have z24 : ∀ w : World, (zeroValue 24).run Tryd.prog w = .ok (.agg (bArr (fun _ => 0) 32)) w := fun w => by kernel_rfl
  go_wp2_with (refine wpList_store_blk rfl 41 (.tmp 4) (.tmp 21) rfl w2.heap.size (wArr h0s.get 8) rfl rfl 41 _ (Blk.new w2 41 (wArr (fun _ => 0) 8)) 8 (by kernel_rfl) (wArr_size _ _) (wArr_size _ _) (oneCell_wArr _ _) ?_; intro w3 hH hc3)
  have lw3 := hc3.size
  rw [World.size_alloc] at lw3
  have hc13 : Ch (fun _ => False) w1 w3 := (hc2.alloc _).trans hc3 (fun i hi e => by have e' : i = w2.heap.size := e; omega)
  refine (constants_any w3).mono ?_
  rintro e w4 ⟨rfl, hc4⟩
  have lw4 := hc4.size
  go_wp2_with (refine wpList_store_blk rfl 43 (.tmp 5) (.tmp 22) rfl w4.heap.size (wArr kAt 64) rfl rfl 43 _ (Blk.new w4 43 (wArr (fun _ => 0) 64)) 64 (by kernel_rfl) (wArr_size _ _) (wArr_size _ _) (oneCell_wArr _ _) ?_; intro w5 hK hc5)
  have hc15 : Ch (fun _ => False) w1 w5 := ((hc13.trans hc4 (fun _ _ e => e)).alloc _).trans hc5 (fun i hi e => by have e' : i = w4.heap.size := e; omega)
  replace hH := hc5.blk ((hc4.blk hH id).alloc _) (fun e => by have e' : w2.heap.size = w4.heap.size := e; omega)
  have hHK : w2.heap.size < w4.heap.size := by omega
  have hHP : w1.heap.size ≤ w2.heap.size := lw2
  have hRw1 : w.heap.size < w1.heap.size := by omega
  clear hc2 hR hcR lw2 hc3 lw3 hc13 lw4 hc5 hc4
  generalize w2.heap.size = H at *
  generalize w4.heap.size = K at *
  go_loopw [6] (fun i wr => ∃ m q : Nat, m ≤ N ∧ q = 64 * m ∧ i = .int .i64 (q : Int) ∧ Blk wr H 41 (wArr (chain P m).get 8) ∧ Blk wr K 43 (wArr kAt 64) ∧ Ch (fun _ => False) w1 wr) (fun i _ => 64 * N - (intOf i).toNat)
  case atStart => exact ⟨0, 0, by omega, rfl, rfl, hH, hK, hc15⟩
  case round =>
    clear hH hK hc15
    obtain ⟨m, q, hm, hq, rfl, hH, hK, hch⟩ := hrel
    have HQ := Lib.hid hq
    clear hq
    obtain ⟨wo, rfl⟩ : ∃ x, x = wr := ⟨_, rfl⟩
    by_cases hlt : m < N
    · have lq : (q : Int) < L := by have := HQ.out; have := HLL.out; omega
      have gq : (q : Int) + 64 ≤ L := by have := HQ.out; have := HLL.out; omega
      have gL : (L : Int) ≤ 140737488355328 := by omega
      have hlH := hH.lt
      have hlK := hK.lt
      have hsz := hch.size
      go_wp2_with fail
      have hA := Blk.new wo 43 (wArr (fun _ => 0) 64)
      have hHA := hH.alloc (.cells (wArr (fun _ => 0) 64) 43)
      have hKA := hK.alloc (.cells (wArr (fun _ => 0) 64) 43)
      go_loopw [8] (fun i wr => ∃ (k : Nat) (f : Nat → BitVec 32), k ≤ 16 ∧ i = .int .i64 k ∧ Blk wr wo.heap.size 43 (wArr f 64) ∧ (∀ j, j < k → f j = sched (blockOf P m) j) ∧ Ch (fun _ => False) wo wr) (fun i _ => 16 - (intOf i).toNat)
      case atStart => exact ⟨0, fun _ => 0, by omega, rfl, hA, fun j hj => absurd hj (by omega), (Ch.refl _ wo).alloc _⟩
      case round =>
        obtain ⟨k, f, hk, rfl, hA, hf, hchA⟩ := hrel
        have HF := Lib.hid hf
        clear hf
        by_cases h16 : k < 16
        · have hcA := hA.cellAt k (by omega)
          have hfA := hA.free k
          have hPc : ∀ j, j < 4 → wr.cell? ⟨PB, q + 4 * k + j, none⟩ = some (U8 (blockOf P m (4 * k + j))) := fun j hj => by
            have := (hch.trans hchA (fun _ _ e => e)).cell (HP.out (q + 4 * k + j) (by omega)) id
            rw [this, blockOf, HQ.out, Nat.add_assoc]
          have c0 := hPc 0 (by omega)
          have c1 := hPc 1 (by omega)
          have c2 := hPc 2 (by omega)
          have c3 := hPc 3 (by omega)
          rw [Nat.add_zero, Nat.add_zero] at c0
          have l16 : (k : Int) < 16 := by omega
          have t0 : ((q : Int) + 4 * (k : Int)).toNat = q + 4 * k := by omega
          have t1 : ((q : Int) + 4 * (k : Int) + 1).toNat = q + 4 * k + 1 := by omega
          have t2 : ((q : Int) + 4 * (k : Int) + 2).toNat = q + 4 * k + 2 := by omega
          have t3 : ((q : Int) + 4 * (k : Int) + 3).toNat = q + 4 * k + 3 := by omega
          have i4 : IntKind.i64.wrap (4 * (k : Int)) = 4 * (k : Int) := IntWalk.i64_in _ (by omega)
          have i0 : IntKind.i64.wrap ((q : Int) + 4 * (k : Int)) = (q : Int) + 4 * (k : Int) := IntWalk.i64_in _ (by omega)
          have i1 : IntKind.i64.wrap ((q : Int) + 4 * (k : Int) + 1) = (q : Int) + 4 * (k : Int) + 1 := IntWalk.i64_in _ (by omega)
          have i2 : IntKind.i64.wrap ((q : Int) + 4 * (k : Int) + 2) = (q : Int) + 4 * (k : Int) + 2 := IntWalk.i64_in _ (by omega)
          have i3 : IntKind.i64.wrap ((q : Int) + 4 * (k : Int) + 3) = (q : Int) + 4 * (k : Int) + 3 := IntWalk.i64_in _ (by omega)
          have g0 : (q : Int) + 4 * (k : Int) < L := by omega
          have g1 : (q : Int) + 4 * (k : Int) + 1 < L := by omega
          have g2 : (q : Int) + 4 * (k : Int) + 2 < L := by omega
          have g3 : (q : Int) + 4 * (k : Int) + 3 < L := by omega
          have p0 : (0 : Int) ≤ (q : Int) + 4 * (k : Int) := by omega
          have p1 : (0 : Int) ≤ (q : Int) + 4 * (k : Int) + 1 := by omega
          have p2 : (0 : Int) ≤ (q : Int) + 4 * (k : Int) + 2 := by omega
          have p3 : (0 : Int) ≤ (q : Int) + 4 * (k : Int) + 3 := by omega
          clear hPc
          go_wp2_with fail
          refine wp_region_quiet_tail 43 (by kernel_rfl) (by kernel_rfl) ?_
          simp only [List.take_succ_cons, List.take_zero, List.drop_succ_cons, List.drop_zero]
          repeat (go_big_quiet_step (fail))
          refine wpQuiet_nil ?_
          intro _ hw'
          obtain ⟨nq, hw''⟩ := hw'
          subst hw''
          go_wp2
          go_roundw
          case rel =>
            obtain ⟨g, r1, r2, r3⟩ := sched_rel ((blockOf P m (4 * k)).setWidth 32 <<< 24 + (blockOf P m (4 * k + 1)).setWidth 32 <<< 16 + (blockOf P m (4 * k + 2)).setWidth 32 <<< 8 + (blockOf P m (4 * k + 3)).setWidth 32) hA HF.out (by rw [word4_sum, sched_lo _ _ h16]) (Nat.le_refl _) hchA ((wr.drewN nq).setCell ⟨wo.heap.size, k, none⟩ (U32 ((blockOf P m (4 * k)).setWidth 32 <<< 24 + (blockOf P m (4 * k + 1)).setWidth 32 <<< 16 + (blockOf P m (4 * k + 2)).setWidth 32 <<< 8 + (blockOf P m (4 * k + 3)).setWidth 32))) rfl rfl rfl rfl
            exact ⟨k + 1, g, by omega, by go_num, r1, r2, r3⟩
          case measure => simp [intOf]; omega
        · obtain rfl : k = 16 := by omega
          clear h16 hk
          go_wp2_with fail
          go_loopw [9] (fun i wr => ∃ (k : Nat) (f : Nat → BitVec 32), 16 ≤ k ∧ k ≤ 64 ∧ i = .int .i64 k ∧ Blk wr wo.heap.size 43 (wArr f 64) ∧ (∀ j, j < k → f j = sched (blockOf P m) j) ∧ Ch (fun _ => False) wo wr) (fun i _ => 64 - (intOf i).toNat)
          case atStart => exact ⟨16, f, by omega, by omega, rfl, hA, HF.out, hchA⟩
          case round =>
            clear hA HF hchA
            obtain ⟨k, f, hk16, hk, rfl, hA, hf, hchA⟩ := hrel
            have HF := Lib.hid hf
            clear hf
            by_cases h64 : k < 64
            · have hcA := hA.cellAt k h64
              have hfA := hA.free k
              have c16 := hA.cellAt (k - 16) (by omega)
              have c15 := hA.cellAt (k - 15) (by omega)
              have c7 := hA.cellAt (k - 7) (by omega)
              have c2 := hA.cellAt (k - 2) (by omega)
              have i15 : IntKind.i64.wrap ((k : Int) - 15) = (k : Int) - 15 := IntWalk.i64_in _ (by omega)
              have i2 : IntKind.i64.wrap ((k : Int) - 2) = (k : Int) - 2 := IntWalk.i64_in _ (by omega)
              have i16 : IntKind.i64.wrap ((k : Int) - 16) = (k : Int) - 16 := IntWalk.i64_in _ (by omega)
              have i7 : IntKind.i64.wrap ((k : Int) - 7) = (k : Int) - 7 := IntWalk.i64_in _ (by omega)
              have t15 : ((k : Int) - 15).toNat = k - 15 := by omega
              have t2 : ((k : Int) - 2).toNat = k - 2 := by omega
              have t16 : ((k : Int) - 16).toNat = k - 16 := by omega
              have t7 : ((k : Int) - 7).toNat = k - 7 := by omega
              have l15 : (k : Int) - 15 < 64 := by omega
              have l2 : (k : Int) - 2 < 64 := by omega
              have l16 : (k : Int) - 16 < 64 := by omega
              have l7 : (k : Int) - 7 < 64 := by omega
              have g16 : (16 : Int) ≤ k := by omega
              have g15 : (15 : Int) ≤ k := by omega
              have g7 : (7 : Int) ≤ k := by omega
              have g2 : (2 : Int) ≤ k := by omega
              go_wp2_with fail
              refine wp_region_quiet_tail 29 (by kernel_rfl) (by kernel_rfl) ?_
              simp only [List.take_succ_cons, List.take_zero, List.drop_succ_cons, List.drop_zero]
              repeat (go_big_quiet_step ((go_at_call 19; exact R_q _ (by decide) (by decide) _ _ _)))
              refine wpQuiet_nil ?_
              intro _ hw'
              obtain ⟨nq2, hw''⟩ := hw'
              subst hw''
              go_wp2
              go_roundw
              case rel =>
                obtain ⟨g, r1, r2, r3⟩ := sched_rel (f (k - 16) + f (k - 7) + sig0 (f (k - 15)) + sig1 (f (k - 2))) hA HF.out (by
                  rw [sched_hi _ k (by omega), HF.out _ (by omega), HF.out _ (by omega), HF.out _ (by omega), HF.out (k - 2) (by omega)]) (Nat.le_refl _) hchA ((wr.drewN nq2).setCell ⟨wo.heap.size, k, none⟩ (U32 (f (k - 16) + f (k - 7) + sig0 (f (k - 15)) + sig1 (f (k - 2))))) rfl rfl rfl rfl
                exact ⟨k + 1, g, by omega, by omega, by go_num, r1, r2, r3⟩
              case measure => simp [intOf]; omega
            · obtain rfl : k = 64 := by omega
              clear h64 hk hk16
              have hH3 := hchA.blk hH id
              have hK3 := hchA.blk hK id
              have hch3 : Ch (fun _ => False) w1 wr := hch.trans hchA (fun _ _ e => e)
              rw [wArr_congr HF.out] at hA
              have hAlt := hA.lt
              have hHlt := hH3.lt
              have hKlt := hK3.lt
              clear hHA hKA HF hchA
              generalize wo.heap.size = A at *
              obtain ⟨wt, rfl⟩ : ∃ x, x = wr := ⟨_, rfl⟩
              go_wp2_with (first | (refine wpList_load_blk rfl 41 (.tmp 4) rfl H rfl (wArr (chain P m).get 8) _ 41 hH3 Tryd.underlying41 rfl 8 (by kernel_rfl) (wArr_size _ _) ?_) | (refine wpList_store_blk rfl 41 (.tmp 12) (.tmp 117) rfl wt.heap.size (wArr (chain P m).get 8) rfl rfl 41 _ (Blk.new wt 41 (wArr (fun _ => 0) 8)) 8 (by kernel_rfl) (wArr_size _ _) (wArr_size _ _) (oneCell_wArr _ _) ?_; intro wb hS hcb))
              have hchb : Ch (fun _ => False) wt wb := ((Ch.refl _ wt).alloc _).trans hcb (fun i hi e => by have e' : i = wt.heap.size := e; omega)
              have hS0 : Blk wb wt.heap.size 41 (wArr (rounds8 (blockOf P m) (chain P m) 0).get 8) := hS
              replace hH3 := hchb.blk hH3 id
              replace hK3 := hchb.blk hK3 id
              replace hA := hchb.blk hA id
              replace hch3 := hch3.trans hchb (fun _ _ e => e)
              clear hS hcb hchb
              generalize wt.heap.size = S at *
              go_loopw [13] (fun i wr => ∃ k : Nat, k ≤ 64 ∧ i = .int .i64 k ∧ Blk wr S 41 (wArr (rounds8 (blockOf P m) (chain P m) k).get 8) ∧ Ch (· = S) wb wr) (fun i _ => 64 - (intOf i).toNat)
              case atStart => exact ⟨0, by omega, rfl, hS0, Ch.refl _ _⟩
              case round =>
                clear hS0
                obtain ⟨k, hk2, rfl, hS2, hch2⟩ := hrel
                by_cases hlt : k < 64
                · have l64 : (k : Int) < 64 := by omega
                  have hK2 := (hch2.blk hK3 (fun e => by have e' : K = S := e; omega)).cellAt k hlt
                  have hA2 := (hch2.blk hA (fun e => by have e' : A = S := e; omega)).cellAt k hlt
                  have c0 := hS2.cellAt 0 (by omega)
                  have c1 := hS2.cellAt 1 (by omega)
                  have c2 := hS2.cellAt 2 (by omega)
                  have c3 := hS2.cellAt 3 (by omega)
                  have c4 := hS2.cellAt 4 (by omega)
                  have c5 := hS2.cellAt 5 (by omega)
                  have c6 := hS2.cellAt 6 (by omega)
                  have c7 := hS2.cellAt 7 (by omega)
                  simp only [S8.get] at c0 c1 c2 c3 c4 c5 c6 c7
                  go_wp2_with fail
                  go_quiet (((go_at_call 19; exact R_q _ (by decide) (by decide) _ _ _)))
                  clear hK2 hA2 c0 c1 c2 c3 c4 c5 c6 c7
                  replace hS2 := hS2.drewN nq
                  replace hch2 := hch2.drewN nq
                  generalize wr.drewN nq = wx at *
                  have c0 := hS2.cellAt 0 (by omega)
                  have c1 := hS2.cellAt 1 (by omega)
                  have c2 := hS2.cellAt 2 (by omega)
                  have c3 := hS2.cellAt 3 (by omega)
                  have c4 := hS2.cellAt 4 (by omega)
                  have c5 := hS2.cellAt 5 (by omega)
                  have c6 := hS2.cellAt 6 (by omega)
                  have c7 := hS2.cellAt 7 (by omega)
                  simp only [S8.get] at c0 c1 c2 c3 c4 c5 c6 c7
                  go_wp2_with fail
                  go_quiet (((go_at_call 19; exact R_q _ (by decide) (by decide) _ _ _)))
                  clear c0 c1 c2 c3 c4 c5 c6 c7
                  replace hS2 := hS2.drewN nq
                  replace hch2 := hch2.drewN nq
                  generalize wx.drewN nq = wy at *
                  have c0 := hS2.cellAt 0 (by omega)
                  have c1 := hS2.cellAt 1 (by omega)
                  have c2 := hS2.cellAt 2 (by omega)
                  have c3 := hS2.cellAt 3 (by omega)
                  have c4 := hS2.cellAt 4 (by omega)
                  have c5 := hS2.cellAt 5 (by omega)
                  have c6 := hS2.cellAt 6 (by omega)
                  have c7 := hS2.cellAt 7 (by omega)
                  simp only [S8.get] at c0 c1 c2 c3 c4 c5 c6 c7
                  have f0 := hS2.free 0
                  have f1 := hS2.free 1
                  have f2 := hS2.free 2
                  have f3 := hS2.free 3
                  have f4 := hS2.free 4
                  have f5 := hS2.free 5
                  have f6 := hS2.free 6
                  have f7 := hS2.free 7
                  go_wp2_with fail
                  go_roundw
                  case rel =>
                    exact ⟨k + 1, by omega, by go_num, hS2.setd (round (rounds8 (blockOf P m) (chain P m) k) (kAt k) (sched (blockOf P m) k)), hch2.setd (Or.inr rfl) _ _ _ _ _ _ _ _⟩
                  case measure => simp [intOf]; omega
                · obtain rfl : k = 64 := by omega
                  clear hlt hk2
                  have hH5 := hch2.blk hH3 (fun e => by have e' : H = S := e; omega)
                  have hK5 := hch2.blk hK3 (fun e => by have e' : K = S := e; omega)
                  have hch5 : Ch (fun _ => False) w1 wr := hch3.trans hch2 (fun i hi e => by have e' : i = S := e; omega)
                  clear hch2 hH3 hK3 hA hch3
                  obtain ⟨wv, rfl⟩ : ∃ x, x = wr := ⟨_, rfl⟩
                  go_wp2_with fail
                  go_loopw [16] (fun i wr3 => ∃ k : Nat, k ≤ 8 ∧ i = .int .i64 k ∧ Blk wr3 H 41 (wArr (addTo (chain P m) (rounds8 (blockOf P m) (chain P m) 64) k).get 8) ∧ Ch (· = H) wv wr3) (fun i _ => 8 - (intOf i).toNat)
                  case atStart => exact ⟨0, by omega, rfl, by rw [addTo_zero]; exact hH5, Ch.refl _ _⟩
                  case round =>
                    obtain ⟨k, hk3, rfl, hB3, hch3⟩ := hrel
                    by_cases hlt : k < 8
                    · have hS3 := hch3.blk hS2 (fun e => by have e' : S = H := e; omega)
                      have c0 := hB3.cellAt k hlt
                      rw [addTo_get _ _ _ hlt] at c0
                      have f0 := hB3.free k
                      have c1 := hS3.cellAt k hlt
                      have l8 : (k : Int) < 8 := by omega
                      go_wp2_with fail
                      refine wp_region_quiet_tail 9 (by kernel_rfl) (by kernel_rfl) ?_
                      simp only [List.take_succ_cons, List.take_zero, List.drop_succ_cons, List.drop_zero]
                      repeat (go_big_quiet_step (fail))
                      refine wpQuiet_nil ?_
                      intro _ hw'
                      obtain ⟨nq, hw''⟩ := hw'
                      subst hw''
                      go_wp2
                      go_roundw
                      case rel =>
                        refine ⟨k + 1, by omega, by go_num, ?_, (hch3.drewN nq).set (Or.inr rfl) _⟩
                        have := (hB3.drewN nq).set k (U32 ((chain P m).get k + (rounds8 (blockOf P m) (chain P m) 64).get k))
                        rw [wArr_set] at this
                        rw [← addTo_succ]
                        rw [wArr_congr (g := fun j => if j = k then (chain P m).get k + (rounds8 (blockOf P m) (chain P m) 64).get k else (addTo (chain P m) (rounds8 (blockOf P m) (chain P m) 64) k).get j) (fun i hi => S8.of_get _ i hi)]
                        exact this
                      case measure => simp [intOf]; omega
                    · obtain rfl : k = 8 := by omega
                      have hchE : Ch (fun _ => False) w1 wr := hch5.trans hch3 (fun i hi e => by have e' : i = H := e; omega)
                      have hKE := hch3.blk hK5 (fun e => by have e' : K = H := e; omega)
                      rw [addTo_end] at hB3
                      have gq2 : (q : Int) ≤ 140737488355328 := by omega
                      clear hch3 hK5 hch5 hS2 hH5
                      go_wp2_with fail
                      go_roundw
                      case rel =>
                        exact ⟨m + 1, q + 64, by omega, by have := HQ.out; omega, by go_num, hB3, hKE, hchE⟩
                      case measure => have := HQ.out; simp [intOf]; omega
    · obtain rfl : m = N := by omega
      have eq : q = L := by have := HQ.out; have := HLL.out; omega
      subst eq
      have hR := hch.blk HR.out id
      have hcR : Ch (fun _ => False) w wo := HcR.out.trans hch (fun _ _ e => e)
      have hlH := hH.lt
      have hlR := hR.lt
      clear hK hch HP HQ HLL hlt
      go_wp2_with fail
      have hO := Blk.new wo 24 (bArr (fun _ => 0) 32)
      have hb3 := hH.alloc (.cells (bArr (fun _ => 0) 32) 24)
      have hR3 := hR.alloc (.cells (bArr (fun _ => 0) 32) 24)
      have hchX := hcR.alloc (.cells (bArr (fun _ => 0) 32) 24)
      have lw := hcR.size
      clear hR hcR hH
      generalize wo.alloc (.cells (bArr (fun _ => 0) 32) 24) = wz at *
      generalize wo.heap.size = O at *
      go_loopw [18] (fun i wr3 => ∃ (k : Nat) (f : Nat → BitVec 8), k ≤ 32 ∧ i = .int .i64 k ∧ Blk wr3 O 24 (bArr f 32) ∧ (∀ j, j < k → f j = digByte (chain P m) j) ∧ Ch (· = O) wz wr3) (fun i _ => 32 - (intOf i).toNat)
      case atStart => exact ⟨0, fun _ => 0, by omega, rfl, hO, fun j hj => absurd hj (by omega), Ch.refl _ _⟩
      case round =>
        obtain ⟨k, f, hk32, rfl, hO4, hf, hch4⟩ := hrel
        have HF := Lib.hid hf
        clear hf
        by_cases hlt : k < 32
        · have hb4 := hch4.blk hb3 (fun e => by have e' : H = O := e; omega)
          have c0 := hb4.cellAt (k / 4) (by omega)
          have cO := hO4.cell (bArr_get f 32 k hlt)
          have fO := hO4.free k
          have l32 : (k : Int) < 32 := by omega
          have e1 : ((k : Int) / 4).toNat = k / 4 := by omega
          have e2 : (k : Int) / 4 < 8 := by omega
          have e3 : (0 : Int) ≤ (k : Int) / 4 := by omega
          have e4 : ((24 : Int) - (k : Int) % 4 * 8).toNat = 24 - k % 4 * 8 := by omega
          have e5 : (k : Int) % 4 * 8 ≤ 24 := by omega
          have e6 : (24 : Int) - (k : Int) % 4 * 8 ≤ 32 := by omega
          go_wp2
          go_roundw
          case rel =>
            have := hO4.set k (U8 (digByte (chain P m) k))
            rw [bArr_set] at this
            refine ⟨k + 1, _, by omega, by go_num, this, ?_, hch4.set (Or.inr rfl) _⟩
            intro j hj
            by_cases e : j = k
            · subst e; simp
            · simp only [if_neg e]; exact HF.out j (by omega)
          case measure => simp [intOf]; omega
        · obtain rfl : k = 32 := by omega
          have hR4 := hch4.blk hR3 (fun e => by have e' : w.heap.size = O := e; omega)
          rw [bArr_congr HF.out] at hO4
          have hfin : digByte (chain P m) = sha xs := by rw [sha_chain, HNe.out, HPe.out]
          rw [hfin] at hO4
          clear HF hfin
          go_wp2_with (first | (refine wpList_load_blk rfl 24 (.tmp 17) rfl O rfl (bArr (sha xs) 32) _ 24 hO4 Tryd.underlying24 rfl 32 (by kernel_rfl) (bArr_size _ _) ?_) | (refine wpList_store_blk rfl 24 (.tmp 2) (.tmp 242) rfl w.heap.size (bArr (sha xs) 32) rfl rfl 24 _ hR4 32 (by kernel_rfl) (bArr_size _ _) (bArr_size _ _) (oneCell_bArr _ _) ?_; intro w5 hR5 hch5))
          refine bodyPost_ret (results_cell_row rfl _ _ w.heap.size 24 (bArr (sha xs) 32) (0, 0) _ rfl hR5 Tryd.underlying24 rfl (by rw [bArr_size]; kernel_rfl)) rfl ⟨rfl, ?_⟩
          exact (hchX.trans hch4 (fun i hi e => by have e' : i = O := e; omega)).trans hch5 (fun i hi e => by have e' : i = w.heap.size := e; omega)
end Go.Proofs.YtnnffibnonkocaaDoor
