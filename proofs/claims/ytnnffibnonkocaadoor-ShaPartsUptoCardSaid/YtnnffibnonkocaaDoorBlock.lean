/-
  One block's work: the walk of (*Hash).block.
-/
import Derived.Test.YtnnffibnonkocaaDoorSmall
import Derived.Test.YtnnffibnonkocaaDoorBlockLem
import Derived.StillTailTactics
namespace Go.Proofs.YtnnffibnonkocaaDoor
open Go.RowKit
set_option maxHeartbeats 1000000 in
set_option maxRecDepth 100000 in
theorem block_any (B : Nat) (hB2 : 2 ≤ B) (h : S8) (o : Nat → BitVec 8) (n : Nat) (w : World) (hB : Blk w B 50 (hArr h o n)) (hK : ∀ j, j < 64 → w.cell? ⟨1, j, none⟩ = some (U32 (kAt j))) :
    Calls Tryd.prog 22 #[.pointer (some ⟨B, 0, none⟩), .slice (some ⟨B, 8, none⟩) 64 64] w fun e w' => e = .returned (.tuple #[]) ∧ Blk w' B 50 (hArr (compress h o) o n) ∧ Ch (· = B) w w' := by
  have HK := Lib.hid hK
  clear hK
  go_enter Tryd.func22, Tryd.ntmps22
  go_wp2
  go_loopw [15] (fun i wr => ∃ (k : Nat) (f : Nat → BitVec 32), k ≤ 64 ∧ i = .int .i64 k ∧ Blk wr w.heap.size 43 (wArr f 64) ∧ (∀ j, j < k → f j = sched o j) ∧ Ch (fun _ => False) w wr) (fun i _ => 64 - (intOf i).toNat)
  case atStart => exact ⟨0, fun _ => 0, by omega, rfl, Blk.new w 43 _, fun j hj => absurd hj (by omega), (Ch.refl _ w).alloc _⟩
  case round =>
    obtain ⟨k, f, hk, rfl, hA, hf, hch⟩ := hrel
    have HF := Lib.hid hf
    clear hf
    by_cases h64 : k < 64
    · have hcA := hA.cellAt k h64
      have hfA := hA.free k
      by_cases h16 : k < 16
      · have hbb : Blk wr B 50 (hArr h o n) := hch.blk hB (fun e => e)
        have c0 := hbb.openAt (4 * k) (by omega)
        have c1 := hbb.openAt (4 * k + 1) (by omega)
        have c2 := hbb.openAt (4 * k + 2) (by omega)
        have c3 := hbb.openAt (4 * k + 3) (by omega)
        go_wp2_with fail
        refine (word_any B (8 + 4 * k) _ _ _ _ _ _ wr (by omega) c0 c1 c2 c3).mono ?_
        rintro e w' ⟨rfl, nq, rfl⟩
        clear c0 c1 c2 c3
        go_wp2
        go_roundw
        case rel =>
          obtain ⟨g, r1, r2, r3⟩ := sched_rel (word4 (o (4 * k)) (o (4 * k + 1)) (o (4 * k + 2)) (o (4 * k + 3))) hA HF.out (sched_lo o k h16).symm (Nat.le_refl _) hch ((wr.drewN nq).setCell ⟨w.heap.size, k, none⟩ (U32 (word4 (o (4 * k)) (o (4 * k + 1)) (o (4 * k + 2)) (o (4 * k + 3))))) rfl rfl rfl rfl
          exact ⟨k + 1, g, by omega, by go_num, r1, r2, r3⟩
        case measure => simp [intOf]; omega
      · have c16 := hA.cellAt (k - 16) (by omega)
        have c15 := hA.cellAt (k - 15) (by omega)
        have c7 := hA.cellAt (k - 7) (by omega)
        have c2 := hA.cellAt (k - 2) (by omega)
        have i15 : IntKind.i64.wrap ((k : Int) - 15) = (k : Int) - 15 := IntWalk.i64_in _ (by omega)
        have i2 : IntKind.i64.wrap ((k : Int) - 2) = (k : Int) - 2 := IntWalk.i64_in _ (by omega)
        have i16 : IntKind.i64.wrap ((k : Int) - 16) = (k : Int) - 16 := IntWalk.i64_in _ (by omega)
        have i7 : IntKind.i64.wrap ((k : Int) - 7) = (k : Int) - 7 := IntWalk.i64_in _ (by omega)
        have t15 : ((k : Int) - 15).toNat = k - 15 := by omega
        have t2 : ((k : Int) - 2).toNat = k - 2 := by omega
        have t16 : ((k : Int) - 16).toNat = k - 16 := by omega
        have t7 : ((k : Int) - 7).toNat = k - 7 := by omega
        have l15 : (k : Int) - 15 < 64 := by omega
        have l2 : (k : Int) - 2 < 64 := by omega
        have l16 : (k : Int) - 16 < 64 := by omega
        have l7 : (k : Int) - 7 < 64 := by omega
        have g16 : (16 : Int) ≤ k := by omega
        have g15 : (15 : Int) ≤ k := by omega
        have g7 : (7 : Int) ≤ k := by omega
        have g2 : (2 : Int) ≤ k := by omega
        go_wp2_with fail
        go_quiet (fail)
        replace hA := hA.drewN nq
        replace hch := hch.drewN nq
        replace hcA := hA.cellAt k h64
        replace hfA := hA.free k
        replace c16 := hA.cellAt (k - 16) (by omega)
        replace c7 := hA.cellAt (k - 7) (by omega)
        clear c15 c2
        generalize wr.drewN nq = wq at *
        go_wp2_with fail
        refine wp_region_quiet_tail 29 (by kernel_rfl) (by kernel_rfl) ?_
        simp only [List.take_succ_cons, List.take_zero, List.drop_succ_cons, List.drop_zero]
        repeat (go_big_quiet_step ((go_at_call 25; exact right_q _ (by decide) (by decide) _ _ _)))
        refine wpQuiet_nil ?_
        intro _ hw'
        obtain ⟨nq2, hw''⟩ := hw'
        subst hw''
        go_wp2
        go_roundw
        case rel =>
          obtain ⟨g, r1, r2, r3⟩ := sched_rel (f (k - 16) + f (k - 7) + sig0 (f (k - 15)) + sig1 (f (k - 2))) hA HF.out (by
            rw [sched_hi o k (by omega), HF.out _ (by omega), HF.out _ (by omega), HF.out _ (by omega), HF.out (k - 2) (by omega)]) (Nat.le_refl _) hch ((wq.drewN nq2).setCell ⟨w.heap.size, k, none⟩ (U32 (f (k - 16) + f (k - 7) + sig0 (f (k - 15)) + sig1 (f (k - 2))))) rfl rfl rfl rfl
          exact ⟨k + 1, g, by omega, by go_num, r1, r2, r3⟩
        case measure => simp [intOf]; omega
    · obtain rfl : k = 64 := by omega
      have hbb : Blk wr B 50 (hArr h o n) := hch.blk hB (fun e => e)
      have w0 := hbb.wordAt 0 (by omega)
      have w1 := hbb.wordAt 1 (by omega)
      have w2 := hbb.wordAt 2 (by omega)
      have w3 := hbb.wordAt 3 (by omega)
      have w4 := hbb.wordAt 4 (by omega)
      have w5 := hbb.wordAt 5 (by omega)
      have w6 := hbb.wordAt 6 (by omega)
      have w7 := hbb.wordAt 7 (by omega)
      simp only [S8.get] at w0 w1 w2 w3 w4 w5 w6 w7
      go_wp2_with fail
      have e8 : (#[U32 h.a, U32 h.b, U32 h.c, U32 h.d, U32 h.e, U32 h.f, U32 h.g, U32 h.h] : Array Value) = wArr (rounds8 o h 0).get 8 := rfl
      rw [e8]
      have hS := Blk.new wr 41 (wArr (rounds8 o h 0).get 8)
      have hA1 := hA.alloc (.cells (wArr (rounds8 o h 0).get 8) 41)
      have hB1 := hbb.alloc (.cells (wArr (rounds8 o h 0).get 8) 41)
      have hch1 := hch.alloc (.cells (wArr (rounds8 o h 0).get 8) 41)
      have hBS := hbb.lt
      have hAS := hA.lt
      have hwS := hch.size
      rw [wArr_congr HF.out] at hA1
      clear w0 w1 w2 w3 w4 w5 w6 w7 hbb hA hch e8
      generalize wr.alloc (.cells (wArr (rounds8 o h 0).get 8) 41) = wb at *
      generalize wr.heap.size = S at *
      go_loopw [69] (fun i wr2 => ∃ k : Nat, k ≤ 64 ∧ i = .int .i64 k ∧ Blk wr2 S 41 (wArr (rounds8 o h k).get 8) ∧ Ch (· = S) wb wr2) (fun i _ => 64 - (intOf i).toNat)
      case atStart => exact ⟨0, by omega, rfl, hS, Ch.refl _ _⟩
      case round =>
        obtain ⟨k, hk2, rfl, hS2, hch2⟩ := hrel
        by_cases hlt : k < 64
        · have l64 : (k : Int) < 64 := by omega
          have hK2 : wr.cell? ⟨1, k, none⟩ = some (U32 (kAt k)) := hch2.cell (hch1.cell (HK.out k hlt) (fun e => e)) (fun e => by have e' : (1 : Nat) = S := e; omega)
          have hA2 := (hch2.blk hA1 (fun e => by have e' : w.heap.size = S := e; omega)).cellAt k hlt
          have c0 := hS2.cellAt 0 (by omega)
          have c1 := hS2.cellAt 1 (by omega)
          have c2 := hS2.cellAt 2 (by omega)
          have c3 := hS2.cellAt 3 (by omega)
          have c4 := hS2.cellAt 4 (by omega)
          have c5 := hS2.cellAt 5 (by omega)
          have c6 := hS2.cellAt 6 (by omega)
          have c7 := hS2.cellAt 7 (by omega)
          simp only [S8.get] at c0 c1 c2 c3 c4 c5 c6 c7
          go_wp2_with fail
          go_quiet (fail)
          clear hK2 hA2 c0 c1 c2 c3 c4 c5 c6 c7
          replace hS2 := hS2.drewN nq
          replace hch2 := hch2.drewN nq
          generalize wr.drewN nq = wx at *
          have hK2 : wx.cell? ⟨1, k, none⟩ = some (U32 (kAt k)) := hch2.cell (hch1.cell (HK.out k hlt) (fun e => e)) (fun e => by have e' : (1 : Nat) = S := e; omega)
          have hA2 := (hch2.blk hA1 (fun e => by have e' : w.heap.size = S := e; omega)).cellAt k hlt
          have c0 := hS2.cellAt 0 (by omega)
          have c1 := hS2.cellAt 1 (by omega)
          have c2 := hS2.cellAt 2 (by omega)
          have c3 := hS2.cellAt 3 (by omega)
          have c4 := hS2.cellAt 4 (by omega)
          have c5 := hS2.cellAt 5 (by omega)
          have c6 := hS2.cellAt 6 (by omega)
          have c7 := hS2.cellAt 7 (by omega)
          simp only [S8.get] at c0 c1 c2 c3 c4 c5 c6 c7
          go_wp2_with fail
          go_quiet (((go_at_call 25; exact right_q _ (by decide) (by decide) _ _ _)))
          clear hK2 hA2 c0 c1 c2 c3 c4 c5 c6 c7
          replace hS2 := hS2.drewN nq
          replace hch2 := hch2.drewN nq
          generalize wx.drewN nq = wy at *
          have hK2 : wy.cell? ⟨1, k, none⟩ = some (U32 (kAt k)) := hch2.cell (hch1.cell (HK.out k hlt) (fun e => e)) (fun e => by have e' : (1 : Nat) = S := e; omega)
          have hA2 := (hch2.blk hA1 (fun e => by have e' : w.heap.size = S := e; omega)).cellAt k hlt
          have c0 := hS2.cellAt 0 (by omega)
          have c1 := hS2.cellAt 1 (by omega)
          have c2 := hS2.cellAt 2 (by omega)
          have c3 := hS2.cellAt 3 (by omega)
          have c4 := hS2.cellAt 4 (by omega)
          have c5 := hS2.cellAt 5 (by omega)
          have c6 := hS2.cellAt 6 (by omega)
          have c7 := hS2.cellAt 7 (by omega)
          simp only [S8.get] at c0 c1 c2 c3 c4 c5 c6 c7
          go_wp2_with fail
          go_quiet (((go_at_call 25; exact right_q _ (by decide) (by decide) _ _ _)))
          clear hK2 hA2 c0 c1 c2 c3 c4 c5 c6 c7
          replace hS2 := hS2.drewN nq
          replace hch2 := hch2.drewN nq
          generalize wy.drewN nq = wz at *
          have hK2 : wz.cell? ⟨1, k, none⟩ = some (U32 (kAt k)) := hch2.cell (hch1.cell (HK.out k hlt) (fun e => e)) (fun e => by have e' : (1 : Nat) = S := e; omega)
          have hA2 := (hch2.blk hA1 (fun e => by have e' : w.heap.size = S := e; omega)).cellAt k hlt
          have c0 := hS2.cellAt 0 (by omega)
          have c1 := hS2.cellAt 1 (by omega)
          have c2 := hS2.cellAt 2 (by omega)
          have c3 := hS2.cellAt 3 (by omega)
          have c4 := hS2.cellAt 4 (by omega)
          have c5 := hS2.cellAt 5 (by omega)
          have c6 := hS2.cellAt 6 (by omega)
          have c7 := hS2.cellAt 7 (by omega)
          simp only [S8.get] at c0 c1 c2 c3 c4 c5 c6 c7
          have f0 := hS2.free 0
          have f1 := hS2.free 1
          have f2 := hS2.free 2
          have f3 := hS2.free 3
          have f4 := hS2.free 4
          have f5 := hS2.free 5
          have f6 := hS2.free 6
          have f7 := hS2.free 7
          go_wp2_with fail
          go_roundw
          case rel =>
            exact ⟨k + 1, by omega, by go_num, hS2.set8 (round (rounds8 o h k) (kAt k) (sched o k)), hch2.set8 (Or.inr rfl) _ _ _ _ _ _ _ _⟩
          case measure => simp [intOf]; omega
        · obtain rfl : k = 64 := by omega
          have hB2 := hch2.blk hB1 (fun e => by have e' : B = S := e; omega)
          have hchB : Ch (fun _ => False) w wr := hch1.trans hch2 (fun i hi e => by have e' : i = S := e; omega)
          clear hA1 hch1 hch2 hB1 hS HK
          go_wp2_with fail
          go_loopw [151] (fun i wr3 => ∃ k : Nat, k ≤ 8 ∧ i = .int .i64 k ∧ Blk wr3 B 50 (hArr (addTo h (rounds8 o h 64) k) o n) ∧ Ch (· = B) wr wr3) (fun i _ => 8 - (intOf i).toNat)
          case atStart => exact ⟨0, by omega, rfl, by rw [addTo_zero]; exact hB2, Ch.refl _ _⟩
          case round =>
            obtain ⟨k, hk3, rfl, hB3, hch3⟩ := hrel
            by_cases hlt : k < 8
            · have hS3 := hch3.blk hS2 (fun e => by have e' : S = B := e; omega)
              have c0 := hB3.wordAt k hlt
              rw [addTo_get _ _ _ hlt] at c0
              have f0 := hB3.free k
              have c1 := hS3.cellAt k hlt
              have l8 : (k : Int) < 8 := by omega
              go_wp2_with fail
              refine wp_region_quiet_tail 13 (by kernel_rfl) (by kernel_rfl) ?_
              simp only [List.take_succ_cons, List.take_zero, List.drop_succ_cons, List.drop_zero]
              repeat (go_big_quiet_step (fail))
              refine wpQuiet_nil ?_
              intro _ hw'
              obtain ⟨nq, hw''⟩ := hw'
              subst hw''
              go_wp2
              go_roundw
              case rel =>
                refine ⟨k + 1, by omega, by go_num, ?_, (hch3.drewN nq).set (Or.inr rfl) _⟩
                have := (hB3.drewN nq).set k (U32 (h.get k + (rounds8 o h 64).get k))
                rw [hArr_set_h _ _ _ _ hlt, addTo_succ] at this
                exact this
              case measure => simp [intOf]; omega
            · obtain rfl : k = 8 := by omega
              go_wp2
              go_end0
              refine ⟨rfl, ?_, ?_⟩
              · rw [addTo_end] at hB3; exact hB3
              · exact (hchB.mono (S' := (· = B)) (fun _ _ e => e.elim)).trans hch3 (fun _ _ e => e)
end Go.Proofs.YtnnffibnonkocaaDoor
