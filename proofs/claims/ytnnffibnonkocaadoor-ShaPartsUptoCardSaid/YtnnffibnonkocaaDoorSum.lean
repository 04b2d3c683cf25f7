/-
  (*Hash).Sum: the walk.
-/
import Derived.Test.YtnnffibnonkocaaDoorRows
import Derived.Test.YtnnffibnonkocaaDoorBlock
import Derived.Test.YtnnffibnonkocaaDoorWrite
import Derived.Test.YtnnffibnonkocaaDoorDigest
import Derived.RangeFuncNested
import Derived.RangeFuncBound
import Derived.RangeFuncCalls
import Derived.RangeFuncLeaves
import Derived.Shelf.Abstract
import Derived.Shelf.RegionOpen
import Derived.WalkKit
import Derived.OwnWalkIn
import Derived.TacticsInMore
import Derived.LoopNIn
import Derived.LoopIn
import Derived.WalkSpells
import Derived.WalkLawsBesides
import Derived.Lib.Hide
import Derived.BigQuiet
namespace Go.Proofs.YtnnffibnonkocaaDoor
open Go.RowKit Go.Shelf
attribute [local go_sem] Oper.semAt_some
theorem Blk.new2 (w : World) (o : Obj) (t : TypeId) (arr : Array Value) : Blk ((w.alloc o).alloc (.cells arr t)) (w.heap.size + 1) t arr := by
  have := Blk.new (w.alloc o) t arr
  rwa [World.size_alloc] at this

theorem u8_lenByte (n k : Nat) : Value.int .u8 ((n : Int) * 8 / 2 ^ (56 - 8 * k) % 256) = U8 (lenByte n k) := by
  unfold U8 lenByte
  congr 1
/-- one byte is written -/
theorem write1 (B : Nat) (hB2 : 2 ≤ B) (x : BitVec 8) (v : Value) (hv : v = U8 x) (s0 : HS) (w : World) (hB : Blk w B 50 (hArr s0.h s0.o s0.n))
    (hK : ∀ j, j < 64 → w.cell? ⟨1, j, none⟩ = some (U32 (kAt j))) (hn : s0.n + 1 ≤ 4611686018427387904) :
    Calls Tryd.prog 13 #[.pointer (some ⟨B, 0, none⟩), .slice (some ⟨w.heap.size, 0, none⟩) 1 1] (w.alloc (.cells #[v] 5)) fun e w' =>
      e = .returned (.tuple #[]) ∧ Blk w' B 50 (hArr (s0.push x).h (s0.push x).o (s0.push x).n) ∧ Ch (· = B) w w' := by
  subst hv
  have lB := hB.lt
  have hlt : (w.alloc (.cells #[U8 x] 5)).heap.size = w.heap.size + 1 := World.size_alloc _ _
  have hs : Src (fun i => i = B ∨ (w.alloc (.cells #[U8 x] 5)).heap.size ≤ i) (w.alloc (.cells #[U8 x] 5)) (some ⟨w.heap.size, 0, none⟩) [x] := fun _ =>
    ⟨w.heap.size, 0, rfl, fun e => by omega, fun j y hj => by
      match j, hj with
      | 0, hj => cases hj; exact (Blk.new w 5 #[U8 x]).cell rfl⟩
  have hc : Ch (fun _ => False) w (w.alloc (.cells #[U8 x] 5)) := (Ch.refl _ w).alloc _
  refine (write_any B hB2 [x] _ 1 s0 _ (hB.alloc _) (fun j hj => hc.cell (hK j hj) id) (Nat.le_refl _) hs hn).mono ?_
  rintro e w' ⟨rfl, hb, hch⟩
  exact ⟨rfl, hb, (hc.mono (S' := (· = B)) (fun _ _ e => e.elim)).trans hch (fun _ _ e => e)⟩

/-- how many bytes a hash says that were written -/
def manyOf (w : World) (B : Nat) : Nat := match w.cell? ⟨B, 72, none⟩ with
  | some (.int _ q) => q.toNat
  | _ => 0
theorem manyOf_eq {w : World} {B : Nat} {t : TypeId} {h : S8} {o : Nat → BitVec 8} {n : Nat} (hb : Blk w B t (hArr h o n)) : manyOf w B = n := by
  have := hb.manyAt
  unfold manyOf; rw [this]; simp

def hZero : Array Value := hArr ⟨0, 0, 0, 0, 0, 0, 0, 0⟩ (fun _ => 0) 0
theorem zero50 (w : World) : (zeroValue 50).run Tryd.prog w = .ok (.agg hZero) w := by kernel_rfl
theorem hZero_size : hZero.size = 73 := hArr_size _ _ _

set_option maxHeartbeats 1000000 in
set_option maxRecDepth 100000 in
theorem sum_any (B : Nat) (s : HS) (w : World) (hB : Blk w B 50 (hArr s.h s.o s.n))
    (hK : ∀ j, j < 64 → w.cell? ⟨1, j, none⟩ = some (U32 (kAt j))) (h1 : 1 < w.heap.size) (hn : s.n ≤ 1152921504606846976) :
    Calls Tryd.prog 14 #[.pointer (some ⟨B, 0, none⟩)] w fun e w' => e = .returned (.agg (bArr s.digest 32)) ∧ Ch (fun _ => False) w w' := by
  have HK := Lib.hid hK
  clear hK
  have gn : (s.n : Int) ≤ 1152921504606846976 := by omega
  have z50 := zero50
  go_enter Tryd.func14, Tryd.ntmps14
  go_wp2_with (first | (refine wpList_load_blk rfl 50 (.tmp 9) rfl B rfl (hArr s.h s.o s.n) _ 50 (hB.alloc _) Tryd.underlying50 rfl 73 (by kernel_rfl) (hArr_size _ _ _) ?_) | (refine wpList_store_blk rfl 50 (.tmp 3) (.tmp 10) rfl (w.heap.size + 1) (hArr s.h s.o s.n) rfl rfl 50 _ (Blk.new2 w _ 50 hZero) 73 (by kernel_rfl) hZero_size (hArr_size _ _ _) (oneCell_hArr _ _ _) ?_; intro w1 hG hch1; have cn := hG.manyAt))
  have hG0 := hG
  have hchA : Ch (fun _ => False) w w1 := (((Ch.refl _ w).alloc _).alloc _).trans hch1 (fun i hi e => by have e' : i = w.heap.size + 1 := e; omega)
  have hR : ∃ arr, arr.size = 32 ∧ Blk w1 w.heap.size 24 arr := ⟨_, rfl, hch1.blk ((Blk.new w 24 _).alloc _) (fun e => by have e' : w.heap.size = w.heap.size + 1 := e; omega)⟩
  clear hch1 z50 cn gn
  generalize hG' : w.heap.size + 1 = G at *
  have hK1 : ∀ j, j < 64 → w1.cell? ⟨1, j, none⟩ = some (U32 (kAt j)) := fun j hj => hchA.cell (HK.out j hj) id
  have HK1 := Lib.hid hK1
  have HG := Lib.hid hG'
  clear hK1 HK hG' hG0
  refine (write1 G (by have := HG.out; omega) 0x80 _ rfl s w1 hG HK1.out (by omega)).mono ?_
  rintro e w2 ⟨rfl, hG2, hch2⟩
  have hGlt : 2 ≤ G := by have := HG.out; omega
  go_wp2_with fail
  go_loopw [] (fun wr => ∃ k : Nat, k ≤ zpad s.n ∧ (let t := (s.push 0x80).write (List.replicate k 0); Blk wr G 50 (hArr t.h t.o t.n)) ∧ Ch (· = G) w1 wr) (fun wr => s.n + 1 + zpad s.n - manyOf wr G)
  case atStart => exact ⟨0, Nat.zero_le _, hG2, hch2⟩
  case round =>
    obtain ⟨k, hk, hb, hch⟩ := hrel
    have hN : ((s.push 0x80).write (List.replicate k 0)).n = s.n + 1 + k := by rw [HS.write_n, List.length_replicate]; rfl
    have hz := zpad_lt s.n
    have hmo := manyOf_eq hb
    rw [hN] at hmo
    have HMO := Lib.hid hmo
    clear hmo
    by_cases hkz : k = zpad s.n
    · have hat := (zpad_at s.n k hk).2 hkz
      have cn := hb.manyAt
      rw [hN] at cn
      generalize hm : s.n + 1 + k = m at *
      have em : (m : Int) % 64 = 56 := by omega
      have lm : (m : Int) ≤ 4611686018427387904 := by omega
      have HM := Lib.hid hm
      clear hm
      go_wp2_with fail
      subst hkz
      generalize hT : (s.push 0x80).write (List.replicate (zpad s.n) 0) = T at *
      have HT := Lib.hid hT
      clear hT hat em lm cn
      go_loopw [23] (fun i wr2 => ∃ k : Nat, k ≤ 8 ∧ i = .int .i64 k ∧ (let t := T.write ((List.range k).map (lenByte s.n)); Blk wr2 G 50 (hArr t.h t.o t.n)) ∧ Ch (· = G) w1 wr2) (fun i _ => 8 - (intOf i).toNat)
      case atStart => exact ⟨0, by omega, rfl, hb, hch⟩
      case round =>
        obtain ⟨k, hk8, rfl, hb2, hch2'⟩ := hrel
        have hN2 : (T.write ((List.range k).map (lenByte s.n))).n = m + k := by rw [HS.write_n, hN]; simp
        by_cases hlt : k < 8
        · have hK2 : ∀ j, j < 64 → wr.cell? ⟨1, j, none⟩ = some (U32 (kAt j)) := fun j hj => hch2'.cell (HK1.out j hj) (fun e => by have e' : 1 = G := e; omega)
          have HK2 := Lib.hid hK2
          clear hK2
          have l8 : (k : Int) < 8 := by omega
          have g1 : 8 * (k : Int) ≤ 56 := by omega
          have g2 : (56 : Int) - 8 * k ≤ 64 := by omega
          have g3 : ((56 : Int) - 8 * k).toNat = 56 - 8 * k := by omega
          have gn : (s.n : Int) ≤ 1152921504606846976 := by omega
          go_wp2_with fail
          refine (write1 G hGlt (lenByte s.n k) _ (u8_lenByte s.n k) _ wr hb2 HK2.out (by have := HM.out; rw [hN2]; omega)).mono ?_
          rintro e w3 ⟨rfl, hb3, hch3⟩
          go_wp2
          go_roundw
          case rel =>
            refine ⟨k + 1, by omega, by go_num, ?_, hch2'.trans hch3 (fun _ _ e => e)⟩
            have : T.write ((List.range (k + 1)).map (lenByte s.n)) = (T.write ((List.range k).map (lenByte s.n))).push (lenByte s.n k) := by
              rw [List.range_succ, List.map_append, List.map_singleton, HS.write_snoc]
            simp only [this]
            exact hb3
          case measure => simp [intOf]; omega
        · obtain rfl : k = 8 := by omega
          have hfin : T.write ((List.range 8).map (lenByte s.n)) = s.fin := by
            rw [← HT.out]
            show _ = s.write (padding s.n)
            unfold padding lenBytes
            rw [← HS.write_append]
            rfl
          rw [hfin] at hb2
          clear hfin hN2
          obtain ⟨Ra, hRs, hRb⟩ := hR
          have hR2 := hch2'.blk hRb (fun e => by have e' : w.heap.size = G := e; have := HG.out; omega)
          have hchW : Ch (fun _ => False) w wr := hchA.trans hch2' (fun i hi e => by have e' : i = G := e; have := HG.out; omega)
          clear hRb hch2' hch hchA hch2 hb hG2 hG
          go_wp2_with fail
          have hO := Blk.new wr 24 (bArr (fun _ => 0) 32)
          have hb3 := hb2.alloc (.cells (bArr (fun _ => 0) 32) 24)
          have hR3 := hR2.alloc (.cells (bArr (fun _ => 0) 32) 24)
          have hchX := hchW.alloc (.cells (bArr (fun _ => 0) 32) 24)
          have lG := hb2.lt
          have lR := hR2.lt
          have lw := hchW.size
          clear hR2 hchW hb2
          change Code.wp _ _ _ _ (wr.alloc (.cells (bArr (fun _ => 0) 32) 24))
          generalize wr.alloc (.cells (bArr (fun _ => 0) 32) 24) = wz at *
          generalize wr.heap.size = O at *
          go_loopw [35] (fun i wr3 => ∃ (k : Nat) (f : Nat → BitVec 8), k ≤ 32 ∧ i = .int .i64 k ∧ Blk wr3 O 24 (bArr f 32) ∧ (∀ j, j < k → f j = s.digest j) ∧ Ch (· = O) wz wr3) (fun i _ => 32 - (intOf i).toNat)
          case atStart => exact ⟨0, fun _ => 0, by omega, rfl, hO, fun j hj => absurd hj (by omega), Ch.refl _ _⟩
          case round =>
            obtain ⟨k, f, hk32, rfl, hO4, hf, hch4⟩ := hrel
            have HF := Lib.hid hf
            clear hf
            by_cases hlt : k < 32
            · have hb4 := hch4.blk hb3 (fun e => by have e' : G = O := e; omega)
              have c0 := hb4.wordAt (k / 4) (by omega)
              have cO := hO4.cell (bArr_get f 32 k hlt)
              have fO := hO4.free k
              have l32 : (k : Int) < 32 := by omega
              have e1 : ((k : Int) / 4).toNat = k / 4 := by omega
              have e2 : (k : Int) / 4 < 8 := by omega
              have e3 : (0 : Int) ≤ (k : Int) / 4 := by omega
              have e4 : ((24 : Int) - (k : Int) % 4 * 8).toNat = 24 - k % 4 * 8 := by omega
              have e5 : (k : Int) % 4 * 8 ≤ 24 := by omega
              have e6 : (24 : Int) - (k : Int) % 4 * 8 ≤ 32 := by omega
              go_wp2
              go_roundw
              case rel =>
                have := hO4.set k (U8 (s.digest k))
                rw [bArr_set] at this
                refine ⟨k + 1, _, by omega, by go_num, this, ?_, hch4.set (Or.inr rfl) _⟩
                intro j hj
                by_cases e : j = k
                · subst e; simp
                · simp only [if_neg e]; exact HF.out j (by omega)
              case measure => simp [intOf]; omega
            · obtain rfl : k = 32 := by omega
              have hR4 := hch4.blk hR3 (fun e => by have e' : w.heap.size = O := e; omega)
              rw [bArr_congr HF.out] at hO4
              go_wp2_with (first | (refine wpList_load_blk rfl 24 (.tmp 6) rfl O rfl (bArr s.digest 32) _ 24 hO4 Tryd.underlying24 rfl 32 (by kernel_rfl) (bArr_size _ _) ?_) | (refine wpList_store_blk rfl 24 (.tmp 2) (.tmp 52) rfl w.heap.size (bArr s.digest 32) rfl rfl 24 Ra hR4 32 (by kernel_rfl) hRs (bArr_size _ _) (oneCell_bArr _ _) ?_; intro w5 hR5 hch5))
              refine bodyPost_ret (results_cell_row rfl _ _ w.heap.size 24 (bArr s.digest 32) (0, 0) _ rfl hR5 Tryd.underlying24 rfl (by rw [bArr_size]; kernel_rfl)) rfl ⟨rfl, ?_⟩
              exact (hchX.trans hch4 (fun i hi e => by have e' : i = O := e; omega)).trans hch5 (fun i hi e => by have e' : i = w.heap.size := e; omega)
    · have hat : ¬ (s.n + 1 + k) % 64 = 56 := fun h => hkz ((zpad_at s.n k hk).1 h)
      have cn := hb.manyAt
      rw [hN] at cn
      have hK2 : ∀ j, j < 64 → wr.cell? ⟨1, j, none⟩ = some (U32 (kAt j)) := fun j hj => hch.cell (HK1.out j hj) (fun e => by have e' : 1 = G := e; omega)
      have HK2 := Lib.hid hK2
      clear hK2
      generalize hm : s.n + 1 + k = m at *
      have em : ((m : Int) % 64 != 56) = true := by rw [bne_iff_ne]; omega
      have HM := Lib.hid hm
      have HAT := Lib.hid hat
      clear hm hat
      go_wp2_with fail
      refine (write1 G hGlt 0 _ rfl _ wr hb HK2.out (by rw [hN]; have := HM.out; omega)).mono ?_
      rintro e w3 ⟨rfl, hb3, hch3⟩
      go_wp2
      go_roundw
      case rel =>
        refine ⟨k + 1, by omega, ?_, hch.trans hch3 (fun _ _ e => e)⟩
        have : (s.push 0x80).write (List.replicate (k + 1) 0) = ((s.push 0x80).write (List.replicate k 0)).push 0 := by
          rw [List.replicate_succ', HS.write_snoc]
        simp only [this]
        exact hb3
      case measure =>
        rw [HMO.out, manyOf_eq hb3]
        have : (((s.push 0x80).write (List.replicate k 0)).push 0).n = ((s.push 0x80).write (List.replicate k 0)).n + 1 := rfl
        rw [this, hN]
        have := HM.out
        omega
end Go.Proofs.YtnnffibnonkocaaDoor
