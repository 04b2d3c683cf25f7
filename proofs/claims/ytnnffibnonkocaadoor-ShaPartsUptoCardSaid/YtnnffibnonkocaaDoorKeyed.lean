/-
  keyed: the walks.
-/
import Derived.Test.YtnnffibnonkocaaDoorRows
import Derived.Test.YtnnffibnonkocaaDoorBlock
import Derived.Test.YtnnffibnonkocaaDoorShaSum
import Derived.Test.YtnnffibnonkocaaDoorDigest
import Derived.RangeFuncNested
import Derived.RangeFuncBound
import Derived.RangeFuncCalls
import Derived.RangeFuncLeaves
import Derived.Shelf.Abstract
import Derived.Shelf.RegionOpen
import Derived.WalkKit
import Derived.OwnWalkIn
import Derived.TacticsInMore
import Derived.LoopNIn
import Derived.LoopIn
import Derived.WalkSpells
import Derived.WalkLawsBesides
import Derived.Lib.Hide
import Derived.BigQuiet
namespace Go.Proofs.YtnnffibnonkocaaDoor
open Go.RowKit Go.Shelf
attribute [local go_sem] Oper.semAt_some
@[local go_sem] theorem b8_xor_zero (t : TypeId) (y : BitVec 8) : binOp .xor t (.int .u8 0) (U8 y) = pure (U8 y) := by
  have := b8_xor t 0 y
  have e : (0 ^^^ y : BitVec 8) = y := by simp
  rwa [e] at this
/-- a digest, as a list -/
def shaKey (ks : List (BitVec 8)) : List (BitVec 8) := (List.range 32).map (sha ks)
theorem shaKey_length (ks : List (BitVec 8)) : (shaKey ks).length = 32 := by simp [shaKey]
theorem shaKey_get (ks : List (BitVec 8)) (k : Nat) (h : k < 32) : (shaKey ks)[k]? = some (sha ks k) := by
  rw [shaKey, List.getElem?_map, List.getElem?_range h, Option.map_some]
/-- a key, made short -/
def keyOf (ks : List (BitVec 8)) : List (BitVec 8) := if ks.length > 64 then shaKey ks else ks
def keyByte (ks : List (BitVec 8)) (by_ : BitVec 8) (i : Nat) : BitVec 8 := ks.getD i 0 ^^^ by_
def keyBlock (ks : List (BitVec 8)) (by_ : BitVec 8) : List (BitVec 8) := (List.range 64).map (keyByte (keyOf ks) by_)

set_option maxHeartbeats 1000000 in
set_option maxRecDepth 100000 in
theorem keyed_short (ks : List (BitVec 8)) (a0 : Option Addr) (c0 : Nat) (by_ : BitVec 8) (w : World) (hL : Laid w) (hc0 : ks.length ≤ c0) (hs : Src (fun _ => False) w a0 ks) (hn : ¬ ks.length > 64) :
    Calls Tryd.prog 20 #[.slice a0 ks.length c0, U8 by_] w fun e w' => ∃ B, e = .returned (.pointer (some ⟨B, 0, none⟩)) ∧ w.heap.size ≤ B ∧
      Blk w' B 50 (hArr (HS.begin.write (keyBlock ks by_)).h (HS.begin.write (keyBlock ks by_)).o (HS.begin.write (keyBlock ks by_)).n) ∧ Ch (fun _ => False) w w' := by
  have g64 : ¬ (64 : Int) < ks.length := by omega
  have hko : keyOf ks = ks := if_neg hn
  have HKO := Lib.hid hko
  clear hko
  go_enter Tryd.func20, Tryd.ntmps20
  go_wp2_with fail
  refine (new_any w hL).mono ?_
  rintro e w1 ⟨rfl, hb1, hc1⟩
  have hl1 := hb1.lt
  have hl2 := hL.lt
  have hL1 := hL.ch hc1 (fun _ e => e.elim)
  have hs1 := (hs.older hc1 (fun _ e => e)).mono (Y := fun i => w.heap.size ≤ i) (fun i e => Or.inr e)
  generalize hB : w.heap.size = B at *
  go_wp2_with fail
  go_loopw [16] (fun i wr => ∃ k : Nat, k ≤ 64 ∧ i = .int .i64 k ∧ (let t := HS.begin.write ((List.range k).map (keyByte ks by_)); Blk wr B 50 (hArr t.h t.o t.n)) ∧ Ch (· = B) w1 wr) (fun i _ => 64 - (intOf i).toNat)
  case atStart => exact ⟨0, by omega, rfl, hb1, Ch.refl _ _⟩
  case round =>
    obtain ⟨k, hk, rfl, hb, hch⟩ := hrel
    have hN : (HS.begin.write ((List.range k).map (keyByte ks by_))).n = k := by rw [HS.write_n]; simp [HS.begin]
    by_cases hlt : k < 64
    · have l64 : (k : Int) < 64 := by omega
      have hK2 := (hL1.ch hch (fun i e => by have e' : i = B := e; omega)).consts
      have HK2 := Lib.hid hK2
      clear hK2
      have fin : ∀ (x : BitVec 8) (w3 : World), x = keyByte ks by_ k → Blk w3 B 50 (hArr ((HS.begin.write ((List.range k).map (keyByte ks by_))).push x).h ((HS.begin.write ((List.range k).map (keyByte ks by_))).push x).o ((HS.begin.write ((List.range k).map (keyByte ks by_))).push x).n) →
          (let t := HS.begin.write ((List.range (k + 1)).map (keyByte ks by_)); Blk w3 B 50 (hArr t.h t.o t.n)) := by
        intro x w3 hx hb3
        have : HS.begin.write ((List.range (k + 1)).map (keyByte ks by_)) = (HS.begin.write ((List.range k).map (keyByte ks by_))).push (keyByte ks by_ k) := by
          rw [List.range_succ, List.map_append, List.map_singleton, HS.write_snoc]
        simp only [this]
        subst hx; exact hb3
      have FIN := Lib.hid fin
      clear fin
      by_cases hkl : k < ks.length
      · have lkl : (k : Int) < ks.length := by omega
        obtain ⟨ob, off, rfl, hx, hy⟩ := (hs1.ch (X := fun i => B ≤ i) hch (fun i e => by have e' : i = B := e; omega)) (by intro e; subst e; simp at hkl)
        have cy := hy k _ (List.getElem?_eq_getElem hkl)
        clear hy
        generalize hyk : ks[k] = y at *
        have HYK := Lib.hid hyk
        clear hyk
        go_wp2_with fail
        refine (write1 B (by omega) (y ^^^ by_) _ rfl _ wr hb HK2.out (by rw [hN]; omega)).mono ?_
        rintro e w3 ⟨rfl, hb3, hch3⟩
        go_wp2
        go_roundw
        case rel =>
          refine ⟨k + 1, by omega, by go_num, FIN.out _ _ ?_ hb3, hch.trans hch3 (fun _ _ e => e)⟩
          unfold keyByte
          rw [List.getD, List.getElem?_eq_getElem hkl, HYK.out]
          rfl
        case measure => simp [intOf]; omega
      · have lkl : ¬ (k : Int) < ks.length := by omega
        go_wp2_with fail
        refine (write1 B (by omega) by_ _ rfl _ wr hb HK2.out (by rw [hN]; omega)).mono ?_
        rintro e w3 ⟨rfl, hb3, hch3⟩
        go_wp2
        go_roundw
        case rel =>
          refine ⟨k + 1, by omega, by go_num, FIN.out _ _ ?_ hb3, hch.trans hch3 (fun _ _ e => e)⟩
          unfold keyByte
          rw [List.getD, List.getElem?_eq_none (by omega)]
          simp
        case measure => simp [intOf]; omega
    · obtain rfl : k = 64 := by omega
      go_wp2_with fail
      go_ret
      refine ⟨B, rfl, Nat.le_refl _, ?_, hc1.trans hch (fun i hi e => by have e' : i = B := e; omega)⟩
      unfold keyBlock
      rw [HKO.out]
      exact hb

set_option maxHeartbeats 1000000 in
set_option maxRecDepth 100000 in
theorem keyed_long (ks : List (BitVec 8)) (a0 : Option Addr) (c0 : Nat) (by_ : BitVec 8) (w : World) (hL : Laid w) (hc0 : ks.length ≤ c0) (hs : Src (fun _ => False) w a0 ks) (hn : ks.length > 64) (hnb : ks.length ≤ 1152921504606846976) :
    Calls Tryd.prog 20 #[.slice a0 ks.length c0, U8 by_] w fun e w' => ∃ B, e = .returned (.pointer (some ⟨B, 0, none⟩)) ∧ w.heap.size ≤ B ∧
      Blk w' B 50 (hArr (HS.begin.write (keyBlock ks by_)).h (HS.begin.write (keyBlock ks by_)).o (HS.begin.write (keyBlock ks by_)).n) ∧ Ch (fun _ => False) w w' := by
  have g64 : (64 : Int) < ks.length := by omega
  have hko : keyOf ks = shaKey ks := if_pos hn
  have HKO := Lib.hid hko
  clear hko
  go_enter Tryd.func20, Tryd.ntmps20
  go_wp2_with fail
  refine (shaSum_any ks a0 c0 w hL hc0 hs hnb).mono ?_
  rintro e w0 ⟨rfl, hc00⟩
  go_wp2_with (refine wpList_store_blk rfl 24 (.tmp 5) (.tmp 13) rfl w0.heap.size (bArr (sha ks) 32) rfl rfl 24 (bArr (fun _ => 0) 32) (Blk.new w0 24 (bArr (fun _ => 0) 32)) 32 (by kernel_rfl) (bArr_size _ _) (bArr_size _ _) (oneCell_bArr _ _) ?_; intro wa hKB hca)
  have hcA : Ch (fun _ => False) w wa := (hc00.alloc _).trans hca (fun i hi e => by have e' : i = w0.heap.size := e; have := hc00.size; omega)
  have lKB := hKB.lt
  refine (new_any wa (hL.ch hcA (fun _ e => e.elim))).mono ?_
  rintro e w1 ⟨rfl, hb1, hc1'⟩
  have hKB1 := hc1'.blk hKB id
  have hc1 := hcA.trans hc1' (fun _ _ e => e)
  have hl1 := hb1.lt
  have hl2 := hL.lt
  have hl3 := hcA.size
  have hL1 := hL.ch hc1 (fun _ e => e.elim)
  clear hcA hc00 hca hKB hc1' hs
  generalize hB : wa.heap.size = B at *
  generalize hKK : w0.heap.size = KK at *
  have HBB := Lib.hid hB
  have HKK := Lib.hid hKK
  clear hB hKK
  go_wp2_with fail
  go_loopw [16] (fun i wr => ∃ k : Nat, k ≤ 64 ∧ i = .int .i64 k ∧ (let t := HS.begin.write ((List.range k).map (keyByte (shaKey ks) by_)); Blk wr B 50 (hArr t.h t.o t.n)) ∧ Ch (· = B) w1 wr) (fun i _ => 64 - (intOf i).toNat)
  case atStart => exact ⟨0, by omega, rfl, hb1, Ch.refl _ _⟩
  case round =>
    obtain ⟨k, hk, rfl, hb, hch⟩ := hrel
    have hN : (HS.begin.write ((List.range k).map (keyByte (shaKey ks) by_))).n = k := by rw [HS.write_n]; simp [HS.begin]
    by_cases hlt : k < 64
    · have l64 : (k : Int) < 64 := by omega
      have hK2 := (hL1.ch hch (fun i e => by have e' : i = B := e; omega)).consts
      have HK2 := Lib.hid hK2
      clear hK2
      have fin : ∀ (x : BitVec 8) (w3 : World), x = keyByte (shaKey ks) by_ k → Blk w3 B 50 (hArr ((HS.begin.write ((List.range k).map (keyByte (shaKey ks) by_))).push x).h ((HS.begin.write ((List.range k).map (keyByte (shaKey ks) by_))).push x).o ((HS.begin.write ((List.range k).map (keyByte (shaKey ks) by_))).push x).n) →
          (let t := HS.begin.write ((List.range (k + 1)).map (keyByte (shaKey ks) by_)); Blk w3 B 50 (hArr t.h t.o t.n)) := by
        intro x w3 hx hb3
        have : HS.begin.write ((List.range (k + 1)).map (keyByte (shaKey ks) by_)) = (HS.begin.write ((List.range k).map (keyByte (shaKey ks) by_))).push (keyByte (shaKey ks) by_ k) := by
          rw [List.range_succ, List.map_append, List.map_singleton, HS.write_snoc]
        simp only [this]
        subst hx; exact hb3
      have FIN := Lib.hid fin
      clear fin
      by_cases hkl : k < 32
      · have lkl : (k : Int) < 32 := by omega
        have cy := (hch.blk hKB1 (fun e => by have e' : KK = B := e; omega)).cell (bArr_get (sha ks) 32 k hkl)
        generalize hyk : sha ks k = y at *
        have HYK := Lib.hid hyk
        clear hyk
        go_wp2_with fail
        refine (write1 B (by omega) (y ^^^ by_) _ rfl _ wr hb HK2.out (by rw [hN]; omega)).mono ?_
        rintro e w3 ⟨rfl, hb3, hch3⟩
        go_wp2
        go_roundw
        case rel =>
          refine ⟨k + 1, by omega, by go_num, FIN.out _ _ ?_ hb3, hch.trans hch3 (fun _ _ e => e)⟩
          unfold keyByte
          rw [List.getD, shaKey_get _ _ hkl, HYK.out]
          rfl
        case measure => simp [intOf]; omega
      · have lkl : ¬ (k : Int) < 32 := by omega
        go_wp2_with fail
        refine (write1 B (by omega) by_ _ rfl _ wr hb HK2.out (by rw [hN]; omega)).mono ?_
        rintro e w3 ⟨rfl, hb3, hch3⟩
        go_wp2
        go_roundw
        case rel =>
          refine ⟨k + 1, by omega, by go_num, FIN.out _ _ ?_ hb3, hch.trans hch3 (fun _ _ e => e)⟩
          unfold keyByte
          rw [List.getD, List.getElem?_eq_none (by rw [shaKey_length]; omega)]
          simp
        case measure => simp [intOf]; omega
    · obtain rfl : k = 64 := by omega
      go_wp2_with fail
      go_ret
      refine ⟨B, rfl, by have := HBB.out; omega, ?_, hc1.trans hch (fun i hi e => by have e' : i = B := e; have := HBB.out; omega)⟩
      unfold keyBlock
      rw [HKO.out]
      exact hb

theorem keyed_any (ks : List (BitVec 8)) (a0 : Option Addr) (c0 : Nat) (by_ : BitVec 8) (v : Value) (hv : v = U8 by_) (w : World) (hL : Laid w) (hc0 : ks.length ≤ c0) (hs : Src (fun _ => False) w a0 ks) (hnb : ks.length ≤ 1152921504606846976) :
    Calls Tryd.prog 20 #[.slice a0 ks.length c0, v] w fun e w' => ∃ B, e = .returned (.pointer (some ⟨B, 0, none⟩)) ∧ w.heap.size ≤ B ∧
      Blk w' B 50 (hArr (HS.begin.write (keyBlock ks by_)).h (HS.begin.write (keyBlock ks by_)).o (HS.begin.write (keyBlock ks by_)).n) ∧ Ch (fun _ => False) w w' := by
  subst hv
  by_cases h : ks.length > 64
  · exact keyed_long ks a0 c0 by_ w hL hc0 hs h hnb
  · exact keyed_short ks a0 c0 by_ w hL hc0 hs h
theorem keyBlock_length (ks : List (BitVec 8)) (b : BitVec 8) : (keyBlock ks b).length = 64 := by simp [keyBlock]
end Go.Proofs.YtnnffibnonkocaaDoor
