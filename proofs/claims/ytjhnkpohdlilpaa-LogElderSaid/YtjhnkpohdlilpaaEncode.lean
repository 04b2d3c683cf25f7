/-
  A sector written down: the walk of log.encode.
-/
import Derived.Test.YtjhnkpohdlilpaaCopy
import Derived.Laws.CopyOwn
import Derived.Deep.OwnRows
import Derived.Test.YtjhnkpohdlilpaaPut
import Derived.Test.YtjhnkpohdlilpaaRows
import Derived.Test.YtjhnkpohdlilpaaWords
import Derived.Test.YtjhnkpohdlilpaaMem
import Derived.Test.YtjhnkpohdlilpaaTail
import Derived.Test.YtjhnkpohdlilpaaCrc
import Derived.Test.YtjhnkpohdlilpaaArr
import Derived.RangeFuncNested
import Derived.RangeFuncBound
import Derived.RangeFuncCalls
import Derived.RangeFuncLeaves
import Derived.Shelf.Abstract
import Derived.Shelf.RegionOpen
import Derived.WalkKit
import Derived.OwnWalkIn
import Derived.TacticsInMore
import Derived.LoopNIn
import Derived.LoopIn
import Derived.WalkSpells
import Derived.WalkLawsBesides
import Derived.Lib.Hide
import Derived.BigQuiet
namespace Go.Proofs.Ytjhnkpohdlilpaa
open Go.RowKit Go.Shelf
attribute [local go_sem] Oper.semAt_some
theorem info5 : (Try.prog.info? 5).map (fun i => (i.zero, i.size, i.bytes)) = some (some (.int .u8 0), 1, 1) := by kernel_rfl
@[go_sem] theorem make64 (w : World) : (Instr.makeSlice 56 (.int .i64 64) (.int .i64 64)).run Try.prog w = .ok (.slice (some ⟨w.heap.size, 0, none⟩) 64 64) (w.alloc (.cells (bArr (fun _ => 0) 64) 5)) := by
  have h := run_make_row' (P := Try.prog) 56 5 (.int .u8 0) 1 Try.underlying56 info5 rfl .i64 .i64 64 (by decide) (by decide) w
  have e : madeCells #[Value.int .u8 0] 64 = bArr (fun _ => 0) 64 := by kernel_rfl
  rw [e] at h
  exact h
/-- a sector written down, but for its sum; whole -/
def encBody (e l : BitVec 32) (p : Nat) (fl : BitVec 8) (bs : List (BitVec 8)) : Nat → BitVec 8 :=
  over (fun j => if j = 15 then BitVec.ofNat 8 bs.length else if j = 14 then fl else put32 (put32 (put32 (fun _ => 0) 4 e 4) 8 l 4) 12 (BitVec.ofNat 32 p) 2 j) 16 bs
def encF (e l : BitVec 32) (p : Nat) (fl : BitVec 8) (bs : List (BitVec 8)) : Nat → BitVec 8 :=
  put32 (encBody e l p fl bs) 0 (crc ((List.range 60).map fun i => encBody e l p fl bs (4 + i))) 4
set_option maxHeartbeats 1000000 in
set_option maxRecDepth 100000 in
theorem encode_any (e l : BitVec 32) (p : Nat) (fl : BitVec 8) (bs : List (BitVec 8)) (a0 : Option Addr) (c0 : Nat) (w : World) (hs : Src (fun _ => False) w a0 bs) (hlen : bs.length ≤ 48) (hp : p ≤ 4294967295) :
    Calls Try.prog 31 #[.agg #[U32 e, U32 l, .int .i64 p, U8 fl, .int .i64 bs.length, .slice a0 bs.length c0]] w fun r w' => ∃ B, r = .returned (.slice (some ⟨B, 0, none⟩) 64 64) ∧ w.heap.size ≤ B ∧ Blk w' B 5 (bArr (encF e l p fl bs) 64) ∧ Ch (fun _ => False) w w' := by
  have gp : (p : Int) ≤ 4294967295 := by omega
  go_enter Try.func31, Try.ntmps31
  go_wp2_with fail
  have hS0 : Blk (((w.alloc (.cells #[U32 e, U32 l, .int .i64 p, U8 fl, .int .i64 bs.length, .slice a0 bs.length c0] 73)).alloc (.cells (bArr (fun _ => 0) 64) 5)).alloc (.cells #[.slice (some ⟨w.heap.size + 1, 0, none⟩) 64 64] 56)) w.heap.size 73 #[U32 e, U32 l, .int .i64 p, U8 fl, .int .i64 bs.length, .slice a0 bs.length c0] := ((Blk.new w 73 _).alloc _).alloc _
  have hB0 : Blk (((w.alloc (.cells #[U32 e, U32 l, .int .i64 p, U8 fl, .int .i64 bs.length, .slice a0 bs.length c0] 73)).alloc (.cells (bArr (fun _ => 0) 64) 5)).alloc (.cells #[.slice (some ⟨w.heap.size + 1, 0, none⟩) 64 64] 56)) (w.heap.size + 1) 5 (bArr (fun _ => 0) 64) := by
    have := (Blk.new (w.alloc (.cells #[U32 e, U32 l, .int .i64 p, U8 fl, .int .i64 bs.length, .slice a0 bs.length c0] 73)) 5 (bArr (fun _ => 0) 64)).alloc (.cells #[.slice (some ⟨w.heap.size + 1, 0, none⟩) 64 64] 56)
    rwa [World.size_alloc] at this
  have hV0 : Blk (((w.alloc (.cells #[U32 e, U32 l, .int .i64 p, U8 fl, .int .i64 bs.length, .slice a0 bs.length c0] 73)).alloc (.cells (bArr (fun _ => 0) 64) 5)).alloc (.cells #[.slice (some ⟨w.heap.size + 1, 0, none⟩) 64 64] 56)) (w.heap.size + 1 + 1) 56 #[.slice (some ⟨w.heap.size + 1, 0, none⟩) 64 64] := by
    have := Blk.new ((w.alloc (.cells #[U32 e, U32 l, .int .i64 p, U8 fl, .int .i64 bs.length, .slice a0 bs.length c0] 73)).alloc (.cells (bArr (fun _ => 0) 64) 5)) 56 #[.slice (some ⟨w.heap.size + 1, 0, none⟩) 64 64]
    rwa [World.size_alloc, World.size_alloc] at this
  have hc0 : Ch (fun _ => False) w (((w.alloc (.cells #[U32 e, U32 l, .int .i64 p, U8 fl, .int .i64 bs.length, .slice a0 bs.length c0] 73)).alloc (.cells (bArr (fun _ => 0) 64) 5)).alloc (.cells #[.slice (some ⟨w.heap.size + 1, 0, none⟩) 64 64] 56)) := (((Ch.refl _ w).alloc _).alloc _).alloc _
  change Calls _ _ _ (((w.alloc (.cells #[U32 e, U32 l, .int .i64 p, U8 fl, .int .i64 bs.length, .slice a0 bs.length c0] 73)).alloc (.cells (bArr (fun _ => 0) 64) 5)).alloc (.cells #[.slice (some ⟨w.heap.size + 1, 0, none⟩) 64 64] 56)) _
  generalize (((w.alloc (.cells #[U32 e, U32 l, .int .i64 p, U8 fl, .int .i64 bs.length, .slice a0 bs.length c0] 73)).alloc (.cells (bArr (fun _ => 0) 64) 5)).alloc (.cells #[.slice (some ⟨w.heap.size + 1, 0, none⟩) 64 64] 56)) = w1 at *
  have hVB : w.heap.size + 1 + 1 ≠ w.heap.size + 1 := by omega
  have hSB : w.heap.size ≠ w.heap.size + 1 := by omega
  have hBw : w.heap.size ≤ w.heap.size + 1 := by omega
  generalize hVg : w.heap.size + 1 + 1 = V at *
  clear hVg
  generalize hBg : w.heap.size + 1 = B at *
  clear hBg
  have hSw : w.heap.size ≤ w.heap.size := Nat.le_refl _
  generalize hSg : w.heap.size = S at hS0 hSB ⊢
  have HSG := Lib.hid hSg
  clear hSg hSw
  refine (put_any V B _ 4 4 e w1 (hV0.cell rfl) hVB hB0 (by omega) (by omega)).mono ?_
  rintro e1 w2 ⟨rfl, hB2, hc2⟩
  have hV2 := hc2.blk hV0 hVB
  have hS2 := hc2.blk hS0 hSB
  have hcw2 : Ch (fun _ => False) w w2 := hc0.trans hc2 (fun i hi e => by have e' : i = B := e; omega)
  clear hc0 hc2 hV0 hS0 hB0
  have cS := hS2.cell (j := 1) rfl
  have cV := hV2.cell (j := 0) rfl
  go_wp2_with fail
  refine (put_any V B _ 8 4 l w2 cV hVB hB2 (by omega) (by omega)).mono ?_
  rintro e1 w3 ⟨rfl, hB3, hc3⟩
  have hV3 := hc3.blk hV2 hVB
  have hS3 := hc3.blk hS2 hSB
  have hcw3 : Ch (fun _ => False) w w3 := hcw2.trans hc3 (fun i hi e => by have e' : i = B := e; omega)
  clear hcw2 hc3 hV2 hS2 hB2 cS cV
  have cS := hS3.cell (j := 2) rfl
  have cV := hV3.cell (j := 0) rfl
  go_wp2_with fail
  have hx : Value.int .u32 (p : Int) = U32 (BitVec.ofNat 32 p) := by
    unfold U32
    congr 1
    rw [BitVec.toNat_ofNat]
    omega
  rw [hx]
  clear hx
  refine (put_any V B _ 12 2 (BitVec.ofNat 32 p) w3 cV hVB hB3 (by omega) (by omega)).mono ?_
  rintro e1 w4 ⟨rfl, hB4, hc4⟩
  have hV4 := hc4.blk hV3 hVB
  have hS4 := hc4.blk hS3 hSB
  have hcw4 : Ch (fun _ => False) w w4 := hcw3.trans hc4 (fun i hi e => by have e' : i = B := e; omega)
  clear hcw3 hc4 hV3 hS3 hB3 cS cV
  generalize hf4 : put32 (put32 (put32 (fun _ => 0) 4 e 4) 8 l 4) 12 (BitVec.ofNat 32 p) 2 = f4 at *
  have HF4 := Lib.hid hf4
  clear hf4
  have cS3 := hS4.cell (j := 3) rfl
  have cS4 := hS4.cell (j := 4) rfl
  have cV := hV4.cell (j := 0) rfl
  have cB14 := hB4.cell (bArr_get f4 64 14 (by omega))
  have cB15 := hB4.cell (bArr_get f4 64 15 (by omega))
  have fB14 := hB4.free 14
  have fB15 := hB4.free 15
  have gl : (bs.length : Int) ≤ 48 := by omega
  go_wp2_with fail
  go_region
  have hl8 : Value.int .u8 (bs.length : Int) = U8 (BitVec.ofNat 8 bs.length) := by
    unfold U8
    congr 1
    rw [BitVec.toNat_ofNat]
    omega
  have hB5 : Blk ((w4.setCell ⟨B, 14, none⟩ (U8 fl)).setCell ⟨B, 15, none⟩ (Value.int .u8 (bs.length : Int))).drew B 5 (bArr (fun j => if j = 15 then BitVec.ofNat 8 bs.length else if j = 14 then fl else f4 j) 64) := by
    rw [hl8]
    have := ((hB4.set 14 (U8 fl)).set 15 (U8 (BitVec.ofNat 8 bs.length))).drew
    rw [bArr_set, bArr_set] at this
    exact this
  have hc5 : Ch (· = B) w4 ((w4.setCell ⟨B, 14, none⟩ (U8 fl)).setCell ⟨B, 15, none⟩ (Value.int .u8 (bs.length : Int))).drew := (((Ch.refl (· = B) w4).set (p := ⟨B, 14, none⟩) (Or.inr rfl) _).set (p := ⟨B, 15, none⟩) (Or.inr rfl) _).drew
  generalize ((w4.setCell ⟨B, 14, none⟩ (U8 fl)).setCell ⟨B, 15, none⟩ (Value.int .u8 (bs.length : Int))).drew = w5 at *
  have hV5 := hc5.blk hV4 hVB
  have hS5 := hc5.blk hS4 hSB
  have hcw5 : Ch (fun _ => False) w w5 := hcw4.trans hc5 (fun i hi e => by have e' : i = B := e; omega)
  clear hl8 hc5 hcw4 hV4 hS4 hB4 cS3 cS4 cV cB14 cB15 fB14 fB15
  generalize hf5 : (fun j => if j = 15 then BitVec.ofNat 8 bs.length else if j = 14 then fl else f4 j) = f5 at *
  have HF5 := Lib.hid hf5
  clear hf5
  have cS5 := hS5.cell (j := 5) rfl
  have cV := hV5.cell (j := 0) rfl
  have hs5 := hs.ch hcw5 (fun _ e => e)
  go_wp2_with fail
  refine wp_region_quiet_tail 4 (by kernel_rfl) (by kernel_rfl) ?_
  simp only [List.take_succ_cons, List.take_zero, List.drop_succ_cons, List.drop_zero]
  repeat (go_big_quiet_step (fail))
  refine wpQuiet_nil ?_
  intro _ hw'
  obtain ⟨nq, hw''⟩ := hw'
  subst hw''
  replace hB5 := hB5.drewN nq
  replace hV5 := hV5.drewN nq
  replace hcw5 := hcw5.drewN nq
  clear hs5 cS5 cV hS5
  generalize w5.drewN nq = w6 at *
  have hs6 := hs.ch hcw5 (fun _ e => e)
  have hmin : bs.length = Nat.min bs.length 48 := (Nat.min_eq_left hlen).symm
  refine wpList_copy_bytes rfl (.tmp 30) (.tmp 32) 56 56 rfl 5 Try.underlying56 (by kernel_rfl) B 16 48 48 a0 bs.length c0 rfl rfl f5 64 5 hB5 bs hmin hs6 (by omega) ?_
  intro w7 hB7 hc7
  have hV7 := hc7.blk hV5 hVB
  have hcw7 : Ch (fun _ => False) w w7 := hcw5.trans hc7 (fun i hi e => by have e' : i = B := e; omega)
  clear hs6 hmin hc7 hV5 hcw5 hB5
  generalize hf7 : over f5 16 bs = f7 at *
  have HF7 := Lib.hid hf7
  clear hf7
  have cV := hV7.cell (j := 0) rfl
  have hsrc : Src (fun _ => False) w7 (some ⟨B, 4, none⟩) ((List.range 60).map fun i => f7 (4 + i)) := fun _ => ⟨B, 4, rfl, id, fun j y hy => by
    have hj : j < 60 := by
      have := (List.getElem?_eq_some_iff.1 hy).1
      simpa using this
    rw [List.getElem?_map, List.getElem?_range hj] at hy
    injection hy with hy
    rw [← hy]
    exact hB7.cell (bArr_get f7 64 (4 + j) (by omega))⟩
  go_wp2_with fail
  have hcall := sum_any ((List.range 60).map fun i => f7 (4 + i)) (some ⟨B, 4, none⟩) 60 w7 hsrc (by simp)
  rw [List.length_map, List.length_range] at hcall
  refine hcall.mono ?_
  clear hcall hsrc
  rintro e1 w' ⟨rfl, rfl⟩
  go_wp2_with fail
  refine (put_any V B f7 0 4 (crc ((List.range 60).map fun i => f7 (4 + i))) _ cV hVB hB7 (by omega) (by omega)).mono ?_
  rintro e1 w8 ⟨rfl, hB8, hc8⟩
  have hV8 := hc8.blk hV7 hVB
  have cV8 := hV8.cell (j := 0) rfl
  go_wp2_with fail
  have hcw8 : Ch (fun _ => False) w w8 := hcw7.trans hc8 (fun i hi e => by have e' : i = B := e; omega)
  have h4 := HF4.out
  have h5 := HF5.out
  have h7 := HF7.out
  clear HF4 HF5 HF7
  subst h4
  subst h5
  subst h7
  go_ret
  exact ⟨B, rfl, hBw, hB8, hcw8⟩
end Go.Proofs.Ytjhnkpohdlilpaa
