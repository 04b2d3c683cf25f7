/-
  The walk of log.Open.
-/
import Derived.Test.YtjhnkpohdlilpaaOpenBad
import Derived.Test.YtjhnkpohdlilpaaReadAll
import Derived.Test.YtjhnkpohdlilpaaReadLem
import Derived.Test.YtjhnkpohdlilpaaSteps
import Derived.Maps.AppendAt
import Derived.Laws.BytesString
import Derived.Test.YtjhnkpohdlilpaaAppend
import Derived.Test.YtjhnkpohdlilpaaAppendOk
import Derived.Test.YtjhnkpohdlilpaaAppendLem
import Derived.Test.YtjhnkpohdlilpaaLogSmall
import Derived.Test.YtjhnkpohdlilpaaNewDisk
import Derived.Test.YtjhnkpohdlilpaaCrash
import Derived.Test.YtjhnkpohdlilpaaFlush
import Derived.Test.YtjhnkpohdlilpaaWrite
import Derived.Test.YtjhnkpohdlilpaaAppendPend
import Derived.Deep.AppendLies
import Derived.Great.BuildSlice
import Derived.Test.YtjhnkpohdlilpaaDiskLem
import Derived.Test.YtjhnkpohdlilpaaRead
import Derived.Test.YtjhnkpohdlilpaaOut
import Derived.Test.YtjhnkpohdlilpaaDiskSmall
import Derived.Test.YtjhnkpohdlilpaaDisk
import Derived.Test.YtjhnkpohdlilpaaAtom
import Derived.Test.YtjhnkpohdlilpaaDecode
import Derived.Test.YtjhnkpohdlilpaaEncode
import Derived.Test.YtjhnkpohdlilpaaTake
import Derived.Test.YtjhnkpohdlilpaaCopy
import Derived.Laws.CopyOwn
import Derived.Deep.OwnRows
import Derived.Deep.MidRow
import Derived.Test.YtjhnkpohdlilpaaPut
import Derived.Test.YtjhnkpohdlilpaaRows
import Derived.Test.YtjhnkpohdlilpaaWords
import Derived.Test.YtjhnkpohdlilpaaMem
import Derived.Test.YtjhnkpohdlilpaaTail
import Derived.Test.YtjhnkpohdlilpaaCrc
import Derived.Test.YtjhnkpohdlilpaaArr
import Derived.RangeFuncNested
import Derived.RangeFuncBound
import Derived.RangeFuncCalls
import Derived.RangeFuncLeaves
import Derived.Shelf.Abstract
import Derived.Shelf.RegionOpen
import Derived.WalkKit
import Derived.OwnWalkIn
import Derived.TacticsInMore
import Derived.LoopNIn
import Derived.LoopIn
import Derived.WalkSpells
import Derived.WalkLawsBesides
import Derived.Lib.Hide
import Derived.BigQuiet
import Derived.Outline
import Derived.Deep.DeepFit
namespace Go.Proofs.Ytjhnkpohdlilpaa
open Go.RowKit Go.Shelf
attribute [local go_sem] Oper.semAt_some
theorem DM.write_down (d : DM) (n : Int) (l : List (BitVec 8)) : (d.write n l).1 = 0 → (d.write n l).2.down = false := by
  unfold DM.write
  by_cases hd : d.down = true
  · rw [if_pos hd]; intro h; cases h
  · rw [if_neg hd]
    split
    · intro h; cases h
    · split
      · intro h; cases h
      · split
        · rename_i hg
          intro _
          show d.goes.2.down = false
          unfold DM.goes at hg ⊢
          split at hg
          · rename_i h0; rw [if_pos h0]; simpa using hd
          · rename_i h0
            rw [if_neg h0]
            split at hg
            · cases hg
            · rename_i h1; rw [if_neg h1]; simpa using hd
        · intro h; cases h
theorem DM.flush_down (d : DM) : d.flush.1 = 0 → d.down = false → d.flush.2.down = false := by
  unfold DM.flush
  intro h hd
  rw [if_neg (by rw [hd]; simp)] at h ⊢
  split at h
  · rename_i hg
    rw [if_pos hg]
    show d.goes.2.down = false
    unfold DM.goes at hg ⊢
    split at hg
    · rename_i h0; rw [if_pos h0]; exact hd
    · rename_i h0
      rw [if_neg h0]
      split at hg
      · cases hg
      · rename_i h1; rw [if_neg h1]; exact hd
  · cases h
theorem DM.flush_n (d : DM) : d.flush.2.n = d.n := by
  unfold DM.flush
  split
  · rfl
  · split
    · exact DM.goes_n d
    · exact DM.goes_n d
theorem own_base {w : World} {base base' e size n : Nat} {v : Value} {xs : List Value} (h : w.ownsRow base e size v n xs) (hb : base' ≤ base) : w.ownsRow base' e size v n xs := by
  refine ⟨h.1, ?_⟩
  rcases h.2 with h1 | ⟨g, cap, cur, h1, h2, h3⟩
  · exact .inl h1
  · exact .inr ⟨g, cap, cur, h1, Nat.le_trans hb h2, h3⟩
set_option maxHeartbeats 4000000 in
set_option maxRecDepth 100000 in
theorem open_main (D : Nat) (F : Nat → Prop) (d : DM) (f c : Nat) (ep : BitVec 32) (w : World) (h : DiskAt w F D d) (hc : 2 ≤ c) (hfc : f + c ≤ d.n) (hd : d.down = false) (hp : d.pend.length ≤ 1099511627000) :
    Calls Try.prog 10 #[.pointer (some ⟨D, 0, none⟩), .int .i64 f, .int .i64 c, U32 ep] w (OPost w F D (d.open f c ep)) := by
  have hr : d.open f c ep = if headOf (d.now f) = 0xffffffff#32 then (3, d, none) else if (d.head f).1 ≠ 0 then ((d.head f).1, (d.head f).2, none) else if (d.head f).2.flush.1 ≠ 0 then ((d.head f).2.flush.1, (d.head f).2.flush.2, none)
      else (0, (d.head f).2.flush.2, some (⟨f, c, ep, headOf (d.now f) + 1, (openRead (d.head f).2.flush.2 f c ep (headOf (d.now f))).next⟩, (openRead (d.head f).2.flush.2 f c ep (headOf (d.now f))).recs)) := by
    unfold DM.open; rw [if_neg (by rw [hd]; simp)]
  have HR := Lib.hid hr
  clear hr
  have hF := h
  obtain ⟨N, L, pv, h, rfl⟩ := h
  have hn := h.n2
  have b1 : decide ((f : Int) < 0) = false := by simp
  have b2 : decide ((c : Int) < 2) = false := by simp; omega
  have b3 : decide (d.n < f) = false := by simp; omega
  have b4 : decide ((d.n : Int) - f < c) = false := by simp; omega
  have i1 : IntKind.i64.wrap ((d.n : Int) - f) = (d.n : Int) - f := IntWalk.i64_in _ (by omega)
  go_enter Try.func10, Try.ntmps10
  go_wp2_with fail
  refine (sectors_any D N L pv d w h).mono ?_
  rintro e w1 ⟨rfl, rfl⟩
  go_wp2_with fail
  refine (sectors_any D N L pv d _ h).mono ?_
  rintro e w1 ⟨rfl, rfl⟩
  go_wp2_with fail
  refine (read_ok D N L pv d f _ h hd (by omega)).mono ?_
  rintro e w2 ⟨E, rfl, hEw, hE2, hc2⟩
  clear b1 b2 b3 b4 i1
  go_wp2_with fail
  have hB3 := Blk.new w2 71 #[.pointer (some ⟨D, 0, none⟩), .int .i64 f, .int .i64 c, U32 ep, .int .u32 0, .int .i64 1]
  have hE3 := hE2.alloc (.cells #[.pointer (some ⟨D, 0, none⟩), .int .i64 f, .int .i64 c, U32 ep, .int .u32 0, .int .i64 1] 71)
  have hc3 := hc2.alloc (.cells #[.pointer (some ⟨D, 0, none⟩), .int .i64 f, .int .i64 c, U32 ep, .int .u32 0, .int .i64 1] 71)
  have hBw := hc2.size
  change Calls _ _ _ (w2.alloc (.cells #[.pointer (some ⟨D, 0, none⟩), .int .i64 f, .int .i64 c, U32 ep, .int .u32 0, .int .i64 1] 71)) _
  generalize w2.alloc (.cells #[.pointer (some ⟨D, 0, none⟩), .int .i64 f, .int .i64 c, U32 ep, .int .u32 0, .int .i64 1] 71) = w3 at *
  generalize w2.heap.size = B at *
  generalize hsg : d.now f = s at *
  have HSG := Lib.hid hsg
  clear hsg hE2 hc2
  have hdec : Calls Try.prog 29 #[.slice (some ⟨E, 0, none⟩) 64 64] w3 fun r w' => r = .returned (.tuple #[.agg #[U32 (get32 s 4 4), U32 (get32 s 8 4), .int .i64 (get32 s 12 2).toNat, U8 (s 14), .int .i64 (s 15).toNat, .slice (some ⟨E, 16, none⟩) (min (s 15).toNat 48) 48], .bool (sumOk s)]) ∧ Ch (fun _ => False) w3 w' := decode_any E s w3 hE3
  refine hdec.mono ?_
  rintro e w4 ⟨rfl, hc4⟩
  have hB4 := hc4.blk hB3 id
  have hc04 := hc3.trans hc4 (fun _ _ e => e)
  have hBw4 : B < w4.heap.size := hB4.lt
  clear hdec hE3 hB3 hc3 hc4
  have hSne : B ≠ w4.heap.size := by omega
  have cB4 : w4.cell? ⟨B, 4, none⟩ = some (.int .u32 0) := hB4.cell (j := 4) rfl
  have fB4 := hB4.free 4
  cases b0 : sumOk s
  · have hh : headOf s = 0#32 := by unfold headOf; rw [b0]; rfl
    have hmx : headOf s ≠ 0xffffffff#32 := by rw [hh]; decide
    have HH := Lib.hid hh
    have HMX := Lib.hid hmx
    clear hh hmx
    go_wp2_with fail
    have hl5 : LogAt ((w4.setCell ⟨B, 4, none⟩ (.int .u32 1)).alloc (.cells #[U32 (get32 s 4 4), U32 (get32 s 8 4), .int .i64 (get32 s 12 2).toNat, U8 (s 14), .int .i64 (s 15).toNat, .slice (some ⟨E, 16, none⟩) (min (s 15).toNat 48) 48] 73)) B D ⟨f, c, ep, 0#32 + 1, 1⟩ := (hB4.set 4 (.int .u32 1)).alloc (.cells #[U32 (get32 s 4 4), U32 (get32 s 8 4), .int .i64 (get32 s 12 2).toNat, U8 (s 14), .int .i64 (s 15).toNat, .slice (some ⟨E, 16, none⟩) (min (s 15).toNat 48) 48] 73)
    have hc05 : Ch (fun _ => False) w1 ((w4.setCell ⟨B, 4, none⟩ (.int .u32 1)).alloc (.cells #[U32 (get32 s 4 4), U32 (get32 s 8 4), .int .i64 (get32 s 12 2).toNat, U8 (s 14), .int .i64 (s 15).toNat, .slice (some ⟨E, 16, none⟩) (min (s 15).toNat 48) 48] 73)) := (hc04.set (Or.inl hBw) _).alloc _
    have hs5 : w4.heap.size + 1 = ((w4.setCell ⟨B, 4, none⟩ (.int .u32 1)).alloc (.cells #[U32 (get32 s 4 4), U32 (get32 s 8 4), .int .i64 (get32 s 12 2).toNat, U8 (s 14), .int .i64 (s 15).toNat, .slice (some ⟨E, 16, none⟩) (min (s 15).toNat 48) 48] 73)).heap.size := by simp
    change Calls _ _ _ ((w4.setCell ⟨B, 4, none⟩ (.int .u32 1)).alloc (.cells #[U32 (get32 s 4 4), U32 (get32 s 8 4), .int .i64 (get32 s 12 2).toNat, U8 (s 14), .int .i64 (s 15).toNat, .slice (some ⟨E, 16, none⟩) (min (s 15).toNat 48) 48] 73)) _
    generalize ((w4.setCell ⟨B, 4, none⟩ (.int .u32 1)).alloc (.cells #[U32 (get32 s 4 4), U32 (get32 s 8 4), .int .i64 (get32 s 12 2).toNat, U8 (s 14), .int .i64 (s 15).toNat, .slice (some ⟨E, 16, none⟩) (min (s 15).toNat 48) 48] 73)) = w5 at *
    clear hB4 hc04 cB4 fB4 hSne
    have hd5 := hF.keep hc05 (fun _ _ e => e)
    have hBF : ¬ fpt D N L pv B := fun e => by have := h.lt B e; omega
    refine (encode_any 0 (0#32 + 1) 0 4 [] none 0 w5 (fun e => absurd rfl e) (by simp) (by omega)).mono ?_
    rintro e w6 ⟨E2, rfl, hEw2, hE6, hc6⟩
    have hl6 : LogAt w6 B D ⟨f, c, ep, 0#32 + 1, 1⟩ := hc6.blk hl5 id
    have hd6 := hd5.keep hc6 (fun _ _ e => e)
    have hc06 := hc05.trans hc6 (fun _ _ e => e)
    have hwr := write_any (fpt D N L pv) D d (f : Int) (bytesOf (headSec (0#32 + 1)) 0 64) (some ⟨E2, 0, none⟩) 64 w6 hd6 (src_bArr (fpt D N L pv) hE6 0 64 (by omega) (fun e => by have := hd5.lt E2 e; omega)) (by omega)
    rw [bytesOf_length] at hwr
    have hpx := DM.write_pend d (f : Int) (bytesOf (headSec (0#32 + 1)) 0 64)
    have hnx := DM.write_n d (f : Int) (bytesOf (headSec (0#32 + 1)) 0 64)
    have hhead : d.head f = d.write (f : Int) (bytesOf (headSec (0#32 + 1)) 0 64) := by unfold DM.head; rw [HSG.out, HH.out]
    have hdn : (d.write (f : Int) (bytesOf (headSec (0#32 + 1)) 0 64)).1 = 0 → (d.write (f : Int) (bytesOf (headSec (0#32 + 1)) 0 64)).2.down = false := DM.write_down d _ _
    generalize d.write (f : Int) (bytesOf (headSec (0#32 + 1)) 0 64) = x at *
    have HWR := Lib.hid hwr
    have HHEAD := Lib.hid hhead
    have HDN := Lib.hid hdn
    have HNX := Lib.hid hnx
    clear hwr hhead hdn hnx hE6 hc6 hd5 hl5 hc05 hd6
    go_wp2_with fail
    refine HWR.out.mono ?_
    rintro e w7 ⟨F7, rfl, hst⟩
    have hst7 := hst.ahead hc06
    have hl7 : LogAt w7 B D ⟨f, c, ep, 0#32 + 1, 1⟩ := hst.ch.blk hl6 hBF
    have hB7 : ¬ F7 B := fun e => (hst.new B e).elim hBF (fun h9 => by have := Blk.lt hl6; omega)
    clear HWR hst hl6 hc06
    by_cases hx0 : x.1 = 0
    · have hb : (x.1 != 0) = false := by simp [hx0]
      have HX0 := Lib.hid hx0
      clear hx0
      go_wp2_with fail
      have hfl := flush_any F7 D x.2 w7 hst7.at_ (by omega)
      have hdy : x.2.flush.1 = 0 → x.2.flush.2.down = false := fun h9 => DM.flush_down x.2 h9 (HDN.out HX0.out)
      have hny : x.2.flush.2.n = d.n := (DM.flush_n x.2).trans HNX.out
      have hfrefl : (d.head f).2.flush = x.2.flush := by rw [HHEAD.out]
      generalize x.2.flush = y at *
      have HFL := Lib.hid hfl
      have HFR := Lib.hid hfrefl
      have HDY := Lib.hid hdy
      have HNY := Lib.hid hny
      clear hfl hfrefl hdy hny
      refine HFL.out.mono ?_
      rintro e w8 ⟨F8, rfl, hst8⟩
      have hl8 : LogAt w8 B D ⟨f, c, ep, 0#32 + 1, 1⟩ := hst8.ch.blk hl7 hB7
      have hB8 : ¬ F8 B := fun e => (hst8.new B e).elim hB7 (fun h9 => by have := Blk.lt hl7; omega)
      have hstt := hst7.trans hst8
      clear HFL hst7 hst8 hl7
      by_cases hy0 : y.1 = 0
      · have hb2 : (y.1 != 0) = false := by simp [hy0]
        have HY0 := Lib.hid hy0
        clear hy0
        go_wp2_with fail
        have hrd := read_any B ⟨f, c, ep, 0#32 + 1, 1⟩ (0#32) F8 D y.2 w8 hl8 hstt.at_ hB8 (HDY.out HY0.out) (by rw [HNY.out]; exact hfc)
        refine hrd.mono ?_
        clear hrd
        rintro e w9 ⟨rv, st, hst9, rfl, hR9, hl9, hc9⟩
        have HST9 := Lib.hid hst9
        clear hst9
        go_wp2_with fail
        go_ret3
        rw [HR.out, if_neg HMX.out, HFR.out, HHEAD.out, if_neg (by rw [HX0.out]; simp), if_neg (by rw [HY0.out]; simp), HH.out]
        have hst10 : openRead y.2 f c ep (0#32) = st := HST9.out.symm
        rw [hst10]
        have hlt8 := hstt.at_.lt
        have hBw8 := Blk.lt hl8
        have hw8 := hstt.ch.size
        refine ⟨B, rv, F8, rfl, ⟨hstt.at_.keep hc9 (fun i hi e => hB8 (by rw [← (show i = B from e)]; exact hi)), hstt.ch.trans hc9 (fun i hi e => by have e' : i = B := e; omega), hstt.new⟩, hl9, hB8, hBw, ?_, ?_⟩
        · exact own_base hR9 hw8
        · intro i hi
          have := (hR9.lt i hi).1
          exact ⟨fun e => by have := hlt8 i e; omega, by omega⟩
      · have hb2 : (y.1 != 0) = true := by simp [hy0]
        have HY0 := Lib.hid hy0
        clear hy0
        go_wp2_with fail
        go_ret3
        refine OPost.bad ?_ rfl hstt
        rw [HR.out, if_neg HMX.out, HFR.out, HHEAD.out, if_neg (by rw [HX0.out]; simp), if_pos HY0.out]
    · have hb : (x.1 != 0) = true := by simp [hx0]
      have HX0 := Lib.hid hx0
      clear hx0
      go_wp2_with fail
      go_ret3
      refine OPost.bad ?_ rfl hst7
      rw [HR.out, if_neg HMX.out, HHEAD.out, if_pos HX0.out]
  · cases b1 : (s 14 == 4#8)
    · have hh : headOf s = 0#32 := by unfold headOf; rw [b0, b1]; rfl
      have hmx : headOf s ≠ 0xffffffff#32 := by rw [hh]; decide
      have HH := Lib.hid hh
      have HMX := Lib.hid hmx
      clear hh hmx
      go_wp2_with fail
      have hl5 : LogAt ((w4.setCell ⟨B, 4, none⟩ (.int .u32 1)).alloc (.cells #[U32 (get32 s 4 4), U32 (get32 s 8 4), .int .i64 (get32 s 12 2).toNat, U8 (s 14), .int .i64 (s 15).toNat, .slice (some ⟨E, 16, none⟩) (min (s 15).toNat 48) 48] 73)) B D ⟨f, c, ep, 0#32 + 1, 1⟩ := (hB4.set 4 (.int .u32 1)).alloc (.cells #[U32 (get32 s 4 4), U32 (get32 s 8 4), .int .i64 (get32 s 12 2).toNat, U8 (s 14), .int .i64 (s 15).toNat, .slice (some ⟨E, 16, none⟩) (min (s 15).toNat 48) 48] 73)
      have hc05 : Ch (fun _ => False) w1 ((w4.setCell ⟨B, 4, none⟩ (.int .u32 1)).alloc (.cells #[U32 (get32 s 4 4), U32 (get32 s 8 4), .int .i64 (get32 s 12 2).toNat, U8 (s 14), .int .i64 (s 15).toNat, .slice (some ⟨E, 16, none⟩) (min (s 15).toNat 48) 48] 73)) := (hc04.set (Or.inl hBw) _).alloc _
      have hs5 : w4.heap.size + 1 = ((w4.setCell ⟨B, 4, none⟩ (.int .u32 1)).alloc (.cells #[U32 (get32 s 4 4), U32 (get32 s 8 4), .int .i64 (get32 s 12 2).toNat, U8 (s 14), .int .i64 (s 15).toNat, .slice (some ⟨E, 16, none⟩) (min (s 15).toNat 48) 48] 73)).heap.size := by simp
      change Calls _ _ _ ((w4.setCell ⟨B, 4, none⟩ (.int .u32 1)).alloc (.cells #[U32 (get32 s 4 4), U32 (get32 s 8 4), .int .i64 (get32 s 12 2).toNat, U8 (s 14), .int .i64 (s 15).toNat, .slice (some ⟨E, 16, none⟩) (min (s 15).toNat 48) 48] 73)) _
      generalize ((w4.setCell ⟨B, 4, none⟩ (.int .u32 1)).alloc (.cells #[U32 (get32 s 4 4), U32 (get32 s 8 4), .int .i64 (get32 s 12 2).toNat, U8 (s 14), .int .i64 (s 15).toNat, .slice (some ⟨E, 16, none⟩) (min (s 15).toNat 48) 48] 73)) = w5 at *
      clear hB4 hc04 cB4 fB4 hSne
      have hd5 := hF.keep hc05 (fun _ _ e => e)
      have hBF : ¬ fpt D N L pv B := fun e => by have := h.lt B e; omega
      refine (encode_any 0 (0#32 + 1) 0 4 [] none 0 w5 (fun e => absurd rfl e) (by simp) (by omega)).mono ?_
      rintro e w6 ⟨E2, rfl, hEw2, hE6, hc6⟩
      have hl6 : LogAt w6 B D ⟨f, c, ep, 0#32 + 1, 1⟩ := hc6.blk hl5 id
      have hd6 := hd5.keep hc6 (fun _ _ e => e)
      have hc06 := hc05.trans hc6 (fun _ _ e => e)
      have hwr := write_any (fpt D N L pv) D d (f : Int) (bytesOf (headSec (0#32 + 1)) 0 64) (some ⟨E2, 0, none⟩) 64 w6 hd6 (src_bArr (fpt D N L pv) hE6 0 64 (by omega) (fun e => by have := hd5.lt E2 e; omega)) (by omega)
      rw [bytesOf_length] at hwr
      have hpx := DM.write_pend d (f : Int) (bytesOf (headSec (0#32 + 1)) 0 64)
      have hnx := DM.write_n d (f : Int) (bytesOf (headSec (0#32 + 1)) 0 64)
      have hhead : d.head f = d.write (f : Int) (bytesOf (headSec (0#32 + 1)) 0 64) := by unfold DM.head; rw [HSG.out, HH.out]
      have hdn : (d.write (f : Int) (bytesOf (headSec (0#32 + 1)) 0 64)).1 = 0 → (d.write (f : Int) (bytesOf (headSec (0#32 + 1)) 0 64)).2.down = false := DM.write_down d _ _
      generalize d.write (f : Int) (bytesOf (headSec (0#32 + 1)) 0 64) = x at *
      have HWR := Lib.hid hwr
      have HHEAD := Lib.hid hhead
      have HDN := Lib.hid hdn
      have HNX := Lib.hid hnx
      clear hwr hhead hdn hnx hE6 hc6 hd5 hl5 hc05 hd6
      go_wp2_with fail
      refine HWR.out.mono ?_
      rintro e w7 ⟨F7, rfl, hst⟩
      have hst7 := hst.ahead hc06
      have hl7 : LogAt w7 B D ⟨f, c, ep, 0#32 + 1, 1⟩ := hst.ch.blk hl6 hBF
      have hB7 : ¬ F7 B := fun e => (hst.new B e).elim hBF (fun h9 => by have := Blk.lt hl6; omega)
      clear HWR hst hl6 hc06
      by_cases hx0 : x.1 = 0
      · have hb : (x.1 != 0) = false := by simp [hx0]
        have HX0 := Lib.hid hx0
        clear hx0
        go_wp2_with fail
        have hfl := flush_any F7 D x.2 w7 hst7.at_ (by omega)
        have hdy : x.2.flush.1 = 0 → x.2.flush.2.down = false := fun h9 => DM.flush_down x.2 h9 (HDN.out HX0.out)
        have hny : x.2.flush.2.n = d.n := (DM.flush_n x.2).trans HNX.out
        have hfrefl : (d.head f).2.flush = x.2.flush := by rw [HHEAD.out]
        generalize x.2.flush = y at *
        have HFL := Lib.hid hfl
        have HFR := Lib.hid hfrefl
        have HDY := Lib.hid hdy
        have HNY := Lib.hid hny
        clear hfl hfrefl hdy hny
        refine HFL.out.mono ?_
        rintro e w8 ⟨F8, rfl, hst8⟩
        have hl8 : LogAt w8 B D ⟨f, c, ep, 0#32 + 1, 1⟩ := hst8.ch.blk hl7 hB7
        have hB8 : ¬ F8 B := fun e => (hst8.new B e).elim hB7 (fun h9 => by have := Blk.lt hl7; omega)
        have hstt := hst7.trans hst8
        clear HFL hst7 hst8 hl7
        by_cases hy0 : y.1 = 0
        · have hb2 : (y.1 != 0) = false := by simp [hy0]
          have HY0 := Lib.hid hy0
          clear hy0
          go_wp2_with fail
          have hrd := read_any B ⟨f, c, ep, 0#32 + 1, 1⟩ (0#32) F8 D y.2 w8 hl8 hstt.at_ hB8 (HDY.out HY0.out) (by rw [HNY.out]; exact hfc)
          refine hrd.mono ?_
          clear hrd
          rintro e w9 ⟨rv, st, hst9, rfl, hR9, hl9, hc9⟩
          have HST9 := Lib.hid hst9
          clear hst9
          go_wp2_with fail
          go_ret3
          rw [HR.out, if_neg HMX.out, HFR.out, HHEAD.out, if_neg (by rw [HX0.out]; simp), if_neg (by rw [HY0.out]; simp), HH.out]
          have hst10 : openRead y.2 f c ep (0#32) = st := HST9.out.symm
          rw [hst10]
          have hlt8 := hstt.at_.lt
          have hBw8 := Blk.lt hl8
          have hw8 := hstt.ch.size
          refine ⟨B, rv, F8, rfl, ⟨hstt.at_.keep hc9 (fun i hi e => hB8 (by rw [← (show i = B from e)]; exact hi)), hstt.ch.trans hc9 (fun i hi e => by have e' : i = B := e; omega), hstt.new⟩, hl9, hB8, hBw, ?_, ?_⟩
          · exact own_base hR9 hw8
          · intro i hi
            have := (hR9.lt i hi).1
            exact ⟨fun e => by have := hlt8 i e; omega, by omega⟩
        · have hb2 : (y.1 != 0) = true := by simp [hy0]
          have HY0 := Lib.hid hy0
          clear hy0
          go_wp2_with fail
          go_ret3
          refine OPost.bad ?_ rfl hstt
          rw [HR.out, if_neg HMX.out, HFR.out, HHEAD.out, if_neg (by rw [HX0.out]; simp), if_pos HY0.out]
      · have hb : (x.1 != 0) = true := by simp [hx0]
        have HX0 := Lib.hid hx0
        clear hx0
        go_wp2_with fail
        go_ret3
        refine OPost.bad ?_ rfl hst7
        rw [HR.out, if_neg HMX.out, HHEAD.out, if_pos HX0.out]
    · cases b2 : (((get32 s 12 2).toNat : Int) == 0)
      · have C2F : Hid (((get32 s 12 2).toNat == 0) = false) := Lib.hid (by rw [beq_eq_false_iff_ne] at b2 ⊢; omega)
        have hh : headOf s = 0#32 := by unfold headOf; rw [b0, b1, C2F.out]; rfl
        have hmx : headOf s ≠ 0xffffffff#32 := by rw [hh]; decide
        have HH := Lib.hid hh
        have HMX := Lib.hid hmx
        clear hh hmx
        go_wp2_with fail
        have hl5 : LogAt ((w4.setCell ⟨B, 4, none⟩ (.int .u32 1)).alloc (.cells #[U32 (get32 s 4 4), U32 (get32 s 8 4), .int .i64 (get32 s 12 2).toNat, U8 (s 14), .int .i64 (s 15).toNat, .slice (some ⟨E, 16, none⟩) (min (s 15).toNat 48) 48] 73)) B D ⟨f, c, ep, 0#32 + 1, 1⟩ := (hB4.set 4 (.int .u32 1)).alloc (.cells #[U32 (get32 s 4 4), U32 (get32 s 8 4), .int .i64 (get32 s 12 2).toNat, U8 (s 14), .int .i64 (s 15).toNat, .slice (some ⟨E, 16, none⟩) (min (s 15).toNat 48) 48] 73)
        have hc05 : Ch (fun _ => False) w1 ((w4.setCell ⟨B, 4, none⟩ (.int .u32 1)).alloc (.cells #[U32 (get32 s 4 4), U32 (get32 s 8 4), .int .i64 (get32 s 12 2).toNat, U8 (s 14), .int .i64 (s 15).toNat, .slice (some ⟨E, 16, none⟩) (min (s 15).toNat 48) 48] 73)) := (hc04.set (Or.inl hBw) _).alloc _
        have hs5 : w4.heap.size + 1 = ((w4.setCell ⟨B, 4, none⟩ (.int .u32 1)).alloc (.cells #[U32 (get32 s 4 4), U32 (get32 s 8 4), .int .i64 (get32 s 12 2).toNat, U8 (s 14), .int .i64 (s 15).toNat, .slice (some ⟨E, 16, none⟩) (min (s 15).toNat 48) 48] 73)).heap.size := by simp
        change Calls _ _ _ ((w4.setCell ⟨B, 4, none⟩ (.int .u32 1)).alloc (.cells #[U32 (get32 s 4 4), U32 (get32 s 8 4), .int .i64 (get32 s 12 2).toNat, U8 (s 14), .int .i64 (s 15).toNat, .slice (some ⟨E, 16, none⟩) (min (s 15).toNat 48) 48] 73)) _
        generalize ((w4.setCell ⟨B, 4, none⟩ (.int .u32 1)).alloc (.cells #[U32 (get32 s 4 4), U32 (get32 s 8 4), .int .i64 (get32 s 12 2).toNat, U8 (s 14), .int .i64 (s 15).toNat, .slice (some ⟨E, 16, none⟩) (min (s 15).toNat 48) 48] 73)) = w5 at *
        clear hB4 hc04 cB4 fB4 hSne
        have hd5 := hF.keep hc05 (fun _ _ e => e)
        have hBF : ¬ fpt D N L pv B := fun e => by have := h.lt B e; omega
        refine (encode_any 0 (0#32 + 1) 0 4 [] none 0 w5 (fun e => absurd rfl e) (by simp) (by omega)).mono ?_
        rintro e w6 ⟨E2, rfl, hEw2, hE6, hc6⟩
        have hl6 : LogAt w6 B D ⟨f, c, ep, 0#32 + 1, 1⟩ := hc6.blk hl5 id
        have hd6 := hd5.keep hc6 (fun _ _ e => e)
        have hc06 := hc05.trans hc6 (fun _ _ e => e)
        have hwr := write_any (fpt D N L pv) D d (f : Int) (bytesOf (headSec (0#32 + 1)) 0 64) (some ⟨E2, 0, none⟩) 64 w6 hd6 (src_bArr (fpt D N L pv) hE6 0 64 (by omega) (fun e => by have := hd5.lt E2 e; omega)) (by omega)
        rw [bytesOf_length] at hwr
        have hpx := DM.write_pend d (f : Int) (bytesOf (headSec (0#32 + 1)) 0 64)
        have hnx := DM.write_n d (f : Int) (bytesOf (headSec (0#32 + 1)) 0 64)
        have hhead : d.head f = d.write (f : Int) (bytesOf (headSec (0#32 + 1)) 0 64) := by unfold DM.head; rw [HSG.out, HH.out]
        have hdn : (d.write (f : Int) (bytesOf (headSec (0#32 + 1)) 0 64)).1 = 0 → (d.write (f : Int) (bytesOf (headSec (0#32 + 1)) 0 64)).2.down = false := DM.write_down d _ _
        generalize d.write (f : Int) (bytesOf (headSec (0#32 + 1)) 0 64) = x at *
        have HWR := Lib.hid hwr
        have HHEAD := Lib.hid hhead
        have HDN := Lib.hid hdn
        have HNX := Lib.hid hnx
        clear hwr hhead hdn hnx hE6 hc6 hd5 hl5 hc05 hd6
        go_wp2_with fail
        refine HWR.out.mono ?_
        rintro e w7 ⟨F7, rfl, hst⟩
        have hst7 := hst.ahead hc06
        have hl7 : LogAt w7 B D ⟨f, c, ep, 0#32 + 1, 1⟩ := hst.ch.blk hl6 hBF
        have hB7 : ¬ F7 B := fun e => (hst.new B e).elim hBF (fun h9 => by have := Blk.lt hl6; omega)
        clear HWR hst hl6 hc06
        by_cases hx0 : x.1 = 0
        · have hb : (x.1 != 0) = false := by simp [hx0]
          have HX0 := Lib.hid hx0
          clear hx0
          go_wp2_with fail
          have hfl := flush_any F7 D x.2 w7 hst7.at_ (by omega)
          have hdy : x.2.flush.1 = 0 → x.2.flush.2.down = false := fun h9 => DM.flush_down x.2 h9 (HDN.out HX0.out)
          have hny : x.2.flush.2.n = d.n := (DM.flush_n x.2).trans HNX.out
          have hfrefl : (d.head f).2.flush = x.2.flush := by rw [HHEAD.out]
          generalize x.2.flush = y at *
          have HFL := Lib.hid hfl
          have HFR := Lib.hid hfrefl
          have HDY := Lib.hid hdy
          have HNY := Lib.hid hny
          clear hfl hfrefl hdy hny
          refine HFL.out.mono ?_
          rintro e w8 ⟨F8, rfl, hst8⟩
          have hl8 : LogAt w8 B D ⟨f, c, ep, 0#32 + 1, 1⟩ := hst8.ch.blk hl7 hB7
          have hB8 : ¬ F8 B := fun e => (hst8.new B e).elim hB7 (fun h9 => by have := Blk.lt hl7; omega)
          have hstt := hst7.trans hst8
          clear HFL hst7 hst8 hl7
          by_cases hy0 : y.1 = 0
          · have hb2 : (y.1 != 0) = false := by simp [hy0]
            have HY0 := Lib.hid hy0
            clear hy0
            go_wp2_with fail
            have hrd := read_any B ⟨f, c, ep, 0#32 + 1, 1⟩ (0#32) F8 D y.2 w8 hl8 hstt.at_ hB8 (HDY.out HY0.out) (by rw [HNY.out]; exact hfc)
            refine hrd.mono ?_
            clear hrd
            rintro e w9 ⟨rv, st, hst9, rfl, hR9, hl9, hc9⟩
            have HST9 := Lib.hid hst9
            clear hst9
            go_wp2_with fail
            go_ret3
            rw [HR.out, if_neg HMX.out, HFR.out, HHEAD.out, if_neg (by rw [HX0.out]; simp), if_neg (by rw [HY0.out]; simp), HH.out]
            have hst10 : openRead y.2 f c ep (0#32) = st := HST9.out.symm
            rw [hst10]
            have hlt8 := hstt.at_.lt
            have hBw8 := Blk.lt hl8
            have hw8 := hstt.ch.size
            refine ⟨B, rv, F8, rfl, ⟨hstt.at_.keep hc9 (fun i hi e => hB8 (by rw [← (show i = B from e)]; exact hi)), hstt.ch.trans hc9 (fun i hi e => by have e' : i = B := e; omega), hstt.new⟩, hl9, hB8, hBw, ?_, ?_⟩
            · exact own_base hR9 hw8
            · intro i hi
              have := (hR9.lt i hi).1
              exact ⟨fun e => by have := hlt8 i e; omega, by omega⟩
          · have hb2 : (y.1 != 0) = true := by simp [hy0]
            have HY0 := Lib.hid hy0
            clear hy0
            go_wp2_with fail
            go_ret3
            refine OPost.bad ?_ rfl hstt
            rw [HR.out, if_neg HMX.out, HFR.out, HHEAD.out, if_neg (by rw [HX0.out]; simp), if_pos HY0.out]
        · have hb : (x.1 != 0) = true := by simp [hx0]
          have HX0 := Lib.hid hx0
          clear hx0
          go_wp2_with fail
          go_ret3
          refine OPost.bad ?_ rfl hst7
          rw [HR.out, if_neg HMX.out, HHEAD.out, if_pos HX0.out]
      · have C2T : Hid (((get32 s 12 2).toNat == 0) = true) := Lib.hid (by rw [beq_iff_eq] at b2 ⊢; omega)
        have hhd : headOf s = get32 s 8 4 := by unfold headOf; rw [b0, b1, C2T.out]; rfl
        have HHD := Lib.hid hhd
        clear hhd
        cases b3 : (get32 s 8 4 == 0xffffffff#32)
        · have hh : headOf s = (get32 s 8 4) := by exact HHD.out
          have hmx : headOf s ≠ 0xffffffff#32 := by rw [HHD.out]; exact beq_eq_false_iff_ne.1 b3
          have HH := Lib.hid hh
          have HMX := Lib.hid hmx
          clear hh hmx
          go_wp2_with fail
          have hl5 : LogAt ((w4.setCell ⟨B, 4, none⟩ (U32 (get32 s 8 4 + 1#32))).alloc (.cells #[U32 (get32 s 4 4), U32 (get32 s 8 4), .int .i64 (get32 s 12 2).toNat, U8 (s 14), .int .i64 (s 15).toNat, .slice (some ⟨E, 16, none⟩) (min (s 15).toNat 48) 48] 73)) B D ⟨f, c, ep, (get32 s 8 4) + 1, 1⟩ := (hB4.set 4 (U32 (get32 s 8 4 + 1#32))).alloc (.cells #[U32 (get32 s 4 4), U32 (get32 s 8 4), .int .i64 (get32 s 12 2).toNat, U8 (s 14), .int .i64 (s 15).toNat, .slice (some ⟨E, 16, none⟩) (min (s 15).toNat 48) 48] 73)
          have hc05 : Ch (fun _ => False) w1 ((w4.setCell ⟨B, 4, none⟩ (U32 (get32 s 8 4 + 1#32))).alloc (.cells #[U32 (get32 s 4 4), U32 (get32 s 8 4), .int .i64 (get32 s 12 2).toNat, U8 (s 14), .int .i64 (s 15).toNat, .slice (some ⟨E, 16, none⟩) (min (s 15).toNat 48) 48] 73)) := (hc04.set (Or.inl hBw) _).alloc _
          have hs5 : w4.heap.size + 1 = ((w4.setCell ⟨B, 4, none⟩ (U32 (get32 s 8 4 + 1#32))).alloc (.cells #[U32 (get32 s 4 4), U32 (get32 s 8 4), .int .i64 (get32 s 12 2).toNat, U8 (s 14), .int .i64 (s 15).toNat, .slice (some ⟨E, 16, none⟩) (min (s 15).toNat 48) 48] 73)).heap.size := by simp
          change Calls _ _ _ ((w4.setCell ⟨B, 4, none⟩ (U32 (get32 s 8 4 + 1#32))).alloc (.cells #[U32 (get32 s 4 4), U32 (get32 s 8 4), .int .i64 (get32 s 12 2).toNat, U8 (s 14), .int .i64 (s 15).toNat, .slice (some ⟨E, 16, none⟩) (min (s 15).toNat 48) 48] 73)) _
          generalize ((w4.setCell ⟨B, 4, none⟩ (U32 (get32 s 8 4 + 1#32))).alloc (.cells #[U32 (get32 s 4 4), U32 (get32 s 8 4), .int .i64 (get32 s 12 2).toNat, U8 (s 14), .int .i64 (s 15).toNat, .slice (some ⟨E, 16, none⟩) (min (s 15).toNat 48) 48] 73)) = w5 at *
          clear hB4 hc04 cB4 fB4 hSne
          have hd5 := hF.keep hc05 (fun _ _ e => e)
          have hBF : ¬ fpt D N L pv B := fun e => by have := h.lt B e; omega
          refine (encode_any 0 ((get32 s 8 4) + 1) 0 4 [] none 0 w5 (fun e => absurd rfl e) (by simp) (by omega)).mono ?_
          rintro e w6 ⟨E2, rfl, hEw2, hE6, hc6⟩
          have hl6 : LogAt w6 B D ⟨f, c, ep, (get32 s 8 4) + 1, 1⟩ := hc6.blk hl5 id
          have hd6 := hd5.keep hc6 (fun _ _ e => e)
          have hc06 := hc05.trans hc6 (fun _ _ e => e)
          have hwr := write_any (fpt D N L pv) D d (f : Int) (bytesOf (headSec ((get32 s 8 4) + 1)) 0 64) (some ⟨E2, 0, none⟩) 64 w6 hd6 (src_bArr (fpt D N L pv) hE6 0 64 (by omega) (fun e => by have := hd5.lt E2 e; omega)) (by omega)
          rw [bytesOf_length] at hwr
          have hpx := DM.write_pend d (f : Int) (bytesOf (headSec ((get32 s 8 4) + 1)) 0 64)
          have hnx := DM.write_n d (f : Int) (bytesOf (headSec ((get32 s 8 4) + 1)) 0 64)
          have hhead : d.head f = d.write (f : Int) (bytesOf (headSec ((get32 s 8 4) + 1)) 0 64) := by unfold DM.head; rw [HSG.out, HH.out]
          have hdn : (d.write (f : Int) (bytesOf (headSec ((get32 s 8 4) + 1)) 0 64)).1 = 0 → (d.write (f : Int) (bytesOf (headSec ((get32 s 8 4) + 1)) 0 64)).2.down = false := DM.write_down d _ _
          generalize d.write (f : Int) (bytesOf (headSec ((get32 s 8 4) + 1)) 0 64) = x at *
          have HWR := Lib.hid hwr
          have HHEAD := Lib.hid hhead
          have HDN := Lib.hid hdn
          have HNX := Lib.hid hnx
          clear hwr hhead hdn hnx hE6 hc6 hd5 hl5 hc05 hd6
          go_wp2_with fail
          refine HWR.out.mono ?_
          rintro e w7 ⟨F7, rfl, hst⟩
          have hst7 := hst.ahead hc06
          have hl7 : LogAt w7 B D ⟨f, c, ep, (get32 s 8 4) + 1, 1⟩ := hst.ch.blk hl6 hBF
          have hB7 : ¬ F7 B := fun e => (hst.new B e).elim hBF (fun h9 => by have := Blk.lt hl6; omega)
          clear HWR hst hl6 hc06
          by_cases hx0 : x.1 = 0
          · have hb : (x.1 != 0) = false := by simp [hx0]
            have HX0 := Lib.hid hx0
            clear hx0
            go_wp2_with fail
            have hfl := flush_any F7 D x.2 w7 hst7.at_ (by omega)
            have hdy : x.2.flush.1 = 0 → x.2.flush.2.down = false := fun h9 => DM.flush_down x.2 h9 (HDN.out HX0.out)
            have hny : x.2.flush.2.n = d.n := (DM.flush_n x.2).trans HNX.out
            have hfrefl : (d.head f).2.flush = x.2.flush := by rw [HHEAD.out]
            generalize x.2.flush = y at *
            have HFL := Lib.hid hfl
            have HFR := Lib.hid hfrefl
            have HDY := Lib.hid hdy
            have HNY := Lib.hid hny
            clear hfl hfrefl hdy hny
            refine HFL.out.mono ?_
            rintro e w8 ⟨F8, rfl, hst8⟩
            have hl8 : LogAt w8 B D ⟨f, c, ep, (get32 s 8 4) + 1, 1⟩ := hst8.ch.blk hl7 hB7
            have hB8 : ¬ F8 B := fun e => (hst8.new B e).elim hB7 (fun h9 => by have := Blk.lt hl7; omega)
            have hstt := hst7.trans hst8
            clear HFL hst7 hst8 hl7
            by_cases hy0 : y.1 = 0
            · have hb2 : (y.1 != 0) = false := by simp [hy0]
              have HY0 := Lib.hid hy0
              clear hy0
              go_wp2_with fail
              have hrd := read_any B ⟨f, c, ep, (get32 s 8 4) + 1, 1⟩ ((get32 s 8 4)) F8 D y.2 w8 hl8 hstt.at_ hB8 (HDY.out HY0.out) (by rw [HNY.out]; exact hfc)
              refine hrd.mono ?_
              clear hrd
              rintro e w9 ⟨rv, st, hst9, rfl, hR9, hl9, hc9⟩
              have HST9 := Lib.hid hst9
              clear hst9
              go_wp2_with fail
              go_ret3
              rw [HR.out, if_neg HMX.out, HFR.out, HHEAD.out, if_neg (by rw [HX0.out]; simp), if_neg (by rw [HY0.out]; simp), HH.out]
              have hst10 : openRead y.2 f c ep ((get32 s 8 4)) = st := HST9.out.symm
              rw [hst10]
              have hlt8 := hstt.at_.lt
              have hBw8 := Blk.lt hl8
              have hw8 := hstt.ch.size
              refine ⟨B, rv, F8, rfl, ⟨hstt.at_.keep hc9 (fun i hi e => hB8 (by rw [← (show i = B from e)]; exact hi)), hstt.ch.trans hc9 (fun i hi e => by have e' : i = B := e; omega), hstt.new⟩, hl9, hB8, hBw, ?_, ?_⟩
              · exact own_base hR9 hw8
              · intro i hi
                have := (hR9.lt i hi).1
                exact ⟨fun e => by have := hlt8 i e; omega, by omega⟩
            · have hb2 : (y.1 != 0) = true := by simp [hy0]
              have HY0 := Lib.hid hy0
              clear hy0
              go_wp2_with fail
              go_ret3
              refine OPost.bad ?_ rfl hstt
              rw [HR.out, if_neg HMX.out, HFR.out, HHEAD.out, if_neg (by rw [HX0.out]; simp), if_pos HY0.out]
          · have hb : (x.1 != 0) = true := by simp [hx0]
            have HX0 := Lib.hid hx0
            clear hx0
            go_wp2_with fail
            go_ret3
            refine OPost.bad ?_ rfl hst7
            rw [HR.out, if_neg HMX.out, HHEAD.out, if_pos HX0.out]
        · have hmx : headOf s = 0xffffffff#32 := by rw [HHD.out]; exact beq_iff_eq.1 b3
          have HMX := Lib.hid hmx
          clear hmx
          go_wp2_with fail
          go_ret3
          refine OPost.bad (by rw [HR.out, if_pos HMX.out]) rfl ⟨hF.keep (hc04.alloc _) (fun _ _ e => e), (hc04.alloc _).mono (fun _ _ e => e.elim), fun _ e => Or.inl e⟩
end Go.Proofs.Ytjhnkpohdlilpaa
