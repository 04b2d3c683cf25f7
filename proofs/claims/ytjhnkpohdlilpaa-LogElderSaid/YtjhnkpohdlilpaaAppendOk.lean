/-
  The walk of log.Append where there is room.
-/
import Derived.Test.YtjhnkpohdlilpaaAppendLem
import Derived.Test.YtjhnkpohdlilpaaLogSmall
import Derived.Test.YtjhnkpohdlilpaaNewDisk
import Derived.Test.YtjhnkpohdlilpaaCrash
import Derived.Test.YtjhnkpohdlilpaaFlush
import Derived.Test.YtjhnkpohdlilpaaWrite
import Derived.Test.YtjhnkpohdlilpaaAppendPend
import Derived.Deep.AppendLies
import Derived.Great.BuildSlice
import Derived.Test.YtjhnkpohdlilpaaDiskLem
import Derived.Test.YtjhnkpohdlilpaaRead
import Derived.Test.YtjhnkpohdlilpaaOut
import Derived.Test.YtjhnkpohdlilpaaDiskSmall
import Derived.Test.YtjhnkpohdlilpaaDisk
import Derived.Test.YtjhnkpohdlilpaaAtom
import Derived.Test.YtjhnkpohdlilpaaDecode
import Derived.Test.YtjhnkpohdlilpaaEncode
import Derived.Test.YtjhnkpohdlilpaaTake
import Derived.Test.YtjhnkpohdlilpaaCopy
import Derived.Laws.CopyOwn
import Derived.Deep.OwnRows
import Derived.Deep.MidRow
import Derived.Test.YtjhnkpohdlilpaaPut
import Derived.Test.YtjhnkpohdlilpaaRows
import Derived.Test.YtjhnkpohdlilpaaWords
import Derived.Test.YtjhnkpohdlilpaaMem
import Derived.Test.YtjhnkpohdlilpaaTail
import Derived.Test.YtjhnkpohdlilpaaCrc
import Derived.Test.YtjhnkpohdlilpaaArr
import Derived.RangeFuncNested
import Derived.RangeFuncBound
import Derived.RangeFuncCalls
import Derived.RangeFuncLeaves
import Derived.Shelf.Abstract
import Derived.Shelf.RegionOpen
import Derived.WalkKit
import Derived.OwnWalkIn
import Derived.TacticsInMore
import Derived.LoopNIn
import Derived.LoopIn
import Derived.WalkSpells
import Derived.WalkLawsBesides
import Derived.Lib.Hide
import Derived.BigQuiet
import Derived.Outline
import Derived.Deep.DeepFit
namespace Go.Proofs.Ytjhnkpohdlilpaa
open Go.RowKit Go.Shelf
attribute [local go_sem] Oper.semAt_some
def LPost (w : World) (F : Nat → Prop) (B D : Nat) (v : Int) (m' : LM) (d' : DM) (e : Ending) (w' : World) : Prop :=
  e = .returned (.int .i64 v) ∧ ∃ F', DiskAt w' F' D d' ∧ LogAt w' B D m' ∧ Ch (fun k => F k ∨ k = B) w w' ∧ (∀ k, F' k → F k ∨ w.heap.size ≤ k)
set_option maxHeartbeats 4000000 in
set_option maxRecDepth 100000 in
theorem append_ok (B : Nat) (m : LM) (s : ByteArray) (F : Nat → Prop) (D : Nat) (d : DM) (w : World) (hl : LogAt w B D m) (h : DiskAt w F D d) (hB : ¬ F B) (hp : d.pend.length ≤ 1099511627000) (h1 : m.first + m.count ≤ 4096) (h2 : m.next ≤ m.count)
    (hs : s.size ≤ 2000) (hn : secs s.size ≤ m.count - m.next) :
    Calls Try.prog 12 #[.pointer (some ⟨B, 0, none⟩), .string s] w (LPost w F B D (m.append d (strBytes s)).1 (m.append d (strBytes s)).2.1 (m.append d (strBytes s)).2.2) := by
  have gs : (s.size : Int) ≤ 2000 := by omega
  have happ : m.append d (strBytes s) = if (m.appLoop (strBytes s) (secs s.size) 0 (secs s.size) d).1 = 0 then (0, { m with next := m.next + secs s.size }, (m.appLoop (strBytes s) (secs s.size) 0 (secs s.size) d).2) else ((m.appLoop (strBytes s) (secs s.size) 0 (secs s.size) d).1, m, (m.appLoop (strBytes s) (secs s.size) 0 (secs s.size) d).2) := by
    unfold LM.append
    rw [strBytes_length, if_neg (by omega), if_neg (by omega)]
  have HAPP := Lib.hid happ
  clear happ
  have hsec : secs s.size ≤ 42 := by unfold secs; split <;> omega
  have gn : (secs s.size : Int) ≤ (m.count - m.next : Nat) := by omega
  have hb0 : decide ((2000 : Int) < s.size) = false := by rw [decide_eq_false_iff_not]; omega
  have hb1 : decide (m.count - m.next < secs s.size) = false := by rw [decide_eq_false_iff_not]; omega
  go_enter Try.func12, Try.ntmps12
  go_wp2_with fail
  refine (sectors18 s.size w (by omega)).mono ?_
  rintro e w1 ⟨rfl, rfl⟩
  go_wp2_with fail
  refine (room_any B D m w1 hl (by omega) h2).mono ?_
  rintro e w2 ⟨rfl, kq, rfl⟩
  go_wp2_with fail
  have hl1 : LogAt (w1.drewN kq) B D m := hl
  have hd1 : DiskAt (w1.drewN kq) F D d := h.keep ((Ch.refl (fun _ => False) w1).drewN kq) (fun _ _ e => e)
  have hc1 : Ch F w1 (w1.drewN kq) := (Ch.refl F w1).drewN kq
  generalize w1.drewN kq = w2 at *
  generalize hng : secs s.size = n at *
  have HN := Lib.hid hng
  clear hng
  go_loopw [22] (fun i wr => ∃ (k : Nat) (F' : Nat → Prop) (d' : DM), k ≤ n ∧ i = .int .i64 k ∧ LogAt wr B D m ∧ DiskAt wr F' D d' ∧ Ch F w1 wr ∧ (∀ j, F' j → F j ∨ w1.heap.size ≤ j) ∧ ¬ F' B ∧ d'.pend.length ≤ d.pend.length + k ∧ m.appLoop (strBytes s) n k (n - k) d' = m.appLoop (strBytes s) n 0 n d) (fun i _ => n - (intOf i).toNat)
  case atStart => exact ⟨0, F, d, Nat.zero_le _, rfl, hl1, hd1, hc1, fun _ e => Or.inl e, hB, Nat.le_refl _, rfl⟩
  case round =>
    obtain ⟨k, F', d', hk, rfl, hlr, hdr, hcr, hnr, hBr, hpr, hloop⟩ := hrel
    have HLOOP := Lib.hid hloop
    clear hloop
    by_cases hlt : k < n
    · have l1 : (k : Int) < n := by omega
      obtain ⟨wo, rfl⟩ : ∃ x, x = wr := ⟨_, rfl⟩
      have g0 : ∀ x : Later (fun _ => False) wo, x.val.cell? ⟨B, 0, none⟩ = some (.pointer (some ⟨D, 0, none⟩)) := fun x => x.cell (Blk.cell hlr (j := 0) rfl) id
      have g1 : ∀ x : Later (fun _ => False) wo, x.val.cell? ⟨B, 1, none⟩ = some (.int .i64 m.first) := fun x => x.cell (Blk.cell hlr (j := 1) rfl) id
      have g3 : ∀ x : Later (fun _ => False) wo, x.val.cell? ⟨B, 3, none⟩ = some (U32 m.epoch) := fun x => x.cell (Blk.cell hlr (j := 3) rfl) id
      have g4 : ∀ x : Later (fun _ => False) wo, x.val.cell? ⟨B, 4, none⟩ = some (U32 m.life) := fun x => x.cell (Blk.cell hlr (j := 4) rfl) id
      have g5 : ∀ x : Later (fun _ => False) wo, x.val.cell? ⟨B, 5, none⟩ = some (.int .i64 m.next) := fun x => x.cell (Blk.cell hlr (j := 5) rfl) id
      have gm1 : (m.next : Int) + k ≤ 4096 := by omega
      have gm2 : (m.first : Int) + (m.next + k) ≤ 4096 := by omega
      have i0 : IntKind.i64.wrap ((m.next : Int) + k) = (m.next : Int) + k := IntWalk.i64_in _ (by omega)
      have gk : (k : Int) ≤ 4096 := by omega
      have i1 : IntKind.i64.wrap ((k : Int) * 48) = (k : Int) * 48 := IntWalk.i64_in _ (by omega)
      have i2 : IntKind.i64.wrap ((k : Int) + 1) = (k : Int) + 1 := IntWalk.i64_in _ (by omega)
      have i3 : IntKind.i64.wrap (((k : Int) + 1) * 48) = ((k : Int) + 1) * 48 := IntWalk.i64_in _ (by omega)
      have i4 : ((k : Int) * 48).toNat = k * 48 := by omega
      have i5 : (((k : Int) + 1) * 48).toNat = (k + 1) * 48 := by omega
      have gl : (k : Int) * 48 ≤ s.size := by have := secs_lt (HN.out ▸ hlt); omega
      by_cases hk0 : k = 0
      · by_cases hkn : k + 1 = n
        · have e0 : ((k : Int) == 0) = true := by simp [hk0]
          have e1 : ((k : Int) == (n : Int) - 1) = true := by rw [beq_iff_eq]; omega
          have HK0 := Lib.hid hk0
          have HKN := Lib.hid hkn
          clear hk0 hkn
          have gh : (s.size : Int) ≤ ((k : Int) + 1) * 48 := by have := secs_last (HKN.out.trans HN.out.symm); omega
          have hchunk : strBytes (s.extract (k * 48) s.size) = chunk (strBytes s) k := strBytes_extract s k _ (by omega) (Or.inl ⟨rfl, by omega⟩)
          have hclen : (s.extract (k * 48) s.size).size = (chunk (strBytes s) k).length := by rw [← hchunk, strBytes_length]
          have HCH := Lib.hid hchunk
          have HCL := Lib.hid hclen
          clear hchunk hclen
          go_wp2_with fail
          refine wp_region_take (late (fun _ => False) wo) 16 [0, 1, 2, 3, 4, 5, 6, 7, 8, 9, 10, 11, 12, 13, 14] [15, 16] (by kernel_rfl) (by kernel_rfl) (late_of (Ch.refl _ wo).drew) ?_
          simp only [List.map_cons, List.map_nil, Array.getD_eq_getD_getElem?, List.getElem?_toArray, List.getElem?_cons_zero, List.getElem?_cons_succ, Option.getD_some]
          refine wpTake_seg 15 (by kernel_rfl) ?_
          simp only [List.take_succ_cons, List.take_zero, List.drop_succ_cons, List.drop_zero]
          unfold late
          repeat (go_big_quiet_step (fail))
          refine wpQuiet_nil ?_
          refine wpTake_nil ?_
          refine wpRest_cons rfl ?_
          go_wp2_with fail
          refine ⟨fun _ => late_of ((Ch.refl _ wo).alloc _).drew, ?_⟩
          refine wpRest_list _ _ _ (by decide) ?_
          simp only [List.map_cons, List.map_nil, Array.getD_eq_getD_getElem?, List.getElem?_toArray, List.getElem?_cons_zero, List.getElem?_cons_succ, Option.getD_some]
          go_wp2_with fail
          refine NoPanic.normal ?_
          rename_i hK
          refine hK _ _ ?_
          clear hK g0 g1 g3 g4 g5
          go_wp2_with ((refine wpList_str_bytes rfl (.tmp 63) rfl (s.extract (k * 48) s.size) rfl ?_
                        rw [HCL.out, HCH.out]
                        intro cap w4 hcells hc4
                        have hS4 := hc4.blk (Blk.new wo 73 _).drew id
                        have cS5 := hS4.cell (j := 5) rfl
                        have cS4 := hS4.cell (j := 4) rfl
                        have fS5 := hS4.free 5
                        have fS4 := hS4.free 4))
          have hS5 : Blk ((w4.setCell ⟨wo.heap.size, 5, none⟩ (.slice (some ⟨wo.heap.size + 1, 0, none⟩) (chunk (strBytes s) k).length cap)).setCell ⟨wo.heap.size, 4, none⟩ (.int .i64 (chunk (strBytes s) k).length)) wo.heap.size 73 #[U32 m.epoch, U32 m.life, .int .i64 (m.next + k : Nat), U8 3, .int .i64 (chunk (strBytes s) k).length, .slice (some ⟨wo.heap.size + 1, 0, none⟩) (chunk (strBytes s) k).length cap] :=
            (hS4.set 5 (.slice (some ⟨wo.heap.size + 1, 0, none⟩) (chunk (strBytes s) k).length cap)).set 4 (.int .i64 (chunk (strBytes s) k).length)
          have hc04 : Ch (fun _ => False) wo w4 := ((Ch.refl _ wo).alloc _).drew.trans hc4 (fun _ _ e => e)
          have hc45 : Ch (· = wo.heap.size) w4 ((w4.setCell ⟨wo.heap.size, 5, none⟩ (.slice (some ⟨wo.heap.size + 1, 0, none⟩) (chunk (strBytes s) k).length cap)).setCell ⟨wo.heap.size, 4, none⟩ (.int .i64 (chunk (strBytes s) k).length)) := Ch.set (S := (· = wo.heap.size)) (Ch.set (S := (· = wo.heap.size)) (Ch.refl _ w4) (Or.inr rfl) _) (Or.inr rfl) _
          have hc05 := hc04.trans hc45 (fun i hi e => by have e' : i = wo.heap.size := e; omega)
          have hsz : ((wo.alloc (.cells #[U32 m.epoch, U32 m.life, .int .i64 (m.next + k : Nat), .int .u8 3, .int .i64 0, .slice none 0 0] 73)).drew).heap.size = wo.heap.size + 1 := by simp
          have hsrc : Src (fun _ => False) ((w4.setCell ⟨wo.heap.size, 5, none⟩ (.slice (some ⟨wo.heap.size + 1, 0, none⟩) (chunk (strBytes s) k).length cap)).setCell ⟨wo.heap.size, 4, none⟩ (.int .i64 (chunk (strBytes s) k).length)) (some ⟨wo.heap.size + 1, 0, none⟩) (chunk (strBytes s) k) :=
            fun _ => ⟨wo.heap.size + 1, 0, rfl, id, fun j y hy => by
              have h9 : w4.cell? ⟨wo.heap.size + 1, j, none⟩ = some (U8 y) := hsz ▸ hcells j y hy
              rw [Nat.zero_add]
              exact hc45.cell h9 (fun e => by have e' : wo.heap.size + 1 = wo.heap.size := e; omega)⟩
          clear hcells hsz cS5 cS4 fS5 fS4 hc45 hS4 hc4 hc04
          generalize (w4.setCell ⟨wo.heap.size, 5, none⟩ (.slice (some ⟨wo.heap.size + 1, 0, none⟩) (chunk (strBytes s) k).length cap)).setCell ⟨wo.heap.size, 4, none⟩ (.int .i64 (chunk (strBytes s) k).length) = w5 at *
          generalize hAg : wo.heap.size + 1 = A at *
          clear hAg
          generalize wo.heap.size = S at *
          have hl5 : LogAt w5 B D m := hc05.blk hlr id
          have hd5 := hdr.keep hc05 (fun _ _ e => e)
          have hcw5 : Ch F w1 w5 := hcr.trans hc05 (fun _ _ e => e.elim)
          have g0 : ∀ x : Later (fun _ => False) w5, x.val.cell? ⟨B, 0, none⟩ = some (.pointer (some ⟨D, 0, none⟩)) := fun x => x.cell (Blk.cell hl5 (j := 0) rfl) id
          have g1 : ∀ x : Later (fun _ => False) w5, x.val.cell? ⟨B, 1, none⟩ = some (.int .i64 m.first) := fun x => x.cell (Blk.cell hl5 (j := 1) rfl) id
          have gS : ∀ x : Later (fun _ => False) w5, x.val.cell? ⟨S, 2, none⟩ = some (.int .i64 (m.next + k : Nat)) := fun x => x.cell (hS5.cell (j := 2) rfl) id
          have i6 : IntKind.i64.wrap ((m.first : Int) + (m.next + k : Nat)) = (m.first : Int) + (m.next + k : Nat) := IntWalk.i64_in _ (by omega)
          have gclen : ((chunk (strBytes s) k).length : Int) ≤ 48 := by have := chunk_le (strBytes s) k; omega
          refine wp_region_take (late (fun _ => False) w5) 13 [0, 1, 2, 3, 4, 5, 6, 7, 8, 9, 10, 11] [12, 13, 14] (by kernel_rfl) (by kernel_rfl) (late_of (Ch.refl _ w5).drew) ?_
          simp only [List.map_cons, List.map_nil, Array.getD_eq_getD_getElem?, List.getElem?_toArray, List.getElem?_cons_zero, List.getElem?_cons_succ, Option.getD_some]
          refine wpTake_seg 11 (by kernel_rfl) ?_
          simp only [List.take_succ_cons, List.take_zero, List.drop_succ_cons, List.drop_zero]
          unfold late
          repeat (go_big_quiet_step (fail))
          refine wpQuiet_nil ?_
          refine wpTake_val (by rfl) (.agg #[U32 m.epoch, U32 m.life, .int .i64 (m.next + k : Nat), U8 3, .int .i64 (chunk (strBytes s) k).length, .slice (some ⟨A, 0, none⟩) (chunk (strBytes s) k).length cap]) ?_ ?_
          · rintro _ ⟨x, rfl⟩
            exact run_exec_load 73 (.tmp 7) rfl _ _ rfl (run_load_row 73 73 S _ (x.blk hS5 id) _ Try.underlying73 rfl 6 info73 rfl)
          refine wpTake_nil ?_
          simp only [Act.put, List.setIfInBounds_toArray, List.set_cons_succ, List.set_cons_zero]
          refine wpRest_cons rfl ?_
          have henc := encode_any m.epoch m.life (m.next + k) 3 (chunk (strBytes s) k) (some ⟨A, 0, none⟩) cap w5.drew (hsrc.ch (Ch.refl _ w5).drew (fun _ e => e)) (chunk_le _ _) (by omega)
          have HENC := Lib.hid henc
          clear henc g0 g1 gS hsrc
          go_wp2_with fail
          refine HENC.out.mono ?_
          rintro e w6 ⟨E, rfl, hEw, hE6, hc6⟩
          have hc56 : Ch (fun _ => False) w5 w6 := (Ch.refl _ w5).drew.trans hc6 (fun _ _ e => e)
          go_wp2_with fail
          refine ⟨fun _ => late_of hc56, ?_⟩
          refine wpRest_list _ _ _ (by decide) ?_
          simp only [List.map_cons, List.map_nil, Array.getD_eq_getD_getElem?, List.getElem?_toArray, List.getElem?_cons_zero, List.getElem?_cons_succ, Option.getD_some]
          have hd6 := hd5.keep hc56 (fun _ _ e => e)
          have hl6 : LogAt w6 B D m := hc56.blk hl5 id
          have hcw6 : Ch F w1 w6 := hcw5.trans hc56 (fun _ _ e => e.elim)
          have hsec : m.sec (strBytes s) n k = encF m.epoch m.life (m.next + k) 3 (chunk (strBytes s) k) := by unfold LM.sec flagOf; rw [if_pos HK0.out, if_pos HKN.out]
          have hwr := write_any F' D d' (m.first + (m.next + k) : Nat) (bytesOf (m.sec (strBytes s) n k) 0 64) (some ⟨E, 0, none⟩) 64 w6 hd6 (by rw [hsec]; exact src_bArr F' hE6 0 64 (by omega) (fun e => by have := hd5.lt E e; simp at hEw; omega)) (by omega)
          rw [bytesOf_length] at hwr
          have hpx := DM.write_pend d' (m.first + (m.next + k) : Nat) (bytesOf (m.sec (strBytes s) n k) 0 64)
          have hloop := HLOOP.out
          rw [show n - k = (n - (k + 1)) + 1 by omega, LM.appLoop] at hloop
          clear HLOOP hsec
          generalize hxg : d'.write (m.first + (m.next + k) : Nat) (bytesOf (m.sec (strBytes s) n k) 0 64) = x at *
          clear hxg
          have HWR := Lib.hid hwr
          have HLOOP := Lib.hid hloop
          clear hwr hloop HENC hE6 hc56 hd5 hl5 hcw5 hS5 hc05 hdr hlr hcr
          go_wp2_with fail
          refine HWR.out.mono ?_
          rintro e w7 ⟨F'', rfl, hst⟩
          have hl7 : LogAt w7 B D m := hst.ch.blk hl6 hBr
          have hcw7 : Ch F w1 w7 := hcw6.trans hst.ch (fun i hi e => (hnr i e).elim id (fun h => by omega))
          have hn7 : ∀ j, F'' j → F j ∨ w1.heap.size ≤ j := fun j hj => (hst.new j hj).elim (hnr j) (fun h => Or.inr (by have := hcw6.size; omega))
          have hB7 : ¬ F'' B := fun e => (hst.new B e).elim hBr (fun h => by have := Blk.lt hl6; omega)
          have hd7 := hst.at_
          clear HWR hst hl6 hcw6 hd6
          by_cases hx0 : x.1 = 0
          · have hb : (x.1 != 0) = false := by simp [hx0]
            have HX0 := Lib.hid hx0
            clear hx0
            go_wp2_with fail
            refine NoPanic.normal ?_
            rename_i hK
            refine hK _ _ ?_
            clear hK
            go_wp2_with fail
            have hloop := HLOOP.out
            rw [if_pos HX0.out] at hloop
            go_roundw
            case rel => exact ⟨k + 1, F'', x.2, by omega, by go_num, hl7, hd7, hcw7, hn7, hB7, by omega, hloop⟩
            case measure => simp [intOf]; omega
          · have hb : (x.1 != 0) = true := by simp [hx0]
            have HX0 := Lib.hid hx0
            clear hx0
            go_wp2_with fail
            refine NoPanic.normal ?_
            rename_i hK
            refine hK _ _ ?_
            clear hK
            go_wp2_with fail
            go_ret
            have hloop := HLOOP.out
            rw [if_neg HX0.out] at hloop
            rw [HAPP.out, ← hloop, if_neg HX0.out]
            exact ⟨rfl, F'', hd7, hl7, hcw7.mono (fun _ _ e => Or.inl e), hn7⟩
        · have e0 : ((k : Int) == 0) = true := by simp [hk0]
          have e1 : ((k : Int) == (n : Int) - 1) = false := by rw [beq_eq_false_iff_ne]; omega
          have HK0 := Lib.hid hk0
          have HKN := Lib.hid hkn
          clear hk0 hkn
          have gh : ((k : Int) + 1) * 48 < s.size := by have := secs_lt' (HN.out ▸ (show k + 1 < n by have := HKN.out; omega)); omega
          have hchunk : strBytes (s.extract (k * 48) ((k + 1) * 48)) = chunk (strBytes s) k := strBytes_extract s k _ (by omega) (Or.inr ⟨rfl, by omega⟩)
          have hclen : (s.extract (k * 48) ((k + 1) * 48)).size = (chunk (strBytes s) k).length := by rw [← hchunk, strBytes_length]
          have HCH := Lib.hid hchunk
          have HCL := Lib.hid hclen
          clear hchunk hclen
          go_wp2_with fail
          refine wp_region_take (late (fun _ => False) wo) 16 [0, 1, 2, 3, 4, 5, 6, 7, 8, 9, 10, 11, 12, 13, 14] [15, 16] (by kernel_rfl) (by kernel_rfl) (late_of (Ch.refl _ wo).drew) ?_
          simp only [List.map_cons, List.map_nil, Array.getD_eq_getD_getElem?, List.getElem?_toArray, List.getElem?_cons_zero, List.getElem?_cons_succ, Option.getD_some]
          refine wpTake_seg 15 (by kernel_rfl) ?_
          simp only [List.take_succ_cons, List.take_zero, List.drop_succ_cons, List.drop_zero]
          unfold late
          repeat (go_big_quiet_step (fail))
          refine wpQuiet_nil ?_
          refine wpTake_nil ?_
          refine wpRest_cons rfl ?_
          go_wp2_with fail
          refine ⟨fun _ => late_of ((Ch.refl _ wo).alloc _).drew, ?_⟩
          refine wpRest_list _ _ _ (by decide) ?_
          simp only [List.map_cons, List.map_nil, Array.getD_eq_getD_getElem?, List.getElem?_toArray, List.getElem?_cons_zero, List.getElem?_cons_succ, Option.getD_some]
          go_wp2_with fail
          refine NoPanic.normal ?_
          rename_i hK
          refine hK _ _ ?_
          clear hK g0 g1 g3 g4 g5
          go_wp2_with ((refine wpList_str_bytes rfl (.tmp 63) rfl (s.extract (k * 48) ((k + 1) * 48)) rfl ?_
                        rw [HCL.out, HCH.out]
                        intro cap w4 hcells hc4
                        have hS4 := hc4.blk (Blk.new wo 73 _).drew id
                        have cS5 := hS4.cell (j := 5) rfl
                        have cS4 := hS4.cell (j := 4) rfl
                        have fS5 := hS4.free 5
                        have fS4 := hS4.free 4))
          have hS5 : Blk ((w4.setCell ⟨wo.heap.size, 5, none⟩ (.slice (some ⟨wo.heap.size + 1, 0, none⟩) (chunk (strBytes s) k).length cap)).setCell ⟨wo.heap.size, 4, none⟩ (.int .i64 (chunk (strBytes s) k).length)) wo.heap.size 73 #[U32 m.epoch, U32 m.life, .int .i64 (m.next + k : Nat), U8 1, .int .i64 (chunk (strBytes s) k).length, .slice (some ⟨wo.heap.size + 1, 0, none⟩) (chunk (strBytes s) k).length cap] :=
            (hS4.set 5 (.slice (some ⟨wo.heap.size + 1, 0, none⟩) (chunk (strBytes s) k).length cap)).set 4 (.int .i64 (chunk (strBytes s) k).length)
          have hc04 : Ch (fun _ => False) wo w4 := ((Ch.refl _ wo).alloc _).drew.trans hc4 (fun _ _ e => e)
          have hc45 : Ch (· = wo.heap.size) w4 ((w4.setCell ⟨wo.heap.size, 5, none⟩ (.slice (some ⟨wo.heap.size + 1, 0, none⟩) (chunk (strBytes s) k).length cap)).setCell ⟨wo.heap.size, 4, none⟩ (.int .i64 (chunk (strBytes s) k).length)) := Ch.set (S := (· = wo.heap.size)) (Ch.set (S := (· = wo.heap.size)) (Ch.refl _ w4) (Or.inr rfl) _) (Or.inr rfl) _
          have hc05 := hc04.trans hc45 (fun i hi e => by have e' : i = wo.heap.size := e; omega)
          have hsz : ((wo.alloc (.cells #[U32 m.epoch, U32 m.life, .int .i64 (m.next + k : Nat), .int .u8 1, .int .i64 0, .slice none 0 0] 73)).drew).heap.size = wo.heap.size + 1 := by simp
          have hsrc : Src (fun _ => False) ((w4.setCell ⟨wo.heap.size, 5, none⟩ (.slice (some ⟨wo.heap.size + 1, 0, none⟩) (chunk (strBytes s) k).length cap)).setCell ⟨wo.heap.size, 4, none⟩ (.int .i64 (chunk (strBytes s) k).length)) (some ⟨wo.heap.size + 1, 0, none⟩) (chunk (strBytes s) k) :=
            fun _ => ⟨wo.heap.size + 1, 0, rfl, id, fun j y hy => by
              have h9 : w4.cell? ⟨wo.heap.size + 1, j, none⟩ = some (U8 y) := hsz ▸ hcells j y hy
              rw [Nat.zero_add]
              exact hc45.cell h9 (fun e => by have e' : wo.heap.size + 1 = wo.heap.size := e; omega)⟩
          clear hcells hsz cS5 cS4 fS5 fS4 hc45 hS4 hc4 hc04
          generalize (w4.setCell ⟨wo.heap.size, 5, none⟩ (.slice (some ⟨wo.heap.size + 1, 0, none⟩) (chunk (strBytes s) k).length cap)).setCell ⟨wo.heap.size, 4, none⟩ (.int .i64 (chunk (strBytes s) k).length) = w5 at *
          generalize hAg : wo.heap.size + 1 = A at *
          clear hAg
          generalize wo.heap.size = S at *
          have hl5 : LogAt w5 B D m := hc05.blk hlr id
          have hd5 := hdr.keep hc05 (fun _ _ e => e)
          have hcw5 : Ch F w1 w5 := hcr.trans hc05 (fun _ _ e => e.elim)
          have g0 : ∀ x : Later (fun _ => False) w5, x.val.cell? ⟨B, 0, none⟩ = some (.pointer (some ⟨D, 0, none⟩)) := fun x => x.cell (Blk.cell hl5 (j := 0) rfl) id
          have g1 : ∀ x : Later (fun _ => False) w5, x.val.cell? ⟨B, 1, none⟩ = some (.int .i64 m.first) := fun x => x.cell (Blk.cell hl5 (j := 1) rfl) id
          have gS : ∀ x : Later (fun _ => False) w5, x.val.cell? ⟨S, 2, none⟩ = some (.int .i64 (m.next + k : Nat)) := fun x => x.cell (hS5.cell (j := 2) rfl) id
          have i6 : IntKind.i64.wrap ((m.first : Int) + (m.next + k : Nat)) = (m.first : Int) + (m.next + k : Nat) := IntWalk.i64_in _ (by omega)
          have gclen : ((chunk (strBytes s) k).length : Int) ≤ 48 := by have := chunk_le (strBytes s) k; omega
          refine wp_region_take (late (fun _ => False) w5) 13 [0, 1, 2, 3, 4, 5, 6, 7, 8, 9, 10, 11] [12, 13, 14] (by kernel_rfl) (by kernel_rfl) (late_of (Ch.refl _ w5).drew) ?_
          simp only [List.map_cons, List.map_nil, Array.getD_eq_getD_getElem?, List.getElem?_toArray, List.getElem?_cons_zero, List.getElem?_cons_succ, Option.getD_some]
          refine wpTake_seg 11 (by kernel_rfl) ?_
          simp only [List.take_succ_cons, List.take_zero, List.drop_succ_cons, List.drop_zero]
          unfold late
          repeat (go_big_quiet_step (fail))
          refine wpQuiet_nil ?_
          refine wpTake_val (by rfl) (.agg #[U32 m.epoch, U32 m.life, .int .i64 (m.next + k : Nat), U8 1, .int .i64 (chunk (strBytes s) k).length, .slice (some ⟨A, 0, none⟩) (chunk (strBytes s) k).length cap]) ?_ ?_
          · rintro _ ⟨x, rfl⟩
            exact run_exec_load 73 (.tmp 7) rfl _ _ rfl (run_load_row 73 73 S _ (x.blk hS5 id) _ Try.underlying73 rfl 6 info73 rfl)
          refine wpTake_nil ?_
          simp only [Act.put, List.setIfInBounds_toArray, List.set_cons_succ, List.set_cons_zero]
          refine wpRest_cons rfl ?_
          have henc := encode_any m.epoch m.life (m.next + k) 1 (chunk (strBytes s) k) (some ⟨A, 0, none⟩) cap w5.drew (hsrc.ch (Ch.refl _ w5).drew (fun _ e => e)) (chunk_le _ _) (by omega)
          have HENC := Lib.hid henc
          clear henc g0 g1 gS hsrc
          go_wp2_with fail
          refine HENC.out.mono ?_
          rintro e w6 ⟨E, rfl, hEw, hE6, hc6⟩
          have hc56 : Ch (fun _ => False) w5 w6 := (Ch.refl _ w5).drew.trans hc6 (fun _ _ e => e)
          go_wp2_with fail
          refine ⟨fun _ => late_of hc56, ?_⟩
          refine wpRest_list _ _ _ (by decide) ?_
          simp only [List.map_cons, List.map_nil, Array.getD_eq_getD_getElem?, List.getElem?_toArray, List.getElem?_cons_zero, List.getElem?_cons_succ, Option.getD_some]
          have hd6 := hd5.keep hc56 (fun _ _ e => e)
          have hl6 : LogAt w6 B D m := hc56.blk hl5 id
          have hcw6 : Ch F w1 w6 := hcw5.trans hc56 (fun _ _ e => e.elim)
          have hsec : m.sec (strBytes s) n k = encF m.epoch m.life (m.next + k) 1 (chunk (strBytes s) k) := by unfold LM.sec flagOf; rw [if_pos HK0.out, if_neg HKN.out]
          have hwr := write_any F' D d' (m.first + (m.next + k) : Nat) (bytesOf (m.sec (strBytes s) n k) 0 64) (some ⟨E, 0, none⟩) 64 w6 hd6 (by rw [hsec]; exact src_bArr F' hE6 0 64 (by omega) (fun e => by have := hd5.lt E e; simp at hEw; omega)) (by omega)
          rw [bytesOf_length] at hwr
          have hpx := DM.write_pend d' (m.first + (m.next + k) : Nat) (bytesOf (m.sec (strBytes s) n k) 0 64)
          have hloop := HLOOP.out
          rw [show n - k = (n - (k + 1)) + 1 by omega, LM.appLoop] at hloop
          clear HLOOP hsec
          generalize hxg : d'.write (m.first + (m.next + k) : Nat) (bytesOf (m.sec (strBytes s) n k) 0 64) = x at *
          clear hxg
          have HWR := Lib.hid hwr
          have HLOOP := Lib.hid hloop
          clear hwr hloop HENC hE6 hc56 hd5 hl5 hcw5 hS5 hc05 hdr hlr hcr
          go_wp2_with fail
          refine HWR.out.mono ?_
          rintro e w7 ⟨F'', rfl, hst⟩
          have hl7 : LogAt w7 B D m := hst.ch.blk hl6 hBr
          have hcw7 : Ch F w1 w7 := hcw6.trans hst.ch (fun i hi e => (hnr i e).elim id (fun h => by omega))
          have hn7 : ∀ j, F'' j → F j ∨ w1.heap.size ≤ j := fun j hj => (hst.new j hj).elim (hnr j) (fun h => Or.inr (by have := hcw6.size; omega))
          have hB7 : ¬ F'' B := fun e => (hst.new B e).elim hBr (fun h => by have := Blk.lt hl6; omega)
          have hd7 := hst.at_
          clear HWR hst hl6 hcw6 hd6
          by_cases hx0 : x.1 = 0
          · have hb : (x.1 != 0) = false := by simp [hx0]
            have HX0 := Lib.hid hx0
            clear hx0
            go_wp2_with fail
            refine NoPanic.normal ?_
            rename_i hK
            refine hK _ _ ?_
            clear hK
            go_wp2_with fail
            have hloop := HLOOP.out
            rw [if_pos HX0.out] at hloop
            go_roundw
            case rel => exact ⟨k + 1, F'', x.2, by omega, by go_num, hl7, hd7, hcw7, hn7, hB7, by omega, hloop⟩
            case measure => simp [intOf]; omega
          · have hb : (x.1 != 0) = true := by simp [hx0]
            have HX0 := Lib.hid hx0
            clear hx0
            go_wp2_with fail
            refine NoPanic.normal ?_
            rename_i hK
            refine hK _ _ ?_
            clear hK
            go_wp2_with fail
            go_ret
            have hloop := HLOOP.out
            rw [if_neg HX0.out] at hloop
            rw [HAPP.out, ← hloop, if_neg HX0.out]
            exact ⟨rfl, F'', hd7, hl7, hcw7.mono (fun _ _ e => Or.inl e), hn7⟩
      · by_cases hkn : k + 1 = n
        · have e0 : ((k : Int) == 0) = false := by simp [hk0]
          have e1 : ((k : Int) == (n : Int) - 1) = true := by rw [beq_iff_eq]; omega
          have HK0 := Lib.hid hk0
          have HKN := Lib.hid hkn
          clear hk0 hkn
          have gh : (s.size : Int) ≤ ((k : Int) + 1) * 48 := by have := secs_last (HKN.out.trans HN.out.symm); omega
          have hchunk : strBytes (s.extract (k * 48) s.size) = chunk (strBytes s) k := strBytes_extract s k _ (by omega) (Or.inl ⟨rfl, by omega⟩)
          have hclen : (s.extract (k * 48) s.size).size = (chunk (strBytes s) k).length := by rw [← hchunk, strBytes_length]
          have HCH := Lib.hid hchunk
          have HCL := Lib.hid hclen
          clear hchunk hclen
          go_wp2_with fail
          refine wp_region_take (late (fun _ => False) wo) 16 [0, 1, 2, 3, 4, 5, 6, 7, 8, 9, 10, 11, 12, 13, 14] [15, 16] (by kernel_rfl) (by kernel_rfl) (late_of (Ch.refl _ wo).drew) ?_
          simp only [List.map_cons, List.map_nil, Array.getD_eq_getD_getElem?, List.getElem?_toArray, List.getElem?_cons_zero, List.getElem?_cons_succ, Option.getD_some]
          refine wpTake_seg 15 (by kernel_rfl) ?_
          simp only [List.take_succ_cons, List.take_zero, List.drop_succ_cons, List.drop_zero]
          unfold late
          repeat (go_big_quiet_step (fail))
          refine wpQuiet_nil ?_
          refine wpTake_nil ?_
          refine wpRest_cons rfl ?_
          go_wp2_with fail
          refine ⟨fun _ => late_of ((Ch.refl _ wo).alloc _).drew, ?_⟩
          refine wpRest_list _ _ _ (by decide) ?_
          simp only [List.map_cons, List.map_nil, Array.getD_eq_getD_getElem?, List.getElem?_toArray, List.getElem?_cons_zero, List.getElem?_cons_succ, Option.getD_some]
          go_wp2_with fail
          refine NoPanic.normal ?_
          rename_i hK
          refine hK _ _ ?_
          clear hK g0 g1 g3 g4 g5
          go_wp2_with ((refine wpList_str_bytes rfl (.tmp 63) rfl (s.extract (k * 48) s.size) rfl ?_
                        rw [HCL.out, HCH.out]
                        intro cap w4 hcells hc4
                        have hS4 := hc4.blk (Blk.new wo 73 _).drew id
                        have cS5 := hS4.cell (j := 5) rfl
                        have cS4 := hS4.cell (j := 4) rfl
                        have fS5 := hS4.free 5
                        have fS4 := hS4.free 4))
          have hS5 : Blk ((w4.setCell ⟨wo.heap.size, 5, none⟩ (.slice (some ⟨wo.heap.size + 1, 0, none⟩) (chunk (strBytes s) k).length cap)).setCell ⟨wo.heap.size, 4, none⟩ (.int .i64 (chunk (strBytes s) k).length)) wo.heap.size 73 #[U32 m.epoch, U32 m.life, .int .i64 (m.next + k : Nat), U8 2, .int .i64 (chunk (strBytes s) k).length, .slice (some ⟨wo.heap.size + 1, 0, none⟩) (chunk (strBytes s) k).length cap] :=
            (hS4.set 5 (.slice (some ⟨wo.heap.size + 1, 0, none⟩) (chunk (strBytes s) k).length cap)).set 4 (.int .i64 (chunk (strBytes s) k).length)
          have hc04 : Ch (fun _ => False) wo w4 := ((Ch.refl _ wo).alloc _).drew.trans hc4 (fun _ _ e => e)
          have hc45 : Ch (· = wo.heap.size) w4 ((w4.setCell ⟨wo.heap.size, 5, none⟩ (.slice (some ⟨wo.heap.size + 1, 0, none⟩) (chunk (strBytes s) k).length cap)).setCell ⟨wo.heap.size, 4, none⟩ (.int .i64 (chunk (strBytes s) k).length)) := Ch.set (S := (· = wo.heap.size)) (Ch.set (S := (· = wo.heap.size)) (Ch.refl _ w4) (Or.inr rfl) _) (Or.inr rfl) _
          have hc05 := hc04.trans hc45 (fun i hi e => by have e' : i = wo.heap.size := e; omega)
          have hsz : ((wo.alloc (.cells #[U32 m.epoch, U32 m.life, .int .i64 (m.next + k : Nat), .int .u8 2, .int .i64 0, .slice none 0 0] 73)).drew).heap.size = wo.heap.size + 1 := by simp
          have hsrc : Src (fun _ => False) ((w4.setCell ⟨wo.heap.size, 5, none⟩ (.slice (some ⟨wo.heap.size + 1, 0, none⟩) (chunk (strBytes s) k).length cap)).setCell ⟨wo.heap.size, 4, none⟩ (.int .i64 (chunk (strBytes s) k).length)) (some ⟨wo.heap.size + 1, 0, none⟩) (chunk (strBytes s) k) :=
            fun _ => ⟨wo.heap.size + 1, 0, rfl, id, fun j y hy => by
              have h9 : w4.cell? ⟨wo.heap.size + 1, j, none⟩ = some (U8 y) := hsz ▸ hcells j y hy
              rw [Nat.zero_add]
              exact hc45.cell h9 (fun e => by have e' : wo.heap.size + 1 = wo.heap.size := e; omega)⟩
          clear hcells hsz cS5 cS4 fS5 fS4 hc45 hS4 hc4 hc04
          generalize (w4.setCell ⟨wo.heap.size, 5, none⟩ (.slice (some ⟨wo.heap.size + 1, 0, none⟩) (chunk (strBytes s) k).length cap)).setCell ⟨wo.heap.size, 4, none⟩ (.int .i64 (chunk (strBytes s) k).length) = w5 at *
          generalize hAg : wo.heap.size + 1 = A at *
          clear hAg
          generalize wo.heap.size = S at *
          have hl5 : LogAt w5 B D m := hc05.blk hlr id
          have hd5 := hdr.keep hc05 (fun _ _ e => e)
          have hcw5 : Ch F w1 w5 := hcr.trans hc05 (fun _ _ e => e.elim)
          have g0 : ∀ x : Later (fun _ => False) w5, x.val.cell? ⟨B, 0, none⟩ = some (.pointer (some ⟨D, 0, none⟩)) := fun x => x.cell (Blk.cell hl5 (j := 0) rfl) id
          have g1 : ∀ x : Later (fun _ => False) w5, x.val.cell? ⟨B, 1, none⟩ = some (.int .i64 m.first) := fun x => x.cell (Blk.cell hl5 (j := 1) rfl) id
          have gS : ∀ x : Later (fun _ => False) w5, x.val.cell? ⟨S, 2, none⟩ = some (.int .i64 (m.next + k : Nat)) := fun x => x.cell (hS5.cell (j := 2) rfl) id
          have i6 : IntKind.i64.wrap ((m.first : Int) + (m.next + k : Nat)) = (m.first : Int) + (m.next + k : Nat) := IntWalk.i64_in _ (by omega)
          have gclen : ((chunk (strBytes s) k).length : Int) ≤ 48 := by have := chunk_le (strBytes s) k; omega
          refine wp_region_take (late (fun _ => False) w5) 13 [0, 1, 2, 3, 4, 5, 6, 7, 8, 9, 10, 11] [12, 13, 14] (by kernel_rfl) (by kernel_rfl) (late_of (Ch.refl _ w5).drew) ?_
          simp only [List.map_cons, List.map_nil, Array.getD_eq_getD_getElem?, List.getElem?_toArray, List.getElem?_cons_zero, List.getElem?_cons_succ, Option.getD_some]
          refine wpTake_seg 11 (by kernel_rfl) ?_
          simp only [List.take_succ_cons, List.take_zero, List.drop_succ_cons, List.drop_zero]
          unfold late
          repeat (go_big_quiet_step (fail))
          refine wpQuiet_nil ?_
          refine wpTake_val (by rfl) (.agg #[U32 m.epoch, U32 m.life, .int .i64 (m.next + k : Nat), U8 2, .int .i64 (chunk (strBytes s) k).length, .slice (some ⟨A, 0, none⟩) (chunk (strBytes s) k).length cap]) ?_ ?_
          · rintro _ ⟨x, rfl⟩
            exact run_exec_load 73 (.tmp 7) rfl _ _ rfl (run_load_row 73 73 S _ (x.blk hS5 id) _ Try.underlying73 rfl 6 info73 rfl)
          refine wpTake_nil ?_
          simp only [Act.put, List.setIfInBounds_toArray, List.set_cons_succ, List.set_cons_zero]
          refine wpRest_cons rfl ?_
          have henc := encode_any m.epoch m.life (m.next + k) 2 (chunk (strBytes s) k) (some ⟨A, 0, none⟩) cap w5.drew (hsrc.ch (Ch.refl _ w5).drew (fun _ e => e)) (chunk_le _ _) (by omega)
          have HENC := Lib.hid henc
          clear henc g0 g1 gS hsrc
          go_wp2_with fail
          refine HENC.out.mono ?_
          rintro e w6 ⟨E, rfl, hEw, hE6, hc6⟩
          have hc56 : Ch (fun _ => False) w5 w6 := (Ch.refl _ w5).drew.trans hc6 (fun _ _ e => e)
          go_wp2_with fail
          refine ⟨fun _ => late_of hc56, ?_⟩
          refine wpRest_list _ _ _ (by decide) ?_
          simp only [List.map_cons, List.map_nil, Array.getD_eq_getD_getElem?, List.getElem?_toArray, List.getElem?_cons_zero, List.getElem?_cons_succ, Option.getD_some]
          have hd6 := hd5.keep hc56 (fun _ _ e => e)
          have hl6 : LogAt w6 B D m := hc56.blk hl5 id
          have hcw6 : Ch F w1 w6 := hcw5.trans hc56 (fun _ _ e => e.elim)
          have hsec : m.sec (strBytes s) n k = encF m.epoch m.life (m.next + k) 2 (chunk (strBytes s) k) := by unfold LM.sec flagOf; rw [if_neg HK0.out, if_pos HKN.out]
          have hwr := write_any F' D d' (m.first + (m.next + k) : Nat) (bytesOf (m.sec (strBytes s) n k) 0 64) (some ⟨E, 0, none⟩) 64 w6 hd6 (by rw [hsec]; exact src_bArr F' hE6 0 64 (by omega) (fun e => by have := hd5.lt E e; simp at hEw; omega)) (by omega)
          rw [bytesOf_length] at hwr
          have hpx := DM.write_pend d' (m.first + (m.next + k) : Nat) (bytesOf (m.sec (strBytes s) n k) 0 64)
          have hloop := HLOOP.out
          rw [show n - k = (n - (k + 1)) + 1 by omega, LM.appLoop] at hloop
          clear HLOOP hsec
          generalize hxg : d'.write (m.first + (m.next + k) : Nat) (bytesOf (m.sec (strBytes s) n k) 0 64) = x at *
          clear hxg
          have HWR := Lib.hid hwr
          have HLOOP := Lib.hid hloop
          clear hwr hloop HENC hE6 hc56 hd5 hl5 hcw5 hS5 hc05 hdr hlr hcr
          go_wp2_with fail
          refine HWR.out.mono ?_
          rintro e w7 ⟨F'', rfl, hst⟩
          have hl7 : LogAt w7 B D m := hst.ch.blk hl6 hBr
          have hcw7 : Ch F w1 w7 := hcw6.trans hst.ch (fun i hi e => (hnr i e).elim id (fun h => by omega))
          have hn7 : ∀ j, F'' j → F j ∨ w1.heap.size ≤ j := fun j hj => (hst.new j hj).elim (hnr j) (fun h => Or.inr (by have := hcw6.size; omega))
          have hB7 : ¬ F'' B := fun e => (hst.new B e).elim hBr (fun h => by have := Blk.lt hl6; omega)
          have hd7 := hst.at_
          clear HWR hst hl6 hcw6 hd6
          by_cases hx0 : x.1 = 0
          · have hb : (x.1 != 0) = false := by simp [hx0]
            have HX0 := Lib.hid hx0
            clear hx0
            go_wp2_with fail
            refine NoPanic.normal ?_
            rename_i hK
            refine hK _ _ ?_
            clear hK
            go_wp2_with fail
            have hloop := HLOOP.out
            rw [if_pos HX0.out] at hloop
            go_roundw
            case rel => exact ⟨k + 1, F'', x.2, by omega, by go_num, hl7, hd7, hcw7, hn7, hB7, by omega, hloop⟩
            case measure => simp [intOf]; omega
          · have hb : (x.1 != 0) = true := by simp [hx0]
            have HX0 := Lib.hid hx0
            clear hx0
            go_wp2_with fail
            refine NoPanic.normal ?_
            rename_i hK
            refine hK _ _ ?_
            clear hK
            go_wp2_with fail
            go_ret
            have hloop := HLOOP.out
            rw [if_neg HX0.out] at hloop
            rw [HAPP.out, ← hloop, if_neg HX0.out]
            exact ⟨rfl, F'', hd7, hl7, hcw7.mono (fun _ _ e => Or.inl e), hn7⟩
        · have e0 : ((k : Int) == 0) = false := by simp [hk0]
          have e1 : ((k : Int) == (n : Int) - 1) = false := by rw [beq_eq_false_iff_ne]; omega
          have HK0 := Lib.hid hk0
          have HKN := Lib.hid hkn
          clear hk0 hkn
          have gh : ((k : Int) + 1) * 48 < s.size := by have := secs_lt' (HN.out ▸ (show k + 1 < n by have := HKN.out; omega)); omega
          have hchunk : strBytes (s.extract (k * 48) ((k + 1) * 48)) = chunk (strBytes s) k := strBytes_extract s k _ (by omega) (Or.inr ⟨rfl, by omega⟩)
          have hclen : (s.extract (k * 48) ((k + 1) * 48)).size = (chunk (strBytes s) k).length := by rw [← hchunk, strBytes_length]
          have HCH := Lib.hid hchunk
          have HCL := Lib.hid hclen
          clear hchunk hclen
          go_wp2_with fail
          refine wp_region_take (late (fun _ => False) wo) 16 [0, 1, 2, 3, 4, 5, 6, 7, 8, 9, 10, 11, 12, 13, 14] [15, 16] (by kernel_rfl) (by kernel_rfl) (late_of (Ch.refl _ wo).drew) ?_
          simp only [List.map_cons, List.map_nil, Array.getD_eq_getD_getElem?, List.getElem?_toArray, List.getElem?_cons_zero, List.getElem?_cons_succ, Option.getD_some]
          refine wpTake_seg 15 (by kernel_rfl) ?_
          simp only [List.take_succ_cons, List.take_zero, List.drop_succ_cons, List.drop_zero]
          unfold late
          repeat (go_big_quiet_step (fail))
          refine wpQuiet_nil ?_
          refine wpTake_nil ?_
          refine wpRest_cons rfl ?_
          go_wp2_with fail
          refine ⟨fun _ => late_of ((Ch.refl _ wo).alloc _).drew, ?_⟩
          refine wpRest_list _ _ _ (by decide) ?_
          simp only [List.map_cons, List.map_nil, Array.getD_eq_getD_getElem?, List.getElem?_toArray, List.getElem?_cons_zero, List.getElem?_cons_succ, Option.getD_some]
          go_wp2_with fail
          refine NoPanic.normal ?_
          rename_i hK
          refine hK _ _ ?_
          clear hK g0 g1 g3 g4 g5
          go_wp2_with ((refine wpList_str_bytes rfl (.tmp 63) rfl (s.extract (k * 48) ((k + 1) * 48)) rfl ?_
                        rw [HCL.out, HCH.out]
                        intro cap w4 hcells hc4
                        have hS4 := hc4.blk (Blk.new wo 73 _).drew id
                        have cS5 := hS4.cell (j := 5) rfl
                        have cS4 := hS4.cell (j := 4) rfl
                        have fS5 := hS4.free 5
                        have fS4 := hS4.free 4))
          have hS5 : Blk ((w4.setCell ⟨wo.heap.size, 5, none⟩ (.slice (some ⟨wo.heap.size + 1, 0, none⟩) (chunk (strBytes s) k).length cap)).setCell ⟨wo.heap.size, 4, none⟩ (.int .i64 (chunk (strBytes s) k).length)) wo.heap.size 73 #[U32 m.epoch, U32 m.life, .int .i64 (m.next + k : Nat), U8 0, .int .i64 (chunk (strBytes s) k).length, .slice (some ⟨wo.heap.size + 1, 0, none⟩) (chunk (strBytes s) k).length cap] :=
            (hS4.set 5 (.slice (some ⟨wo.heap.size + 1, 0, none⟩) (chunk (strBytes s) k).length cap)).set 4 (.int .i64 (chunk (strBytes s) k).length)
          have hc04 : Ch (fun _ => False) wo w4 := ((Ch.refl _ wo).alloc _).drew.trans hc4 (fun _ _ e => e)
          have hc45 : Ch (· = wo.heap.size) w4 ((w4.setCell ⟨wo.heap.size, 5, none⟩ (.slice (some ⟨wo.heap.size + 1, 0, none⟩) (chunk (strBytes s) k).length cap)).setCell ⟨wo.heap.size, 4, none⟩ (.int .i64 (chunk (strBytes s) k).length)) := Ch.set (S := (· = wo.heap.size)) (Ch.set (S := (· = wo.heap.size)) (Ch.refl _ w4) (Or.inr rfl) _) (Or.inr rfl) _
          have hc05 := hc04.trans hc45 (fun i hi e => by have e' : i = wo.heap.size := e; omega)
          have hsz : ((wo.alloc (.cells #[U32 m.epoch, U32 m.life, .int .i64 (m.next + k : Nat), .int .u8 0, .int .i64 0, .slice none 0 0] 73)).drew).heap.size = wo.heap.size + 1 := by simp
          have hsrc : Src (fun _ => False) ((w4.setCell ⟨wo.heap.size, 5, none⟩ (.slice (some ⟨wo.heap.size + 1, 0, none⟩) (chunk (strBytes s) k).length cap)).setCell ⟨wo.heap.size, 4, none⟩ (.int .i64 (chunk (strBytes s) k).length)) (some ⟨wo.heap.size + 1, 0, none⟩) (chunk (strBytes s) k) :=
            fun _ => ⟨wo.heap.size + 1, 0, rfl, id, fun j y hy => by
              have h9 : w4.cell? ⟨wo.heap.size + 1, j, none⟩ = some (U8 y) := hsz ▸ hcells j y hy
              rw [Nat.zero_add]
              exact hc45.cell h9 (fun e => by have e' : wo.heap.size + 1 = wo.heap.size := e; omega)⟩
          clear hcells hsz cS5 cS4 fS5 fS4 hc45 hS4 hc4 hc04
          generalize (w4.setCell ⟨wo.heap.size, 5, none⟩ (.slice (some ⟨wo.heap.size + 1, 0, none⟩) (chunk (strBytes s) k).length cap)).setCell ⟨wo.heap.size, 4, none⟩ (.int .i64 (chunk (strBytes s) k).length) = w5 at *
          generalize hAg : wo.heap.size + 1 = A at *
          clear hAg
          generalize wo.heap.size = S at *
          have hl5 : LogAt w5 B D m := hc05.blk hlr id
          have hd5 := hdr.keep hc05 (fun _ _ e => e)
          have hcw5 : Ch F w1 w5 := hcr.trans hc05 (fun _ _ e => e.elim)
          have g0 : ∀ x : Later (fun _ => False) w5, x.val.cell? ⟨B, 0, none⟩ = some (.pointer (some ⟨D, 0, none⟩)) := fun x => x.cell (Blk.cell hl5 (j := 0) rfl) id
          have g1 : ∀ x : Later (fun _ => False) w5, x.val.cell? ⟨B, 1, none⟩ = some (.int .i64 m.first) := fun x => x.cell (Blk.cell hl5 (j := 1) rfl) id
          have gS : ∀ x : Later (fun _ => False) w5, x.val.cell? ⟨S, 2, none⟩ = some (.int .i64 (m.next + k : Nat)) := fun x => x.cell (hS5.cell (j := 2) rfl) id
          have i6 : IntKind.i64.wrap ((m.first : Int) + (m.next + k : Nat)) = (m.first : Int) + (m.next + k : Nat) := IntWalk.i64_in _ (by omega)
          have gclen : ((chunk (strBytes s) k).length : Int) ≤ 48 := by have := chunk_le (strBytes s) k; omega
          refine wp_region_take (late (fun _ => False) w5) 13 [0, 1, 2, 3, 4, 5, 6, 7, 8, 9, 10, 11] [12, 13, 14] (by kernel_rfl) (by kernel_rfl) (late_of (Ch.refl _ w5).drew) ?_
          simp only [List.map_cons, List.map_nil, Array.getD_eq_getD_getElem?, List.getElem?_toArray, List.getElem?_cons_zero, List.getElem?_cons_succ, Option.getD_some]
          refine wpTake_seg 11 (by kernel_rfl) ?_
          simp only [List.take_succ_cons, List.take_zero, List.drop_succ_cons, List.drop_zero]
          unfold late
          repeat (go_big_quiet_step (fail))
          refine wpQuiet_nil ?_
          refine wpTake_val (by rfl) (.agg #[U32 m.epoch, U32 m.life, .int .i64 (m.next + k : Nat), U8 0, .int .i64 (chunk (strBytes s) k).length, .slice (some ⟨A, 0, none⟩) (chunk (strBytes s) k).length cap]) ?_ ?_
          · rintro _ ⟨x, rfl⟩
            exact run_exec_load 73 (.tmp 7) rfl _ _ rfl (run_load_row 73 73 S _ (x.blk hS5 id) _ Try.underlying73 rfl 6 info73 rfl)
          refine wpTake_nil ?_
          simp only [Act.put, List.setIfInBounds_toArray, List.set_cons_succ, List.set_cons_zero]
          refine wpRest_cons rfl ?_
          have henc := encode_any m.epoch m.life (m.next + k) 0 (chunk (strBytes s) k) (some ⟨A, 0, none⟩) cap w5.drew (hsrc.ch (Ch.refl _ w5).drew (fun _ e => e)) (chunk_le _ _) (by omega)
          have HENC := Lib.hid henc
          clear henc g0 g1 gS hsrc
          go_wp2_with fail
          refine HENC.out.mono ?_
          rintro e w6 ⟨E, rfl, hEw, hE6, hc6⟩
          have hc56 : Ch (fun _ => False) w5 w6 := (Ch.refl _ w5).drew.trans hc6 (fun _ _ e => e)
          go_wp2_with fail
          refine ⟨fun _ => late_of hc56, ?_⟩
          refine wpRest_list _ _ _ (by decide) ?_
          simp only [List.map_cons, List.map_nil, Array.getD_eq_getD_getElem?, List.getElem?_toArray, List.getElem?_cons_zero, List.getElem?_cons_succ, Option.getD_some]
          have hd6 := hd5.keep hc56 (fun _ _ e => e)
          have hl6 : LogAt w6 B D m := hc56.blk hl5 id
          have hcw6 : Ch F w1 w6 := hcw5.trans hc56 (fun _ _ e => e.elim)
          have hsec : m.sec (strBytes s) n k = encF m.epoch m.life (m.next + k) 0 (chunk (strBytes s) k) := by unfold LM.sec flagOf; rw [if_neg HK0.out, if_neg HKN.out]
          have hwr := write_any F' D d' (m.first + (m.next + k) : Nat) (bytesOf (m.sec (strBytes s) n k) 0 64) (some ⟨E, 0, none⟩) 64 w6 hd6 (by rw [hsec]; exact src_bArr F' hE6 0 64 (by omega) (fun e => by have := hd5.lt E e; simp at hEw; omega)) (by omega)
          rw [bytesOf_length] at hwr
          have hpx := DM.write_pend d' (m.first + (m.next + k) : Nat) (bytesOf (m.sec (strBytes s) n k) 0 64)
          have hloop := HLOOP.out
          rw [show n - k = (n - (k + 1)) + 1 by omega, LM.appLoop] at hloop
          clear HLOOP hsec
          generalize hxg : d'.write (m.first + (m.next + k) : Nat) (bytesOf (m.sec (strBytes s) n k) 0 64) = x at *
          clear hxg
          have HWR := Lib.hid hwr
          have HLOOP := Lib.hid hloop
          clear hwr hloop HENC hE6 hc56 hd5 hl5 hcw5 hS5 hc05 hdr hlr hcr
          go_wp2_with fail
          refine HWR.out.mono ?_
          rintro e w7 ⟨F'', rfl, hst⟩
          have hl7 : LogAt w7 B D m := hst.ch.blk hl6 hBr
          have hcw7 : Ch F w1 w7 := hcw6.trans hst.ch (fun i hi e => (hnr i e).elim id (fun h => by omega))
          have hn7 : ∀ j, F'' j → F j ∨ w1.heap.size ≤ j := fun j hj => (hst.new j hj).elim (hnr j) (fun h => Or.inr (by have := hcw6.size; omega))
          have hB7 : ¬ F'' B := fun e => (hst.new B e).elim hBr (fun h => by have := Blk.lt hl6; omega)
          have hd7 := hst.at_
          clear HWR hst hl6 hcw6 hd6
          by_cases hx0 : x.1 = 0
          · have hb : (x.1 != 0) = false := by simp [hx0]
            have HX0 := Lib.hid hx0
            clear hx0
            go_wp2_with fail
            refine NoPanic.normal ?_
            rename_i hK
            refine hK _ _ ?_
            clear hK
            go_wp2_with fail
            have hloop := HLOOP.out
            rw [if_pos HX0.out] at hloop
            go_roundw
            case rel => exact ⟨k + 1, F'', x.2, by omega, by go_num, hl7, hd7, hcw7, hn7, hB7, by omega, hloop⟩
            case measure => simp [intOf]; omega
          · have hb : (x.1 != 0) = true := by simp [hx0]
            have HX0 := Lib.hid hx0
            clear hx0
            go_wp2_with fail
            refine NoPanic.normal ?_
            rename_i hK
            refine hK _ _ ?_
            clear hK
            go_wp2_with fail
            go_ret
            have hloop := HLOOP.out
            rw [if_neg HX0.out] at hloop
            rw [HAPP.out, ← hloop, if_neg HX0.out]
            exact ⟨rfl, F'', hd7, hl7, hcw7.mono (fun _ _ e => Or.inl e), hn7⟩
    · obtain rfl : k = n := by omega
      have c5 : wr.cell? ⟨B, 5, none⟩ = some (.int .i64 m.next) := Blk.cell hlr (j := 5) rfl
      have f5 := Blk.free hlr 5
      have gm : (m.next : Int) + k ≤ 4096 := by omega
      go_wp2
      go_ret
      have hloop := HLOOP.out
      rw [Nat.sub_self, LM.appLoop] at hloop
      rw [HAPP.out, ← hloop, if_pos rfl]
      refine ⟨rfl, F', hdr.keep (Ch.set (S := (· = B)) (Ch.refl _ wr) (p := ⟨B, 5, none⟩) (Or.inr rfl) _) (fun i hi e => hBr (by rw [← (show i = B from e)]; exact hi)), ?_, Ch.set (S := fun k => F k ∨ k = B) (hcr.mono (fun _ _ e => Or.inl e)) (p := ⟨B, 5, none⟩) (Or.inr (Or.inr rfl)) _, hnr⟩
      have := Blk.set hlr 5 (.int .i64 ((m.next + k : Nat) : Int))
      exact this
end Go.Proofs.Ytjhnkpohdlilpaa
