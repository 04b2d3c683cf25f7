/-
  The walk of log.read.
-/
import Derived.Test.YtjhnkpohdlilpaaReadLem
import Derived.Test.YtjhnkpohdlilpaaSteps
import Derived.Maps.AppendAt
import Derived.Laws.BytesString
import Derived.Test.YtjhnkpohdlilpaaAppend
import Derived.Test.YtjhnkpohdlilpaaAppendOk
import Derived.Test.YtjhnkpohdlilpaaAppendLem
import Derived.Test.YtjhnkpohdlilpaaLogSmall
import Derived.Test.YtjhnkpohdlilpaaNewDisk
import Derived.Test.YtjhnkpohdlilpaaCrash
import Derived.Test.YtjhnkpohdlilpaaFlush
import Derived.Test.YtjhnkpohdlilpaaWrite
import Derived.Test.YtjhnkpohdlilpaaAppendPend
import Derived.Deep.AppendLies
import Derived.Great.BuildSlice
import Derived.Test.YtjhnkpohdlilpaaDiskLem
import Derived.Test.YtjhnkpohdlilpaaRead
import Derived.Test.YtjhnkpohdlilpaaOut
import Derived.Test.YtjhnkpohdlilpaaDiskSmall
import Derived.Test.YtjhnkpohdlilpaaDisk
import Derived.Test.YtjhnkpohdlilpaaAtom
import Derived.Test.YtjhnkpohdlilpaaDecode
import Derived.Test.YtjhnkpohdlilpaaEncode
import Derived.Test.YtjhnkpohdlilpaaTake
import Derived.Test.YtjhnkpohdlilpaaCopy
import Derived.Laws.CopyOwn
import Derived.Deep.OwnRows
import Derived.Deep.MidRow
import Derived.Test.YtjhnkpohdlilpaaPut
import Derived.Test.YtjhnkpohdlilpaaRows
import Derived.Test.YtjhnkpohdlilpaaWords
import Derived.Test.YtjhnkpohdlilpaaMem
import Derived.Test.YtjhnkpohdlilpaaTail
import Derived.Test.YtjhnkpohdlilpaaCrc
import Derived.Test.YtjhnkpohdlilpaaArr
import Derived.RangeFuncNested
import Derived.RangeFuncBound
import Derived.RangeFuncCalls
import Derived.RangeFuncLeaves
import Derived.Shelf.Abstract
import Derived.Shelf.RegionOpen
import Derived.WalkKit
import Derived.OwnWalkIn
import Derived.TacticsInMore
import Derived.LoopNIn
import Derived.LoopIn
import Derived.WalkSpells
import Derived.WalkLawsBesides
import Derived.Lib.Hide
import Derived.BigQuiet
import Derived.Outline
import Derived.Deep.DeepFit
namespace Go.Proofs.Ytjhnkpohdlilpaa
open Go.RowKit Go.Shelf
attribute [local go_sem] Oper.semAt_some
structure RIs (base : Nat) (w : World) (rv pv : Value) (st : RS) : Prop where
  hR : w.ownsRow base 9 1 rv st.recs.length ((st.recs.map strOf).map Value.string)
  hP : w.ownsRow base 5 1 pv st.part.length (st.part.map U8)
  ne : ∀ i, rv.ownBlock = some i → pv.ownBlock = some i → False
theorem badSec_good {f : Sec} {ep most : BitVec 32} {p : Nat} {st : RS} (h0 : sumOk f = true) (h1 : (get32 f 4 4 != ep) = false) (h2 : ((get32 f 12 2).toNat != p) = false) (h3 : decide (most.toNat < (get32 f 8 4).toNat) = false) (h4 : decide (3 < (f 14).toNat) = false) (h5 : decide (48 < (f 15).toNat) = false)
    (h6 : (st.inside == (f 14 &&& 1#8 != 0#8)) = false) (h7 : decide ((get32 f 8 4).toNat < st.last.toNat) = false) (h8 : (st.inside && (get32 f 8 4 != st.last)) = false) (h9 : ((f 14 &&& 2#8 == 0#8) && ((f 15).toNat != 48)) = false) : badSec f ep most p st = false := by
  have h6' : (st.inside == (f 14 &&& 1 != 0)) = false := h6
  have h9' : ((f 14 &&& 2 == 0) && ((f 15).toNat != 48)) = false := h9
  unfold badSec
  rw [h0, h1, h2, h3, h4, h5, h6', h7, h8, h9']
  rfl
theorem badSec_6 {f : Sec} {ep most : BitVec 32} {p : Nat} {st : RS} (h6 : (st.inside == (f 14 &&& 1#8 != 0#8)) = true) : badSec f ep most p st = true := by
  have h6' : (st.inside == (f 14 &&& 1 != 0)) = true := h6
  unfold badSec
  rw [h6']
  simp
theorem badSec_7 {f : Sec} {ep most : BitVec 32} {p : Nat} {st : RS} (h7 : decide ((get32 f 8 4).toNat < st.last.toNat) = true) : badSec f ep most p st = true := by
  unfold badSec
  rw [h7]
  simp
theorem badSec_8 {f : Sec} {ep most : BitVec 32} {p : Nat} {st : RS} (h8 : (st.inside && (get32 f 8 4 != st.last)) = true) : badSec f ep most p st = true := by
  unfold badSec
  rw [h8]
  simp
theorem badSec_9 {f : Sec} {ep most : BitVec 32} {p : Nat} {st : RS} (h9 : ((f 14 &&& 2#8 == 0#8) && ((f 15).toNat != 48)) = true) : badSec f ep most p st = true := by
  have h9' : ((f 14 &&& 2 == 0) && ((f 15).toNat != 48)) = true := h9
  unfold badSec
  rw [h9']
  simp
def RPost (w : World) (B D : Nat) (m : LM) (most : BitVec 32) (d : DM) (e : Ending) (w' : World) : Prop :=
  ∃ rv st, st = readLoop d.now m.first m.epoch most 1 (m.count - 1) { recs := [], part := [], last := 0, inside := false, next := m.next } ∧ e = .returned (.tuple #[rv, .int .i64 0]) ∧
    w'.ownsRow w.heap.size 9 1 rv st.recs.length ((st.recs.map strOf).map Value.string) ∧ LogAt w' B D { m with next := st.next } ∧ Ch (· = B) w w'
theorem RPost.close {w wo w' : World} {B D : Nat} {m : LM} {most : BitVec 32} {d : DM} {e : Ending} {rv pv : Value} {st : RS} (hI : RIs w.heap.size wo rv pv st) (hl : LogAt wo B D { m with next := st.next }) (hc : Ch (· = B) w wo) (hc' : Ch (fun _ => False) wo w')
    (hst : st = readLoop d.now m.first m.epoch most 1 (m.count - 1) { recs := [], part := [], last := 0, inside := false, next := m.next }) (he : e = .returned (.tuple #[rv, .int .i64 0])) : RPost w B D m most d e w' :=
  ⟨rv, st, hst, he, own_ch hI.hR hc' (fun _ _ e => e), hc'.blk hl id, hc.trans hc' (fun _ _ e => e.elim)⟩
set_option maxHeartbeats 4000000 in
set_option maxRecDepth 100000 in
theorem read_any (B : Nat) (m : LM) (most : BitVec 32) (F : Nat → Prop) (D : Nat) (d : DM) (w : World) (hl : LogAt w B D m) (h : DiskAt w F D d) (hB : ¬ F B) (hd : d.down = false) (h1 : m.first + m.count ≤ d.n) :
    Calls Try.prog 33 #[.pointer (some ⟨B, 0, none⟩), U32 most] w (RPost w B D m most d) := by
  have hn : d.n ≤ 4096 := by obtain ⟨N, L, pv, h, _⟩ := h; exact h.n2
  go_enter Try.func33, Try.ntmps33
  go_wp2_with fail
  go_step3
  go_wp2_with fail
  go_step3
  go_wp2_with fail
  go_loopw [6, 7, 8, 9, 10] (fun rv pv lv iv p wr => ∃ (k : Nat) (st : RS), k ≤ m.count - 1 ∧ p = .int .i64 ((k + 1 : Nat) : Int) ∧ lv = U32 st.last ∧ iv = .bool st.inside ∧ RIs w.heap.size wr rv pv st ∧ st.part.length ≤ 48 * k ∧ st.recs.length ≤ k ∧ LogAt wr B D { m with next := st.next } ∧ Ch (· = B) w wr ∧
    readLoop d.now m.first m.epoch most (k + 1) (m.count - 1 - k) st = readLoop d.now m.first m.epoch most 1 (m.count - 1) { recs := [], part := [], last := 0, inside := false, next := m.next }) (fun _ _ _ _ p _ => m.count - (intOf p).toNat)
  case atStart => exact ⟨0, { recs := [], part := [], last := 0, inside := false, next := m.next }, Nat.zero_le _, rfl, rfl, rfl, ⟨World.ownsRow_nil _ _ _ _, World.ownsRow_nil _ _ _ _, fun _ e => (by cases e)⟩, Nat.zero_le _, Nat.zero_le _, hl, Ch.refl _ _, rfl⟩
  case round =>
    obtain ⟨k, st, hk, rfl, rfl, rfl, hI, hpl, hrl, hlr, hcr, hloop⟩ := hrel
    have HLOOP := Lib.hid hloop
    clear hloop
    obtain ⟨wo, rfl⟩ : ∃ x, x = wr := ⟨_, rfl⟩
    have c2 : wo.cell? ⟨B, 2, none⟩ = some (.int .i64 m.count) := Blk.cell hlr (j := 2) rfl
    by_cases hlt : k + 1 < m.count
    · have l1 : (k : Int) + 1 < m.count := by omega
      go_wp2_with fail
      have hdo : DiskAt wo F D d := h.keep hcr (fun i hi e => hB (by rw [← (show i = B from e)]; exact hi))
      have g0 : ∀ x : Later (fun _ => False) wo, x.val.cell? ⟨B, 0, none⟩ = some (.pointer (some ⟨D, 0, none⟩)) := fun x => x.cell (Blk.cell hlr (j := 0) rfl) id
      have g1 : ∀ x : Later (fun _ => False) wo, x.val.cell? ⟨B, 1, none⟩ = some (.int .i64 m.first) := fun x => x.cell (Blk.cell hlr (j := 1) rfl) id
      have i6 : IntKind.i64.wrap ((m.first : Int) + (k + 1 : Nat)) = (m.first : Int) + (k + 1 : Nat) := IntWalk.i64_in _ (by omega)
      refine wp_region_steps (late (fun _ => False) wo) 15 [(true, 0), (true, 1), (true, 2), (true, 3), (true, 4), (true, 5), (true, 6), (true, 7), (true, 8), (true, 9), (false, 10), (true, 11), (true, 12), (true, 13), (true, 14)] [15] (by kernel_rfl) (by kernel_rfl) (late_of (Ch.refl _ wo).drew) ?_
      refine wpSteps_take [0, 1, 2, 3, 4, 5, 6, 7, 8, 9] [(false, 10), (true, 11), (true, 12), (true, 13), (true, 14)] _ _ ?_
      simp only [List.map_cons, List.map_nil, Array.getD_eq_getD_getElem?, List.getElem?_toArray, List.getElem?_cons_zero, List.getElem?_cons_succ, Option.getD_some]
      refine wpTake_seg 10 (by kernel_rfl) ?_
      simp only [List.take_succ_cons, List.take_zero, List.drop_succ_cons, List.drop_zero]
      unfold late
      repeat (go_big_quiet_step (fail))
      refine wpQuiet_nil ?_
      refine wpTake_nil ?_
      refine wpSteps_one rfl ?_
      have hre : Calls Try.prog 28 #[.pointer (some ⟨D, 0, none⟩), .int .i64 ((m.first + (k + 1) : Nat) : Int)] wo.drew fun e w' => ∃ E, e = .returned (.tuple #[.slice (some ⟨E, 0, none⟩) 64 64, .int .i64 0]) ∧ wo.heap.size ≤ E ∧ Blk w' E 5 (bArr (d.now (m.first + (k + 1))) 64) ∧ Ch (fun _ => False) wo w' := by
        obtain ⟨N, L, pv, hdd, _⟩ := hdo
        refine (read_ok D N L pv d (m.first + (k + 1)) wo.drew (hdd.keep (Ch.refl (fun _ => False) wo).drew (fun _ _ e => e)) hd (by omega)).mono ?_
        rintro e w' ⟨E, h1, h2, h3, h4⟩
        exact ⟨E, h1, h2, h3, (Ch.refl _ wo).drew.trans h4 (fun _ _ e => e)⟩
      have HRE := Lib.hid hre
      clear hre g0 g1
      go_wp2_with fail
      refine HRE.out.mono ?_
      rintro e w2 ⟨E, rfl, hEw, hE2, hc2⟩
      go_wp2_with fail
      refine ⟨⟨⟨w2, hc2⟩, rfl⟩, ?_⟩
      refine wpSteps_take [11, 12, 13, 14] [] _ _ ?_
      simp only [List.map_cons, List.map_nil, Array.getD_eq_getD_getElem?, List.getElem?_toArray, List.getElem?_cons_zero, List.getElem?_cons_succ, Option.getD_some]
      refine wpTake_seg 4 (by kernel_rfl) ?_
      simp only [List.take_succ_cons, List.take_zero, List.drop_succ_cons, List.drop_zero]
      repeat (go_big_quiet_step (fail))
      refine wpQuiet_nil ?_
      refine wpTake_nil ?_
      refine wpRest_list _ _ _ (by decide) ?_
      simp only [List.map_cons, List.map_nil, Array.getD_eq_getD_getElem?, List.getElem?_toArray, List.getElem?_cons_zero, List.getElem?_cons_succ, Option.getD_some]
      go_wp2_with fail
      refine NoPanic.normal ?_
      rename_i hK
      refine hK _ _ ?_
      clear hK
      go_wp2_with fail
      generalize hfg : d.now (m.first + (k + 1)) = f at *
      have HFG := Lib.hid hfg
      clear hfg
      have hdec : Calls Try.prog 29 #[.slice (some ⟨E, 0, none⟩) 64 64] w2 fun r w' => r = .returned (.tuple #[.agg #[U32 (get32 f 4 4), U32 (get32 f 8 4), .int .i64 (get32 f 12 2).toNat, U8 (f 14), .int .i64 (f 15).toNat, .slice (some ⟨E, 16, none⟩) (min (f 15).toNat 48) 48], .bool (sumOk f)]) ∧ Ch (fun _ => False) w2 w' := decode_any E f w2 hE2
      refine hdec.mono ?_
      rintro e w3 ⟨rfl, hc3⟩
      clear hdec HRE
      have hE3 := hc3.blk hE2 id
      have hc03 := hc2.trans hc3 (fun _ _ e => e)
      clear hc2 hc3 hE2
      go_wp2_with fail
      have hS4 := Blk.new w3 73 #[U32 (get32 f 4 4), U32 (get32 f 8 4), .int .i64 (get32 f 12 2).toNat, U8 (f 14), .int .i64 (f 15).toNat, .slice (some ⟨E, 16, none⟩) (min (f 15).toNat 48) 48]
      have hc34 := (Ch.refl (fun _ => False) w3).alloc (.cells #[U32 (get32 f 4 4), U32 (get32 f 8 4), .int .i64 (get32 f 12 2).toNat, U8 (f 14), .int .i64 (f 15).toNat, .slice (some ⟨E, 16, none⟩) (min (f 15).toNat 48) 48] 73)
      change Code.wp _ _ _ _ (w3.alloc (.cells #[U32 (get32 f 4 4), U32 (get32 f 8 4), .int .i64 (get32 f 12 2).toNat, U8 (f 14), .int .i64 (f 15).toNat, .slice (some ⟨E, 16, none⟩) (min (f 15).toNat 48) 48] 73))
      have hE4 := hc34.blk hE3 id
      have hc04 := hc03.trans hc34 (fun _ _ e => e)
      have hSw : wo.heap.size ≤ w3.heap.size := hc03.size
      generalize (w3.alloc (.cells #[U32 (get32 f 4 4), U32 (get32 f 8 4), .int .i64 (get32 f 12 2).toNat, U8 (f 14), .int .i64 (f 15).toNat, .slice (some ⟨E, 16, none⟩) (min (f 15).toNat 48) 48] 73)) = w4 at *
      generalize w3.heap.size = S at *
      clear hc34 hc03 hE3
      have hl4 : LogAt w4 B D { m with next := st.next } := hc04.blk hlr id
      have cS0 := hS4.cell (j := 0) rfl
      have cS1 := hS4.cell (j := 1) rfl
      have cS2 := hS4.cell (j := 2) rfl
      have cS3 := hS4.cell (j := 3) rfl
      have cS4 := hS4.cell (j := 4) rfl
      have cB3 : w4.cell? ⟨B, 3, none⟩ = some (U32 m.epoch) := Blk.cell hl4 (j := 3) rfl
      cases b0 : sumOk f
      · have hbad : badSec f m.epoch most (k + 1) st = true := by unfold badSec; simp [b0]
        have HBAD := Lib.hid hbad
        clear hbad
        go_quiet (fail)
        go_wp2_with fail
        rw [Exit.noGoto_ret]
        go_ret2
        refine RPost.close hI hlr hcr (hc04.drewN nq) ?_ rfl
        have hlo := HLOOP.out
        rw [show m.count - 1 - k = (m.count - 1 - (k + 1)) + 1 by omega, readLoop, HFG.out, if_pos HBAD.out] at hlo
        exact hlo
      cases b1 : (get32 f 4 4 != m.epoch)
      rotate_left
      · have hbad : badSec f m.epoch most (k + 1) st = true := by unfold badSec; simp [b0, b1]
        have HBAD := Lib.hid hbad
        clear hbad
        go_quiet (fail)
        go_wp2_with fail
        rw [Exit.noGoto_ret]
        go_ret2
        refine RPost.close hI hlr hcr (hc04.drewN nq) ?_ rfl
        have hlo := HLOOP.out
        rw [show m.count - 1 - k = (m.count - 1 - (k + 1)) + 1 by omega, readLoop, HFG.out, if_pos HBAD.out] at hlo
        exact hlo
      cases b2 : (((get32 f 12 2).toNat : Int) != (k : Int) + 1)
      rotate_left
      · have c2' : ((get32 f 12 2).toNat != k + 1) = true := by rw [bne_iff_ne] at b2 ⊢; omega
        have C2 := Lib.hid c2'
        clear c2'
        have hbad : badSec f m.epoch most (k + 1) st = true := by unfold badSec; simp [b0, b1, C2.out]
        have HBAD := Lib.hid hbad
        clear hbad
        go_quiet (fail)
        go_wp2_with fail
        rw [Exit.noGoto_ret]
        go_ret2
        refine RPost.close hI hlr hcr (hc04.drewN nq) ?_ rfl
        have hlo := HLOOP.out
        rw [show m.count - 1 - k = (m.count - 1 - (k + 1)) + 1 by omega, readLoop, HFG.out, if_pos HBAD.out] at hlo
        exact hlo
      have c2' : ((get32 f 12 2).toNat != k + 1) = false := by rw [bne_eq_false_iff_eq] at b2 ⊢; omega
      have C2 := Lib.hid c2'
      clear c2'
      cases b3 : decide (most.toNat < (get32 f 8 4).toNat)
      rotate_left
      · have hbad : badSec f m.epoch most (k + 1) st = true := by unfold badSec; simp [b0, b1, C2.out, of_decide_eq_true b3]
        have HBAD := Lib.hid hbad
        clear hbad
        go_quiet (fail)
        go_wp2_with fail
        rw [Exit.noGoto_ret]
        go_ret2
        refine RPost.close hI hlr hcr (hc04.drewN nq) ?_ rfl
        have hlo := HLOOP.out
        rw [show m.count - 1 - k = (m.count - 1 - (k + 1)) + 1 by omega, readLoop, HFG.out, if_pos HBAD.out] at hlo
        exact hlo
      cases b4 : decide ((3 : Int) < ((f 14).toNat : Int))
      rotate_left
      · have C4 : Hid (decide (3 < (f 14).toNat) = true) := Lib.hid (by rw [decide_eq_true_iff] at b4 ⊢; omega)
        have hbad : badSec f m.epoch most (k + 1) st = true := by unfold badSec; simp [b0, b1, C2.out, of_decide_eq_false b3, of_decide_eq_true C4.out]
        have HBAD := Lib.hid hbad
        clear hbad
        go_quiet (fail)
        go_wp2_with fail
        rw [Exit.noGoto_ret]
        go_ret2
        refine RPost.close hI hlr hcr (hc04.drewN nq) ?_ rfl
        have hlo := HLOOP.out
        rw [show m.count - 1 - k = (m.count - 1 - (k + 1)) + 1 by omega, readLoop, HFG.out, if_pos HBAD.out] at hlo
        exact hlo
      have C4 : Hid (decide (3 < (f 14).toNat) = false) := Lib.hid (by rw [decide_eq_false_iff_not] at b4 ⊢; omega)
      cases b5 : decide ((48 : Int) < ((f 15).toNat : Int))
      rotate_left
      · have C5 : Hid (decide (48 < (f 15).toNat) = true) := Lib.hid (by rw [decide_eq_true_iff] at b5 ⊢; omega)
        have hbad : badSec f m.epoch most (k + 1) st = true := by unfold badSec; simp [b0, b1, C2.out, of_decide_eq_true C5.out]
        have HBAD := Lib.hid hbad
        clear hbad
        go_quiet (fail)
        go_wp2_with fail
        rw [Exit.noGoto_ret]
        go_ret2
        refine RPost.close hI hlr hcr (hc04.drewN nq) ?_ rfl
        have hlo := HLOOP.out
        rw [show m.count - 1 - k = (m.count - 1 - (k + 1)) + 1 by omega, readLoop, HFG.out, if_pos HBAD.out] at hlo
        exact hlo
      have C5 : Hid (decide (48 < (f 15).toNat) = false) := Lib.hid (by rw [decide_eq_false_iff_not] at b5 ⊢; omega)
      cases bi : st.inside
      · cases bb : (f 14 &&& 1#8 != 0#8)
        · have hbad : badSec f m.epoch most (k + 1) st = true := badSec_6 (by rw [bi, bb]; rfl)
          have HBAD := Lib.hid hbad
          clear hbad
          go_quiet (fail)
          go_wp2_with fail
          rw [Exit.noGoto_ret]
          go_ret2
          refine RPost.close hI hlr hcr (hc04.drewN nq) ?_ rfl
          have hlo := HLOOP.out
          rw [show m.count - 1 - k = (m.count - 1 - (k + 1)) + 1 by omega, readLoop, HFG.out, if_pos HBAD.out] at hlo
          exact hlo
        · cases b7 : decide ((get32 f 8 4).toNat < st.last.toNat)
          rotate_left
          · have hbad : badSec f m.epoch most (k + 1) st = true := badSec_7 b7
            have HBAD := Lib.hid hbad
            clear hbad
            go_quiet (fail)
            go_wp2_with fail
            rw [Exit.noGoto_ret]
            go_ret2
            refine RPost.close hI hlr hcr (hc04.drewN nq) ?_ rfl
            have hlo := HLOOP.out
            rw [show m.count - 1 - k = (m.count - 1 - (k + 1)) + 1 by omega, readLoop, HFG.out, if_pos HBAD.out] at hlo
            exact hlo
          cases be : (f 14 &&& 2#8 != 0#8)
          · have be2 : (f 14 &&& 2#8 == 0#8) = true := by rw [bne_eq_false_iff_eq] at be; rw [be]; rfl
            cases bl : (((f 15).toNat : Int) != 48)
            · have CL : Hid (((f 15).toNat != 48) = false) := Lib.hid (by rw [bne_eq_false_iff_eq] at bl ⊢; omega)
              have hgood : badSec f m.epoch most (k + 1) st = false := badSec_good b0 b1 C2.out b3 C4.out C5.out (by rw [bi, bb]; rfl) b7 (by rw [bi]; rfl) (by rw [be2, CL.out]; rfl)
              have HGOOD := Lib.hid hgood
              clear hgood
              have hstep : st.step f (k + 1) = { st with part := st.part ++ secBytes f, last := get32 f 8 4, inside := true } := by unfold RS.step; rw [if_neg (by rw [show (f 14 &&& 2 != 0) = false from be]; simp)]
              have HSTEP := Lib.hid hstep
              clear hstep
              go_quiet (fail)
              go_wp2_with fail
              have hc05 := hc04.drewN nq
              have hS5 := hS4.drewN nq
              have hE5 := hE4.drewN nq
              have hl5 : LogAt (w4.drewN nq) B D { m with next := st.next } := hl4
              generalize w4.drewN nq = w5 at *
              have hP5 := own_ch hI.hP hc05 (fun _ _ e => e)
              have hR5 := own_ch hI.hR hc05 (fun _ _ e => e)
              have hbase : w.heap.size ≤ w5.heap.size := Nat.le_trans hcr.size hc05.size
              have hPlt := hI.hP.lt
              have hRlt := hI.hR.lt
              have hBlt : B < w.heap.size := Blk.lt hl
              have hne := hI.ne
              have hSP : ¬ u7.ownBlock = some S := fun e => by have := (hPlt S e).2; omega
              have hEP : ¬ u7.ownBlock = some E := fun e => by have := (hPlt E e).2; omega
              have hBP : ¬ u7.ownBlock = some B := fun e => by have := (hPlt B e).1; omega
              have hBR : ¬ u6.ownBlock = some B := fun e => by have := (hRlt B e).1; omega
              have hw5 : wo.heap.size ≤ w5.heap.size := hc05.size
              have hsl : (secBytes f).length ≤ 48 := by unfold secBytes; rw [bytesOf_length]; omega
              have gS5 : ∀ x : Later (fun i => u7.ownBlock = some i) w5, x.val.cell? ⟨S, 5, none⟩ = some (.slice (some ⟨E, 16, none⟩) (min (f 15).toNat 48) 48) := fun x => x.cell (hS5.cell (j := 5) rfl) hSP
              have gS1 : ∀ x : Later (fun i => u7.ownBlock = some i) w5, x.val.cell? ⟨S, 1, none⟩ = some (U32 (get32 f 8 4)) := fun x => x.cell (hS5.cell (j := 1) rfl) hSP
              clear hI hl4 hS4 hE4 hc04 cS0 cS1 cS2 cS3 cS4 cB3 hlr hSw hEw
              refine wp_region_take (late (fun i => u7.ownBlock = some i) w5) 7 [0, 1, 2, 4, 5] [3, 6, 7, 8] (by kernel_rfl) (by kernel_rfl) (late_of (Ch.refl _ w5).drew) ?_
              simp only [List.map_cons, List.map_nil, Array.getD_eq_getD_getElem?, List.getElem?_toArray, List.getElem?_cons_zero, List.getElem?_cons_succ, Option.getD_some]
              refine wpTake_seg 5 (by kernel_rfl) ?_
              simp only [List.take_succ_cons, List.take_zero, List.drop_succ_cons, List.drop_zero]
              unfold late
              repeat (go_big_quiet_step (fail))
              refine wpQuiet_nil ?_
              refine wpTake_nil ?_
              refine wpRest_cons rfl ?_
              refine wpList_append_bytes rfl (.tmp 110) (.tmp 112) rfl w.heap.size u7 st.part rfl hP5 E 16 (min (f 15).toNat 48) 48 (secBytes f) (bytesOf_length _ _ _) rfl (fun j z hz => by
                have hj : j < min (f 15).toNat 48 := by
                  have := (List.getElem?_eq_some_iff.1 hz).1
                  unfold secBytes at this
                  rwa [bytesOf_length] at this
                unfold secBytes bytesOf at hz
                rw [List.getElem?_map, List.getElem?_range hj] at hz
                injection hz with hz
                rw [← hz]
                exact (hE5.drew).cell (bArr_get f 64 (16 + j) (by omega))) (by omega) hbase ?_
              intro pv' w6 hP6 hc6 hnew6
              have hc56 : Ch (fun i => u7.ownBlock = some i) w5 w6 := (Ch.refl _ w5).drew.trans hc6 (fun _ _ e => e)
              have hnew6' : ∀ i, pv'.ownBlock = some i → u7.ownBlock = some i ∨ wo.heap.size ≤ i := fun i hi => (hnew6 i hi).imp id (fun e => by have e' : w5.heap.size = i := e; omega)
              refine ⟨fun _ => late_of hc56, ?_⟩
              simp only [Act.put, List.setIfInBounds_toArray, List.set_cons_succ, List.set_cons_zero, List.getElem_toArray, List.getElem_cons_succ, List.getElem_cons_zero]
              refine wpRest_cons rfl ?_
              go_wp2_with fail
              refine ⟨fun _ => late_of hc56, ?_⟩
              refine wpRest_list _ _ _ (by decide) ?_
              simp only [List.map_cons, List.map_nil, Array.getD_eq_getD_getElem?, List.getElem?_toArray, List.getElem?_cons_zero, List.getElem?_cons_succ, Option.getD_some]
              have hS6 := hc56.blk hS5 hSP
              have cS3' := hS6.cell (j := 3) rfl
              have hR6 := own_ch hR5 hc56 (fun i hi e => hne i hi e)
              have hl6 : LogAt w6 B D { m with next := st.next } := hc56.blk hl5 hBP
              have hcw5 : Ch (· = B) w w5 := hcr.trans hc05 (fun _ _ e => e.elim)
              have hcw6 : Ch (· = B) w w6 := hcw5.trans hc56 (fun i hi e => by have := (hPlt i e).1; omega)
              have hw6 : wo.heap.size ≤ w6.heap.size := Nat.le_trans hw5 hc56.size
              clear gS5 gS1 hnew6 hc6 hP5 hR5 hc05 hE5 hS5 hl5 hcw5 hbase
              go_wp2_with fail
              refine NoPanic.normal ?_
              rename_i hK
              refine hK _ _ ?_
              clear hK
              go_wp2_with fail
              go_roundw
              case rel =>
                refine ⟨k + 1, st.step f (k + 1), by omega, by go_num, ?_, ?_, ?_, ?_, ?_, ?_, hcw6, ?_⟩
                · rw [HSTEP.out]
                · rw [HSTEP.out]
                · rw [HSTEP.out]
                  refine ⟨hR6, hP6, fun i h1 h2 => (hnew6' i h2).elim (fun h3 => hne i h1 h3) (fun h3 => by have := (hRlt i h1).2; omega)⟩
                · rw [HSTEP.out]
                  simp only [List.length_append]
                  omega
                · rw [HSTEP.out]
                  show st.recs.length ≤ k + 1
                  omega
                · rw [HSTEP.out]
                  exact hl6
                · have hlo := HLOOP.out
                  rw [show m.count - 1 - k = (m.count - 1 - (k + 1)) + 1 by omega, readLoop, HFG.out, if_neg (by rw [HGOOD.out]; simp)] at hlo
                  exact hlo
              case measure => simp [intOf]; omega
            · have CL : Hid (((f 15).toNat != 48) = true) := Lib.hid (by rw [bne_iff_ne] at bl ⊢; omega)
              have hbad : badSec f m.epoch most (k + 1) st = true := badSec_9 (by rw [be2, CL.out]; rfl)
              have HBAD := Lib.hid hbad
              clear hbad
              go_quiet (fail)
              go_wp2_with fail
              rw [Exit.noGoto_ret]
              go_ret2
              refine RPost.close hI hlr hcr (hc04.drewN nq) ?_ rfl
              have hlo := HLOOP.out
              rw [show m.count - 1 - k = (m.count - 1 - (k + 1)) + 1 by omega, readLoop, HFG.out, if_pos HBAD.out] at hlo
              exact hlo
          · have be2 : (f 14 &&& 2#8 == 0#8) = false := by rw [bne_iff_ne] at be; rw [beq_eq_false_iff_ne]; exact be
            have hgood : badSec f m.epoch most (k + 1) st = false := badSec_good b0 b1 C2.out b3 C4.out C5.out (by rw [bi, bb]; rfl) b7 (by rw [bi]; rfl) (by rw [be2]; rfl)
            have HGOOD := Lib.hid hgood
            clear hgood
            have hstep : st.step f (k + 1) = { recs := st.recs ++ [st.part ++ secBytes f], part := [], last := get32 f 8 4, inside := false, next := k + 1 + 1 } := by unfold RS.step; rw [if_pos (show (f 14 &&& 2 != 0) = true from be)]
            have HSTEP := Lib.hid hstep
            clear hstep
            go_quiet (fail)
            go_wp2_with fail
            have hc05 := hc04.drewN nq
            have hS5 := hS4.drewN nq
            have hE5 := hE4.drewN nq
            have hl5 : LogAt (w4.drewN nq) B D { m with next := st.next } := hl4
            generalize w4.drewN nq = w5 at *
            have hP5 := own_ch hI.hP hc05 (fun _ _ e => e)
            have hR5 := own_ch hI.hR hc05 (fun _ _ e => e)
            have hbase : w.heap.size ≤ w5.heap.size := Nat.le_trans hcr.size hc05.size
            have hPlt := hI.hP.lt
            have hRlt := hI.hR.lt
            have hBlt : B < w.heap.size := Blk.lt hl
            have hne := hI.ne
            have hSP : ¬ u7.ownBlock = some S := fun e => by have := (hPlt S e).2; omega
            have hEP : ¬ u7.ownBlock = some E := fun e => by have := (hPlt E e).2; omega
            have hBP : ¬ u7.ownBlock = some B := fun e => by have := (hPlt B e).1; omega
            have hBR : ¬ u6.ownBlock = some B := fun e => by have := (hRlt B e).1; omega
            have hw5 : wo.heap.size ≤ w5.heap.size := hc05.size
            have hsl : (secBytes f).length ≤ 48 := by unfold secBytes; rw [bytesOf_length]; omega
            have gS5 : ∀ x : Later (fun i => u7.ownBlock = some i) w5, x.val.cell? ⟨S, 5, none⟩ = some (.slice (some ⟨E, 16, none⟩) (min (f 15).toNat 48) 48) := fun x => x.cell (hS5.cell (j := 5) rfl) hSP
            have gS1 : ∀ x : Later (fun i => u7.ownBlock = some i) w5, x.val.cell? ⟨S, 1, none⟩ = some (U32 (get32 f 8 4)) := fun x => x.cell (hS5.cell (j := 1) rfl) hSP
            clear hI hl4 hS4 hE4 hc04 cS0 cS1 cS2 cS3 cS4 cB3 hlr hSw hEw
            refine wp_region_take (late (fun i => u7.ownBlock = some i) w5) 7 [0, 1, 2, 4, 5] [3, 6, 7, 8] (by kernel_rfl) (by kernel_rfl) (late_of (Ch.refl _ w5).drew) ?_
            simp only [List.map_cons, List.map_nil, Array.getD_eq_getD_getElem?, List.getElem?_toArray, List.getElem?_cons_zero, List.getElem?_cons_succ, Option.getD_some]
            refine wpTake_seg 5 (by kernel_rfl) ?_
            simp only [List.take_succ_cons, List.take_zero, List.drop_succ_cons, List.drop_zero]
            unfold late
            repeat (go_big_quiet_step (fail))
            refine wpQuiet_nil ?_
            refine wpTake_nil ?_
            refine wpRest_cons rfl ?_
            refine wpList_append_bytes rfl (.tmp 110) (.tmp 112) rfl w.heap.size u7 st.part rfl hP5 E 16 (min (f 15).toNat 48) 48 (secBytes f) (bytesOf_length _ _ _) rfl (fun j z hz => by
              have hj : j < min (f 15).toNat 48 := by
                have := (List.getElem?_eq_some_iff.1 hz).1
                unfold secBytes at this
                rwa [bytesOf_length] at this
              unfold secBytes bytesOf at hz
              rw [List.getElem?_map, List.getElem?_range hj] at hz
              injection hz with hz
              rw [← hz]
              exact (hE5.drew).cell (bArr_get f 64 (16 + j) (by omega))) (by omega) hbase ?_
            intro pv' w6 hP6 hc6 hnew6
            have hc56 : Ch (fun i => u7.ownBlock = some i) w5 w6 := (Ch.refl _ w5).drew.trans hc6 (fun _ _ e => e)
            have hnew6' : ∀ i, pv'.ownBlock = some i → u7.ownBlock = some i ∨ wo.heap.size ≤ i := fun i hi => (hnew6 i hi).imp id (fun e => by have e' : w5.heap.size = i := e; omega)
            refine ⟨fun _ => late_of hc56, ?_⟩
            simp only [Act.put, List.setIfInBounds_toArray, List.set_cons_succ, List.set_cons_zero, List.getElem_toArray, List.getElem_cons_succ, List.getElem_cons_zero]
            refine wpRest_cons rfl ?_
            go_wp2_with fail
            refine ⟨fun _ => late_of hc56, ?_⟩
            refine wpRest_list _ _ _ (by decide) ?_
            simp only [List.map_cons, List.map_nil, Array.getD_eq_getD_getElem?, List.getElem?_toArray, List.getElem?_cons_zero, List.getElem?_cons_succ, Option.getD_some]
            have hS6 := hc56.blk hS5 hSP
            have cS3' := hS6.cell (j := 3) rfl
            have hR6 := own_ch hR5 hc56 (fun i hi e => hne i hi e)
            have hl6 : LogAt w6 B D { m with next := st.next } := hc56.blk hl5 hBP
            have hcw5 : Ch (· = B) w w5 := hcr.trans hc05 (fun _ _ e => e.elim)
            have hcw6 : Ch (· = B) w w6 := hcw5.trans hc56 (fun i hi e => by have := (hPlt i e).1; omega)
            have hw6 : wo.heap.size ≤ w6.heap.size := Nat.le_trans hw5 hc56.size
            clear gS5 gS1 hnew6 hc6 hP5 hR5 hc05 hE5 hS5 hl5 hcw5 hbase
            go_wp2_with fail
            refine NoPanic.normal ?_
            rename_i hK
            refine hK _ _ ?_
            clear hK
            have hconv := run_str_of hP6
            have hB5 := Blk.cell hl6 (j := 5) rfl
            have hrl2 : (st.recs.map strOf).length ≤ 1099511627776 := by rw [List.length_map]; omega
            have hR6' : w6.ownsRow w.heap.size 9 1 u6 (st.recs.map strOf).length ((st.recs.map strOf).map Value.string) := by rw [List.length_map]; exact hR6
            have hb6 : w.heap.size ≤ w6.heap.size := hcw6.size
            go_wp2_with ((refine wpList_append_str rfl (.tmp 120) (.tmp 123) rfl w.heap.size u6 (st.recs.map strOf) rfl (hR6'.alloc _) w6.heap.size (strOf (st.part ++ secBytes f)) (Blk.new w6 9 _) rfl hrl2 (by rw [World.size_alloc]; omega) ?_
                          intro rv' w7 hR7 hc7 hnew7
                          have hc67 : Ch (fun i => u6.ownBlock = some i) w6 w7 := ((Ch.refl _ w6).alloc _).trans hc7 (fun _ _ e => e)
                          have hl7 : LogAt w7 B D { m with next := st.next } := hc67.blk hl6 hBR
                          have cB5 : w7.cell? ⟨B, 5, none⟩ = some (.int .i64 st.next) := Blk.cell hl7 (j := 5) rfl
                          have fB5 := Blk.free hl7 5))
            go_roundw
            case rel =>
              refine ⟨k + 1, st.step f (k + 1), by omega, by go_num, ?_, ?_, ?_, ?_, ?_, ?_, ?_, ?_⟩
              · rw [HSTEP.out]
              · rw [HSTEP.out]
              · rw [HSTEP.out]
                refine ⟨?_, World.ownsRow_nil _ _ _ _, fun _ _ e => (by cases e)⟩
                have h8 := own_ch hR7 (Ch.set (S := (· = B)) (Ch.refl _ w7) (p := ⟨B, 5, none⟩) (Or.inr rfl) (.int .i64 ((k : Int) + 1 + 1))) (fun i hi e => by
                  have e' : i = B := e
                  subst e'
                  exact (hnew7 i hi).elim hBR (fun h => by have h9 : (w6.alloc (.cells #[.string (strOf (st.part ++ secBytes f))] 9)).heap.size = i := h; rw [World.size_alloc] at h9; omega))
                simpa using h8
              · rw [HSTEP.out]
                simp
              · rw [HSTEP.out]
                simp only [List.length_append, List.length_cons, List.length_nil]
                omega
              · rw [HSTEP.out]
                have := Blk.set hl7 5 (.int .i64 ((k + 1 + 1 : Nat) : Int))
                exact this
              · exact Ch.set (S := (· = B)) (hcw6.trans hc67 (fun i hi e => by have := (hRlt i e).1; omega)) (p := ⟨B, 5, none⟩) (Or.inr rfl) _
              · have hlo := HLOOP.out
                rw [show m.count - 1 - k = (m.count - 1 - (k + 1)) + 1 by omega, readLoop, HFG.out, if_neg (by rw [HGOOD.out]; simp)] at hlo
                exact hlo
            case measure => simp [intOf]; omega
      · cases bb : (f 14 &&& 1#8 != 0#8)
        · cases b7 : decide ((get32 f 8 4).toNat < st.last.toNat)
          rotate_left
          · have hbad : badSec f m.epoch most (k + 1) st = true := badSec_7 b7
            have HBAD := Lib.hid hbad
            clear hbad
            go_quiet (fail)
            go_wp2_with fail
            rw [Exit.noGoto_ret]
            go_ret2
            refine RPost.close hI hlr hcr (hc04.drewN nq) ?_ rfl
            have hlo := HLOOP.out
            rw [show m.count - 1 - k = (m.count - 1 - (k + 1)) + 1 by omega, readLoop, HFG.out, if_pos HBAD.out] at hlo
            exact hlo
          cases b8 : (get32 f 8 4 != st.last)
          rotate_left
          · have hbad : badSec f m.epoch most (k + 1) st = true := badSec_8 (by rw [bi, b8]; rfl)
            have HBAD := Lib.hid hbad
            clear hbad
            go_quiet (fail)
            go_wp2_with fail
            rw [Exit.noGoto_ret]
            go_ret2
            refine RPost.close hI hlr hcr (hc04.drewN nq) ?_ rfl
            have hlo := HLOOP.out
            rw [show m.count - 1 - k = (m.count - 1 - (k + 1)) + 1 by omega, readLoop, HFG.out, if_pos HBAD.out] at hlo
            exact hlo
          cases be : (f 14 &&& 2#8 != 0#8)
          · have be2 : (f 14 &&& 2#8 == 0#8) = true := by rw [bne_eq_false_iff_eq] at be; rw [be]; rfl
            cases bl : (((f 15).toNat : Int) != 48)
            · have CL : Hid (((f 15).toNat != 48) = false) := Lib.hid (by rw [bne_eq_false_iff_eq] at bl ⊢; omega)
              have hgood : badSec f m.epoch most (k + 1) st = false := badSec_good b0 b1 C2.out b3 C4.out C5.out (by rw [bi, bb]; rfl) b7 (by rw [bi, b8]; rfl) (by rw [be2, CL.out]; rfl)
              have HGOOD := Lib.hid hgood
              clear hgood
              have hstep : st.step f (k + 1) = { st with part := st.part ++ secBytes f, last := get32 f 8 4, inside := true } := by unfold RS.step; rw [if_neg (by rw [show (f 14 &&& 2 != 0) = false from be]; simp)]
              have HSTEP := Lib.hid hstep
              clear hstep
              go_quiet (fail)
              go_wp2_with fail
              have hc05 := hc04.drewN nq
              have hS5 := hS4.drewN nq
              have hE5 := hE4.drewN nq
              have hl5 : LogAt (w4.drewN nq) B D { m with next := st.next } := hl4
              generalize w4.drewN nq = w5 at *
              have hP5 := own_ch hI.hP hc05 (fun _ _ e => e)
              have hR5 := own_ch hI.hR hc05 (fun _ _ e => e)
              have hbase : w.heap.size ≤ w5.heap.size := Nat.le_trans hcr.size hc05.size
              have hPlt := hI.hP.lt
              have hRlt := hI.hR.lt
              have hBlt : B < w.heap.size := Blk.lt hl
              have hne := hI.ne
              have hSP : ¬ u7.ownBlock = some S := fun e => by have := (hPlt S e).2; omega
              have hEP : ¬ u7.ownBlock = some E := fun e => by have := (hPlt E e).2; omega
              have hBP : ¬ u7.ownBlock = some B := fun e => by have := (hPlt B e).1; omega
              have hBR : ¬ u6.ownBlock = some B := fun e => by have := (hRlt B e).1; omega
              have hw5 : wo.heap.size ≤ w5.heap.size := hc05.size
              have hsl : (secBytes f).length ≤ 48 := by unfold secBytes; rw [bytesOf_length]; omega
              have gS5 : ∀ x : Later (fun i => u7.ownBlock = some i) w5, x.val.cell? ⟨S, 5, none⟩ = some (.slice (some ⟨E, 16, none⟩) (min (f 15).toNat 48) 48) := fun x => x.cell (hS5.cell (j := 5) rfl) hSP
              have gS1 : ∀ x : Later (fun i => u7.ownBlock = some i) w5, x.val.cell? ⟨S, 1, none⟩ = some (U32 (get32 f 8 4)) := fun x => x.cell (hS5.cell (j := 1) rfl) hSP
              clear hI hl4 hS4 hE4 hc04 cS0 cS1 cS2 cS3 cS4 cB3 hlr hSw hEw
              refine wp_region_take (late (fun i => u7.ownBlock = some i) w5) 7 [0, 1, 2, 4, 5] [3, 6, 7, 8] (by kernel_rfl) (by kernel_rfl) (late_of (Ch.refl _ w5).drew) ?_
              simp only [List.map_cons, List.map_nil, Array.getD_eq_getD_getElem?, List.getElem?_toArray, List.getElem?_cons_zero, List.getElem?_cons_succ, Option.getD_some]
              refine wpTake_seg 5 (by kernel_rfl) ?_
              simp only [List.take_succ_cons, List.take_zero, List.drop_succ_cons, List.drop_zero]
              unfold late
              repeat (go_big_quiet_step (fail))
              refine wpQuiet_nil ?_
              refine wpTake_nil ?_
              refine wpRest_cons rfl ?_
              refine wpList_append_bytes rfl (.tmp 110) (.tmp 112) rfl w.heap.size u7 st.part rfl hP5 E 16 (min (f 15).toNat 48) 48 (secBytes f) (bytesOf_length _ _ _) rfl (fun j z hz => by
                have hj : j < min (f 15).toNat 48 := by
                  have := (List.getElem?_eq_some_iff.1 hz).1
                  unfold secBytes at this
                  rwa [bytesOf_length] at this
                unfold secBytes bytesOf at hz
                rw [List.getElem?_map, List.getElem?_range hj] at hz
                injection hz with hz
                rw [← hz]
                exact (hE5.drew).cell (bArr_get f 64 (16 + j) (by omega))) (by omega) hbase ?_
              intro pv' w6 hP6 hc6 hnew6
              have hc56 : Ch (fun i => u7.ownBlock = some i) w5 w6 := (Ch.refl _ w5).drew.trans hc6 (fun _ _ e => e)
              have hnew6' : ∀ i, pv'.ownBlock = some i → u7.ownBlock = some i ∨ wo.heap.size ≤ i := fun i hi => (hnew6 i hi).imp id (fun e => by have e' : w5.heap.size = i := e; omega)
              refine ⟨fun _ => late_of hc56, ?_⟩
              simp only [Act.put, List.setIfInBounds_toArray, List.set_cons_succ, List.set_cons_zero, List.getElem_toArray, List.getElem_cons_succ, List.getElem_cons_zero]
              refine wpRest_cons rfl ?_
              go_wp2_with fail
              refine ⟨fun _ => late_of hc56, ?_⟩
              refine wpRest_list _ _ _ (by decide) ?_
              simp only [List.map_cons, List.map_nil, Array.getD_eq_getD_getElem?, List.getElem?_toArray, List.getElem?_cons_zero, List.getElem?_cons_succ, Option.getD_some]
              have hS6 := hc56.blk hS5 hSP
              have cS3' := hS6.cell (j := 3) rfl
              have hR6 := own_ch hR5 hc56 (fun i hi e => hne i hi e)
              have hl6 : LogAt w6 B D { m with next := st.next } := hc56.blk hl5 hBP
              have hcw5 : Ch (· = B) w w5 := hcr.trans hc05 (fun _ _ e => e.elim)
              have hcw6 : Ch (· = B) w w6 := hcw5.trans hc56 (fun i hi e => by have := (hPlt i e).1; omega)
              have hw6 : wo.heap.size ≤ w6.heap.size := Nat.le_trans hw5 hc56.size
              clear gS5 gS1 hnew6 hc6 hP5 hR5 hc05 hE5 hS5 hl5 hcw5 hbase
              go_wp2_with fail
              refine NoPanic.normal ?_
              rename_i hK
              refine hK _ _ ?_
              clear hK
              go_wp2_with fail
              go_roundw
              case rel =>
                refine ⟨k + 1, st.step f (k + 1), by omega, by go_num, ?_, ?_, ?_, ?_, ?_, ?_, hcw6, ?_⟩
                · rw [HSTEP.out]
                · rw [HSTEP.out]
                · rw [HSTEP.out]
                  refine ⟨hR6, hP6, fun i h1 h2 => (hnew6' i h2).elim (fun h3 => hne i h1 h3) (fun h3 => by have := (hRlt i h1).2; omega)⟩
                · rw [HSTEP.out]
                  simp only [List.length_append]
                  omega
                · rw [HSTEP.out]
                  show st.recs.length ≤ k + 1
                  omega
                · rw [HSTEP.out]
                  exact hl6
                · have hlo := HLOOP.out
                  rw [show m.count - 1 - k = (m.count - 1 - (k + 1)) + 1 by omega, readLoop, HFG.out, if_neg (by rw [HGOOD.out]; simp)] at hlo
                  exact hlo
              case measure => simp [intOf]; omega
            · have CL : Hid (((f 15).toNat != 48) = true) := Lib.hid (by rw [bne_iff_ne] at bl ⊢; omega)
              have hbad : badSec f m.epoch most (k + 1) st = true := badSec_9 (by rw [be2, CL.out]; rfl)
              have HBAD := Lib.hid hbad
              clear hbad
              go_quiet (fail)
              go_wp2_with fail
              rw [Exit.noGoto_ret]
              go_ret2
              refine RPost.close hI hlr hcr (hc04.drewN nq) ?_ rfl
              have hlo := HLOOP.out
              rw [show m.count - 1 - k = (m.count - 1 - (k + 1)) + 1 by omega, readLoop, HFG.out, if_pos HBAD.out] at hlo
              exact hlo
          · have be2 : (f 14 &&& 2#8 == 0#8) = false := by rw [bne_iff_ne] at be; rw [beq_eq_false_iff_ne]; exact be
            have hgood : badSec f m.epoch most (k + 1) st = false := badSec_good b0 b1 C2.out b3 C4.out C5.out (by rw [bi, bb]; rfl) b7 (by rw [bi, b8]; rfl) (by rw [be2]; rfl)
            have HGOOD := Lib.hid hgood
            clear hgood
            have hstep : st.step f (k + 1) = { recs := st.recs ++ [st.part ++ secBytes f], part := [], last := get32 f 8 4, inside := false, next := k + 1 + 1 } := by unfold RS.step; rw [if_pos (show (f 14 &&& 2 != 0) = true from be)]
            have HSTEP := Lib.hid hstep
            clear hstep
            go_quiet (fail)
            go_wp2_with fail
            have hc05 := hc04.drewN nq
            have hS5 := hS4.drewN nq
            have hE5 := hE4.drewN nq
            have hl5 : LogAt (w4.drewN nq) B D { m with next := st.next } := hl4
            generalize w4.drewN nq = w5 at *
            have hP5 := own_ch hI.hP hc05 (fun _ _ e => e)
            have hR5 := own_ch hI.hR hc05 (fun _ _ e => e)
            have hbase : w.heap.size ≤ w5.heap.size := Nat.le_trans hcr.size hc05.size
            have hPlt := hI.hP.lt
            have hRlt := hI.hR.lt
            have hBlt : B < w.heap.size := Blk.lt hl
            have hne := hI.ne
            have hSP : ¬ u7.ownBlock = some S := fun e => by have := (hPlt S e).2; omega
            have hEP : ¬ u7.ownBlock = some E := fun e => by have := (hPlt E e).2; omega
            have hBP : ¬ u7.ownBlock = some B := fun e => by have := (hPlt B e).1; omega
            have hBR : ¬ u6.ownBlock = some B := fun e => by have := (hRlt B e).1; omega
            have hw5 : wo.heap.size ≤ w5.heap.size := hc05.size
            have hsl : (secBytes f).length ≤ 48 := by unfold secBytes; rw [bytesOf_length]; omega
            have gS5 : ∀ x : Later (fun i => u7.ownBlock = some i) w5, x.val.cell? ⟨S, 5, none⟩ = some (.slice (some ⟨E, 16, none⟩) (min (f 15).toNat 48) 48) := fun x => x.cell (hS5.cell (j := 5) rfl) hSP
            have gS1 : ∀ x : Later (fun i => u7.ownBlock = some i) w5, x.val.cell? ⟨S, 1, none⟩ = some (U32 (get32 f 8 4)) := fun x => x.cell (hS5.cell (j := 1) rfl) hSP
            clear hI hl4 hS4 hE4 hc04 cS0 cS1 cS2 cS3 cS4 cB3 hlr hSw hEw
            refine wp_region_take (late (fun i => u7.ownBlock = some i) w5) 7 [0, 1, 2, 4, 5] [3, 6, 7, 8] (by kernel_rfl) (by kernel_rfl) (late_of (Ch.refl _ w5).drew) ?_
            simp only [List.map_cons, List.map_nil, Array.getD_eq_getD_getElem?, List.getElem?_toArray, List.getElem?_cons_zero, List.getElem?_cons_succ, Option.getD_some]
            refine wpTake_seg 5 (by kernel_rfl) ?_
            simp only [List.take_succ_cons, List.take_zero, List.drop_succ_cons, List.drop_zero]
            unfold late
            repeat (go_big_quiet_step (fail))
            refine wpQuiet_nil ?_
            refine wpTake_nil ?_
            refine wpRest_cons rfl ?_
            refine wpList_append_bytes rfl (.tmp 110) (.tmp 112) rfl w.heap.size u7 st.part rfl hP5 E 16 (min (f 15).toNat 48) 48 (secBytes f) (bytesOf_length _ _ _) rfl (fun j z hz => by
              have hj : j < min (f 15).toNat 48 := by
                have := (List.getElem?_eq_some_iff.1 hz).1
                unfold secBytes at this
                rwa [bytesOf_length] at this
              unfold secBytes bytesOf at hz
              rw [List.getElem?_map, List.getElem?_range hj] at hz
              injection hz with hz
              rw [← hz]
              exact (hE5.drew).cell (bArr_get f 64 (16 + j) (by omega))) (by omega) hbase ?_
            intro pv' w6 hP6 hc6 hnew6
            have hc56 : Ch (fun i => u7.ownBlock = some i) w5 w6 := (Ch.refl _ w5).drew.trans hc6 (fun _ _ e => e)
            have hnew6' : ∀ i, pv'.ownBlock = some i → u7.ownBlock = some i ∨ wo.heap.size ≤ i := fun i hi => (hnew6 i hi).imp id (fun e => by have e' : w5.heap.size = i := e; omega)
            refine ⟨fun _ => late_of hc56, ?_⟩
            simp only [Act.put, List.setIfInBounds_toArray, List.set_cons_succ, List.set_cons_zero, List.getElem_toArray, List.getElem_cons_succ, List.getElem_cons_zero]
            refine wpRest_cons rfl ?_
            go_wp2_with fail
            refine ⟨fun _ => late_of hc56, ?_⟩
            refine wpRest_list _ _ _ (by decide) ?_
            simp only [List.map_cons, List.map_nil, Array.getD_eq_getD_getElem?, List.getElem?_toArray, List.getElem?_cons_zero, List.getElem?_cons_succ, Option.getD_some]
            have hS6 := hc56.blk hS5 hSP
            have cS3' := hS6.cell (j := 3) rfl
            have hR6 := own_ch hR5 hc56 (fun i hi e => hne i hi e)
            have hl6 : LogAt w6 B D { m with next := st.next } := hc56.blk hl5 hBP
            have hcw5 : Ch (· = B) w w5 := hcr.trans hc05 (fun _ _ e => e.elim)
            have hcw6 : Ch (· = B) w w6 := hcw5.trans hc56 (fun i hi e => by have := (hPlt i e).1; omega)
            have hw6 : wo.heap.size ≤ w6.heap.size := Nat.le_trans hw5 hc56.size
            clear gS5 gS1 hnew6 hc6 hP5 hR5 hc05 hE5 hS5 hl5 hcw5 hbase
            go_wp2_with fail
            refine NoPanic.normal ?_
            rename_i hK
            refine hK _ _ ?_
            clear hK
            have hconv := run_str_of hP6
            have hB5 := Blk.cell hl6 (j := 5) rfl
            have hrl2 : (st.recs.map strOf).length ≤ 1099511627776 := by rw [List.length_map]; omega
            have hR6' : w6.ownsRow w.heap.size 9 1 u6 (st.recs.map strOf).length ((st.recs.map strOf).map Value.string) := by rw [List.length_map]; exact hR6
            have hb6 : w.heap.size ≤ w6.heap.size := hcw6.size
            go_wp2_with ((refine wpList_append_str rfl (.tmp 120) (.tmp 123) rfl w.heap.size u6 (st.recs.map strOf) rfl (hR6'.alloc _) w6.heap.size (strOf (st.part ++ secBytes f)) (Blk.new w6 9 _) rfl hrl2 (by rw [World.size_alloc]; omega) ?_
                          intro rv' w7 hR7 hc7 hnew7
                          have hc67 : Ch (fun i => u6.ownBlock = some i) w6 w7 := ((Ch.refl _ w6).alloc _).trans hc7 (fun _ _ e => e)
                          have hl7 : LogAt w7 B D { m with next := st.next } := hc67.blk hl6 hBR
                          have cB5 : w7.cell? ⟨B, 5, none⟩ = some (.int .i64 st.next) := Blk.cell hl7 (j := 5) rfl
                          have fB5 := Blk.free hl7 5))
            go_roundw
            case rel =>
              refine ⟨k + 1, st.step f (k + 1), by omega, by go_num, ?_, ?_, ?_, ?_, ?_, ?_, ?_, ?_⟩
              · rw [HSTEP.out]
              · rw [HSTEP.out]
              · rw [HSTEP.out]
                refine ⟨?_, World.ownsRow_nil _ _ _ _, fun _ _ e => (by cases e)⟩
                have h8 := own_ch hR7 (Ch.set (S := (· = B)) (Ch.refl _ w7) (p := ⟨B, 5, none⟩) (Or.inr rfl) (.int .i64 ((k : Int) + 1 + 1))) (fun i hi e => by
                  have e' : i = B := e
                  subst e'
                  exact (hnew7 i hi).elim hBR (fun h => by have h9 : (w6.alloc (.cells #[.string (strOf (st.part ++ secBytes f))] 9)).heap.size = i := h; rw [World.size_alloc] at h9; omega))
                simpa using h8
              · rw [HSTEP.out]
                simp
              · rw [HSTEP.out]
                simp only [List.length_append, List.length_cons, List.length_nil]
                omega
              · rw [HSTEP.out]
                have := Blk.set hl7 5 (.int .i64 ((k + 1 + 1 : Nat) : Int))
                exact this
              · exact Ch.set (S := (· = B)) (hcw6.trans hc67 (fun i hi e => by have := (hRlt i e).1; omega)) (p := ⟨B, 5, none⟩) (Or.inr rfl) _
              · have hlo := HLOOP.out
                rw [show m.count - 1 - k = (m.count - 1 - (k + 1)) + 1 by omega, readLoop, HFG.out, if_neg (by rw [HGOOD.out]; simp)] at hlo
                exact hlo
            case measure => simp [intOf]; omega
        · have hbad : badSec f m.epoch most (k + 1) st = true := badSec_6 (by rw [bi, bb]; rfl)
          have HBAD := Lib.hid hbad
          clear hbad
          go_quiet (fail)
          go_wp2_with fail
          rw [Exit.noGoto_ret]
          go_ret2
          refine RPost.close hI hlr hcr (hc04.drewN nq) ?_ rfl
          have hlo := HLOOP.out
          rw [show m.count - 1 - k = (m.count - 1 - (k + 1)) + 1 by omega, readLoop, HFG.out, if_pos HBAD.out] at hlo
          exact hlo
    · obtain rfl : k = m.count - 1 := by omega
      have l1 : (m.count : Int) ≤ ((m.count - 1 : Nat) : Int) + 1 := by omega
      go_wp2_with fail
      rw [Exit.noGoto_ret]
      go_ret2
      refine RPost.close hI hlr hcr (Ch.refl _ wo) ?_ rfl
      have hlo := HLOOP.out
      rw [Nat.sub_self, readLoop] at hlo
      exact hlo
end Go.Proofs.Ytjhnkpohdlilpaa
