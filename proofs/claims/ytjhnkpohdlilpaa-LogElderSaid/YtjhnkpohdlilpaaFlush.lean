/-
  The walk of the disk's Flush.
-/
import Derived.Test.YtjhnkpohdlilpaaWrite
import Derived.Test.YtjhnkpohdlilpaaAppendPend
import Derived.Deep.AppendLies
import Derived.Great.BuildSlice
import Derived.Test.YtjhnkpohdlilpaaDiskLem
import Derived.Test.YtjhnkpohdlilpaaRead
import Derived.Test.YtjhnkpohdlilpaaOut
import Derived.Test.YtjhnkpohdlilpaaDiskSmall
import Derived.Test.YtjhnkpohdlilpaaDisk
import Derived.Test.YtjhnkpohdlilpaaAtom
import Derived.Test.YtjhnkpohdlilpaaDecode
import Derived.Test.YtjhnkpohdlilpaaEncode
import Derived.Test.YtjhnkpohdlilpaaTake
import Derived.Test.YtjhnkpohdlilpaaCopy
import Derived.Laws.CopyOwn
import Derived.Deep.OwnRows
import Derived.Deep.MidRow
import Derived.Test.YtjhnkpohdlilpaaPut
import Derived.Test.YtjhnkpohdlilpaaRows
import Derived.Test.YtjhnkpohdlilpaaWords
import Derived.Test.YtjhnkpohdlilpaaMem
import Derived.Test.YtjhnkpohdlilpaaTail
import Derived.Test.YtjhnkpohdlilpaaCrc
import Derived.Test.YtjhnkpohdlilpaaArr
import Derived.RangeFuncNested
import Derived.RangeFuncBound
import Derived.RangeFuncCalls
import Derived.RangeFuncLeaves
import Derived.Shelf.Abstract
import Derived.Shelf.RegionOpen
import Derived.WalkKit
import Derived.OwnWalkIn
import Derived.TacticsInMore
import Derived.LoopNIn
import Derived.LoopIn
import Derived.WalkSpells
import Derived.WalkLawsBesides
import Derived.Lib.Hide
import Derived.BigQuiet
import Derived.Outline
import Derived.Deep.DeepFit
namespace Go.Proofs.Ytjhnkpohdlilpaa
open Go.RowKit Go.Shelf
attribute [local go_sem] Oper.semAt_some
theorem range_pend {w : World} {a : Option Addr} {c : Nat} {l : List (Nat × Sec)} (h : w.ownsRow 0 83 65 (.slice a l.length c) l.length (pcells l)) (k : Nat) (hk : k < l.length) : ∃ P, a = some ⟨P, 0, none⟩ ∧ w.rangeAt P (k * 65) (warr l[k].1 l[k].2).toList ∧ (Value.slice a l.length c).ownBlock = some P := by
  obtain ⟨g, cap, hv, _, _⟩ := h.form (by omega)
  injection hv with ha hn hc
  subst ha
  refine ⟨g, rfl, ?_, rfl⟩
  intro j v hj
  have hj65 : j < 65 := by
    have := (List.getElem?_eq_some_iff.1 hj).1
    rwa [Array.length_toList, warr_size] at this
  rw [warr_wcells] at hj
  have hg := pcells_get l k hk j hj65
  rw [hj] at hg
  have := h.cells (g := g) rfl _ _ hg
  rw [addr_add, Nat.zero_add] at this
  exact this
def lasK (d : DM) (k : Nat) : Nat → Sec := (d.pend.take k).foldl (fun s p => sset s p.1 p.2) d.las
theorem lasK_succ (d : DM) (k : Nat) (hk : k < d.pend.length) : lasK d (k + 1) = sset (lasK d k) d.pend[k].1 d.pend[k].2 := by
  unfold lasK
  rw [List.take_add_one, List.getElem?_eq_getElem hk, List.foldl_append]
  rfl
theorem alloc83z (n : Int) (b : Sec) : (warr n b).size = Try.zeroCells83.size := by
  rw [warr_size]; kernel_rfl
set_option maxHeartbeats 1000000 in
set_option maxRecDepth 100000 in
theorem flush_ok (D N L : Nat) (pv : Value) (d : DM) (w : World) (h : DiskIs w D N L pv d) (hd : d.down = false) (hg : d.goes.1 = true) (hp : d.pend.length ≤ 1099511627776) :
    Calls Try.prog 32 #[.pointer (some ⟨D, 0, none⟩)] w fun e w' => ∃ F', e = .returned (.int .i64 0) ∧ DStep w (fpt D N L pv) w' F' D d.goes.2.flushed := by
  have c3 : w.cell? ⟨D, 3, none⟩ = some (.bool false) := by rw [← hd]; exact h.hD.cell (j := 3) rfl
  have HG := Lib.hid hg
  clear hd hg
  go_enter Try.func32, Try.ntmps32
  go_wp2_with fail
  refine (goes_any D N L pv d _ h).mono ?_
  rw [HG.out]
  rintro e w1 ⟨rfl, h1, hc1⟩
  have hp1 : d.goes.2.pend.length ≤ 1099511627776 := by rw [DM.goes_pend]; exact hp
  generalize hdg : d.goes.2 = d1 at *
  have HDG := Lib.hid hdg
  clear hdg HG c3 hp
  obtain ⟨pa, pc, rfl⟩ := own_len h1.hP
  have c2 := h1.hD.cell (j := 2) rfl
  have gp : (d1.pend.length : Int) ≤ 1099511627776 := by omega
  go_wp2_with fail
  go_loopw [19] (fun i wr => ∃ k : Nat, k ≤ d1.pend.length ∧ i = .int .i64 k ∧ DiskIs wr D N L (.slice pa d1.pend.length pc) { d1 with las := lasK d1 k } ∧ Ch (fpt D N L (.slice pa d1.pend.length pc)) w1 wr) (fun i _ => d1.pend.length - (intOf i).toNat)
  case atStart => exact ⟨0, Nat.zero_le _, rfl, h1, Ch.refl _ _⟩
  case round =>
    obtain ⟨k, hk, rfl, hI, hch⟩ := hrel
    by_cases hlt : k < d1.pend.length
    · have l1 : (k : Int) < d1.pend.length := by omega
      obtain ⟨P, rfl, hrange, hown⟩ := range_pend hI.hP k hlt
      have hk64 : d1.pend[k].1 < d1.n := hI.hat _ (List.getElem_mem hlt)
      have hsucc := lasK_succ d1 k hlt
      have HS := Lib.hid hsucc
      clear hsucc
      generalize d1.pend[k].1 = n1 at *
      generalize d1.pend[k].2 = b1 at *
      obtain ⟨wo, rfl⟩ : ∃ x, x = wr := ⟨_, rfl⟩
      have hWF : ∀ i, fpt D N L (.slice (some ⟨P, 0, none⟩) d1.pend.length pc) i → i ≠ wo.heap.size := fun i hi e => by have := hI.lt i hi; omega
      go_wp2_with (first
        | (refine wpList_load_mid rfl 83 (.tmp 21) rfl P _ rfl (warr n1 b1).toList _ hrange Try.underlying83 rfl (by rw [Array.length_toList, warr_size]; exact inf83) ?_
           rw [Array.toArray_toList])
        | (refine wpList_store_blk rfl 83 (.tmp 4) (.tmp 22) rfl wo.heap.size _ rfl rfl 83 _ (Blk.new wo 83 _) 65 inf83 (by kernel_rfl) (warr_size _ _) (warr_one _ _) ?_
           intro w2 hW2 hc2))
      simp only [Act.put]
      have hc02 : Ch (· = wo.heap.size) wo w2 := ((Ch.refl _ wo).alloc _).trans hc2 (fun _ _ e => e)
      have hch2 : Ch (fpt D N L (.slice (some ⟨P, 0, none⟩) d1.pend.length pc)) w1 w2 := hch.trans hc02 (fun i hi e => by have := hch.size; omega)
      have h2 := hI.keep hc02 (fun i hi e => hWF i hi e)
      have hWL : wo.heap.size ≠ L := fun e => hWF L (Or.inr (Or.inr (Or.inl rfl))) e.symm
      clear hc2 hc02 hI hch hWF hrange
      generalize wo.heap.size = W at *
      have gn : (n1 : Int) < d1.n := by omega
      have gD : ∀ x : Later (fun _ => False) w2, x.val.cell? ⟨D, 1, none⟩ = some (.slice (some ⟨L, 0, none⟩) d1.n d1.n) := fun x => x.cell (h2.hD.cell (j := 1) rfl) id
      have gW : ∀ x : Later (fun _ => False) w2, x.val.cell? ⟨W, 0, none⟩ = some (.int .i64 n1) := fun x => x.cell (hW2.cell (warr_get0 _ _)) id
      refine wp_region_take (late (fun _ => False) w2) 9 [0, 1, 2, 3, 4, 5, 6, 7, 8] [9] (by kernel_rfl) (by kernel_rfl) (late_of (Ch.refl _ w2).drew) ?_
      simp only [List.map_cons, List.map_nil, Array.getD_eq_getD_getElem?, List.getElem?_toArray, List.getElem?_cons_zero, List.getElem?_cons_succ, Option.getD_some]
      refine wpTake_seg 7 (by kernel_rfl) ?_
      simp only [List.take_succ_cons, List.take_zero, List.drop_succ_cons, List.drop_zero]
      unfold late
      repeat (go_big_quiet_step (fail))
      refine wpQuiet_nil ?_
      refine wpTake_val (by rfl) (.agg (bArr b1 64)) ?_ ?_
      · rintro _ ⟨x, rfl⟩
        refine run_exec_load 81 (.tmp 29) rfl _ _ rfl ?_
        have := run_load_mid 81 W 1 (bArr b1 64).toList (range_warr (x.blk hW2 id)) _ Try.underlying81 rfl 64 inf81 (by rw [Array.length_toList, bArr_size])
        rwa [Array.toArray_toList] at this
      simp only [Act.put, List.setIfInBounds_toArray, List.set_cons_succ, List.set_cons_zero]
      refine wpTake_seg 1 (by kernel_rfl) ?_
      simp only [List.take_succ_cons, List.take_zero, List.drop_succ_cons, List.drop_zero]
      repeat (go_big_quiet_step (fail))
      refine wpQuiet_nil ?_
      refine wpTake_nil ?_
      refine wpRest_list _ _ _ (by decide) ?_
      simp only [List.map_cons, List.map_nil, Array.getD_eq_getD_getElem?, List.getElem?_toArray, List.getElem?_cons_zero, List.getElem?_cons_succ, Option.getD_some]
      obtain ⟨ht, hL3, hc3⟩ := store_sec (w := w2.drew) h2.hL.drew n1 hk64 b1
      refine wpList_store_mid rfl 81 (.tmp 31) (.tmp 30) rfl L (n1 * 64) (bArr b1 64) rfl rfl ht (by rw [bArr_size]; exact inf81) (oneCell_bArr b1 64) ?_
      generalize w2.drew.setCells L (n1 * 64) (bArr b1 64).toList = w3 at *
      have hc23 : Ch (· = L) w2 w3 := ((Ch.refl _ w2).drew).trans hc3 (fun _ _ e => e)
      have h3 : DiskIs w3 D N L (.slice (some ⟨P, 0, none⟩) d1.pend.length pc) { d1 with las := lasK d1 (k + 1) } := by
        rw [HS.out]
        exact ⟨hc23.blk h2.hD h2.nDL, hc23.blk h2.hN h2.nNL, hL3, own_ch h2.hP hc23 (fun i hi => (h2.nP i hi).2.2), h2.nDN, h2.nDL, h2.nNL, h2.nP, h2.n1, h2.n2, h2.hat, h2.l1, h2.l2⟩
      refine NoPanic.normal ?_
      clear gD gW ht hL3 hc3
      rename_i hK
      refine hK _ _ ?_
      clear hK
      simp only [Act.put]
      go_wp2_with fail
      exact ⟨⟨k + 1, by omega, by go_num, h3, hch2.trans hc23 (fun i hi e => Or.inr (Or.inr (Or.inl e)))⟩, by simp [intOf]; omega⟩
    · obtain rfl : k = d1.pend.length := by omega
      have hD := hI.hD
      have cD := hD.cell (j := 2) rfl
      have fD := hD.free 2
      go_wp2
      go_ret
      rw [HDG.out]
      have e1 : d1.flushed = { d1 with las := lasK d1 d1.pend.length, pend := [] } := by
        unfold DM.flushed lasK
        rw [List.take_length]
      refine ⟨rfl, fpt D N L (.slice none 0 0), ⟨N, L, .slice none 0 0, ?_, rfl⟩, ?_, ?_⟩
      · rw [e1]
        refine ⟨?_, hI.hN.set_other hI.nDN _, hI.hL.set_other hI.nDL _, World.ownsRow_nil _ _ _ _, hI.nDN, hI.nDL, hI.nNL, fun _ e => (by cases e), hI.n1, hI.n2, fun _ e => (by cases e), hI.l1, hI.l2⟩
        have := hD.set 2 (.slice none 0 0)
        simpa using this
      · exact ((hc1.mono (fun i _ e => Or.inl e)).trans hch (fun _ _ e => e)).set (Or.inr (Or.inl rfl)) _
      · rintro i (rfl | rfl | rfl | hi)
        · exact Or.inl (Or.inl rfl)
        · exact Or.inl (Or.inr (Or.inl rfl))
        · exact Or.inl (Or.inr (Or.inr (Or.inl rfl)))
        · cases hi

theorem flush_down (D N L : Nat) (pv : Value) (d : DM) (w : World) (h : DiskIs w D N L pv d) (hd : d.down = true) : Calls Try.prog 32 #[.pointer (some ⟨D, 0, none⟩)] w fun e w' => e = .returned (.int .i64 10) ∧ w' = w := by
  have c3 : w.cell? ⟨D, 3, none⟩ = some (.bool true) := by rw [← hd]; exact h.hD.cell (j := 3) rfl
  clear hd
  go_enter Try.func32, Try.ntmps32
  go_wp2
  go_ret
  exact ⟨rfl, rfl⟩
theorem flush_off (D N L : Nat) (pv : Value) (d : DM) (w : World) (h : DiskIs w D N L pv d) (hd : d.down = false) (hg : d.goes.1 = false) : Calls Try.prog 32 #[.pointer (some ⟨D, 0, none⟩)] w fun e w' => e = .returned (.int .i64 10) ∧ DiskIs w' D N L pv d.goes.2 ∧ Ch (· = D) w w' := by
  have c3 : w.cell? ⟨D, 3, none⟩ = some (.bool false) := by rw [← hd]; exact h.hD.cell (j := 3) rfl
  have HG := Lib.hid hg
  clear hd hg
  go_enter Try.func32, Try.ntmps32
  go_wp2_with fail
  refine (goes_any D N L pv d _ h).mono ?_
  rw [HG.out]
  rintro e w1 ⟨rfl, h1, hc1⟩
  go_wp2
  go_ret
  exact ⟨rfl, h1, hc1⟩
/-- THE WALK OF Flush. -/
theorem flush_any (F : Nat → Prop) (D : Nat) (d : DM) (w : World) (h : DiskAt w F D d) (hp : d.pend.length ≤ 1099511627776) :
    Calls Try.prog 32 #[.pointer (some ⟨D, 0, none⟩)] w fun e w' => ∃ F', e = .returned (.int .i64 d.flush.1) ∧ DStep w F w' F' D d.flush.2 := by
  obtain ⟨N, L, pv, h, rfl⟩ := h
  unfold DM.flush
  by_cases hd : d.down = true
  · rw [if_pos hd]
    refine (flush_down D N L pv d w h hd).mono ?_
    rintro e w' ⟨rfl, rfl⟩
    exact ⟨_, rfl, DStep.refl ⟨N, L, pv, h, rfl⟩⟩
  · rw [if_neg hd]
    have hd' : d.down = false := by simpa using hd
    by_cases hg : d.goes.1 = true
    · rw [if_pos hg]
      exact flush_ok D N L pv d w h hd' hg hp
    · rw [if_neg hg]
      refine (flush_off D N L pv d w h hd' (by simpa using hg)).mono ?_
      rintro e w' ⟨rfl, h1, hc1⟩
      obtain ⟨F', hst⟩ := h1.step hc1
      exact ⟨F', rfl, hst⟩
end Go.Proofs.Ytjhnkpohdlilpaa
