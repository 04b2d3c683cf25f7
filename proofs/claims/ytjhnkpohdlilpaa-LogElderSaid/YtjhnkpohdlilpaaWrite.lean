/-
  The walk of the disk's Write.
-/
import Derived.Test.YtjhnkpohdlilpaaAppendPend
import Derived.Deep.AppendLies
import Derived.Great.BuildSlice
import Derived.Test.YtjhnkpohdlilpaaDiskLem
import Derived.Test.YtjhnkpohdlilpaaRead
import Derived.Test.YtjhnkpohdlilpaaOut
import Derived.Test.YtjhnkpohdlilpaaDiskSmall
import Derived.Test.YtjhnkpohdlilpaaDisk
import Derived.Test.YtjhnkpohdlilpaaAtom
import Derived.Test.YtjhnkpohdlilpaaDecode
import Derived.Test.YtjhnkpohdlilpaaEncode
import Derived.Test.YtjhnkpohdlilpaaTake
import Derived.Test.YtjhnkpohdlilpaaCopy
import Derived.Laws.CopyOwn
import Derived.Deep.OwnRows
import Derived.Deep.MidRow
import Derived.Test.YtjhnkpohdlilpaaPut
import Derived.Test.YtjhnkpohdlilpaaRows
import Derived.Test.YtjhnkpohdlilpaaWords
import Derived.Test.YtjhnkpohdlilpaaMem
import Derived.Test.YtjhnkpohdlilpaaTail
import Derived.Test.YtjhnkpohdlilpaaCrc
import Derived.Test.YtjhnkpohdlilpaaArr
import Derived.RangeFuncNested
import Derived.RangeFuncBound
import Derived.RangeFuncCalls
import Derived.RangeFuncLeaves
import Derived.Shelf.Abstract
import Derived.Shelf.RegionOpen
import Derived.WalkKit
import Derived.OwnWalkIn
import Derived.TacticsInMore
import Derived.LoopNIn
import Derived.LoopIn
import Derived.WalkSpells
import Derived.WalkLawsBesides
import Derived.Lib.Hide
import Derived.BigQuiet
import Derived.Outline
import Derived.Deep.DeepFit
namespace Go.Proofs.Ytjhnkpohdlilpaa
open Go.RowKit Go.Shelf
attribute [local go_sem] Oper.semAt_some
set_option maxHeartbeats 1000000 in
set_option maxRecDepth 100000 in
theorem write_ok (D N L : Nat) (pv : Value) (d : DM) (k : Nat) (bs : List (BitVec 8)) (a0 : Option Addr) (c0 : Nat) (w : World) (h : DiskIs w D N L pv d) (hd : d.down = false) (hk : k < d.n) (hl : bs.length ≤ 64) (hg : d.goes.1 = true) (hs : Src (fpt D N L pv) w a0 bs)
    (hp : d.pend.length ≤ 1099511627776) :
    Calls Try.prog 30 #[.pointer (some ⟨D, 0, none⟩), .int .i64 k, .slice a0 bs.length c0] w fun e w' => ∃ F', e = .returned (.int .i64 0) ∧ DStep w (fpt D N L pv) w' F' D (d.goes.2.put k (secOf bs)) := by
  have c3 : w.cell? ⟨D, 3, none⟩ = some (.bool false) := by rw [← hd]; exact h.hD.cell (j := 3) rfl
  have hh : d.has k = true := by unfold DM.has; simp [hk]
  have HH := Lib.hid hh
  have HG := Lib.hid hg
  have gl : (bs.length : Int) ≤ 64 := by omega
  have gk : (k : Int) < d.n := by omega
  have hmin : bs.length = Nat.min bs.length 64 := (Nat.min_eq_left hl).symm
  have HM := Lib.hid hmin
  clear hd hh hg hmin
  go_enter Try.func30, Try.ntmps30
  go_wp2_with fail
  refine (has_any D N L pv d k _ h).mono ?_
  rw [HH.out]
  rintro e w' ⟨rfl, rfl⟩
  go_wp2_with fail
  refine (goes_any D N L pv d _ h).mono ?_
  rw [HG.out]
  rintro e w1 ⟨rfl, h1, hc1⟩
  have hD1 := h1.hD.lt
  have hWF : ∀ i, fpt D N L pv i → i ≠ w1.heap.size := fun i hi e => by have := h1.lt i hi; omega
  have hww1 := hc1.size
  go_wp2_with (first
    | (refine wpList_store_blk rfl 83 (.tmp 7) (.tmp 27) rfl w1.heap.size _ rfl rfl 83 _ (Blk.new w1 83 _) 65 inf83 (by kernel_rfl) (by rw [warr_zero]; exact warr_size _ _) (by rw [warr_zero]; exact warr_one _ _) ?_
       rw [warr_zero]
       intro w2 hW2 hc2
       have hcw2 : Ch (fpt D N L pv) w' w2 := (hc1.mono (fun i _ e => Or.inl e)).trans (((Ch.refl (· = w1.heap.size) w1).alloc _).trans hc2 (fun _ _ e => e)) (fun i hi e => by omega)
       have hsw2 := (hs.ch hcw2 (fun _ e => e)).mono (Y := fun _ => False) (fun _ e => e.elim))
    | (refine wpList_copy_warr rfl (.tmp 29) (.tmp 30) 56 56 rfl 5 Try.underlying56 inf5 w1.heap.size 64 64 a0 bs.length c0 rfl rfl k (fun _ => 0) 83 hW2 bs HM.out hsw2 hl ?_
       intro w3 hW3 hc3))
  simp only [Act.put, List.setIfInBounds_toArray, List.set_cons_succ, List.set_cons_zero]
  have hcw3 : Ch (fpt D N L pv) w' w3 := hcw2.trans hc3 (fun i hi e => by omega)
  have h3 : DiskIs w3 D N L pv d.goes.2 := (h1.keep (S := (· = w1.heap.size)) (((Ch.refl _ w1).alloc _).trans hc2 (fun _ _ e => e)) (fun i hi e => hWF i hi e)).keep hc3 (fun i hi e => hWF i hi e)
  have hWD : w1.heap.size ≠ D := fun e => hWF D (Or.inl rfl) e.symm
  have hWN : w1.heap.size ≠ N := fun e => hWF N (Or.inr (Or.inl rfl)) e.symm
  have hWP : ∀ i, pv.ownBlock = some i → i ≠ w1.heap.size := fun i hi => hWF i (Or.inr (Or.inr (Or.inr hi)))
  have gk1 : (k : Int) < d.goes.2.n := by rw [DM.goes_n]; exact gk
  have hk1 : k < d.goes.2.n := by rw [DM.goes_n]; exact hk
  have hp1 : d.goes.2.pend.length ≤ 1099511627776 := by rw [DM.goes_pend]; exact hp
  have hW1 : w'.heap.size ≤ w1.heap.size := hww1
  clear c3 HH HG gk hk hp hsw2 hs hcw2 hc1 hc2 hc3 hW2 hWF hD1 hww1 h h1
  change Blk w3 w1.heap.size 83 (warr k (secOf bs)) at hW3
  generalize hbg : secOf bs = b at *
  generalize hdg : d.goes.2 = d1 at *
  have HB := Lib.hid hbg
  have HDG := Lib.hid hdg
  clear hbg hdg
  generalize w1.heap.size = W at *
  have g0 : ∀ x : Later (fun _ => False) w3, x.val.cell? ⟨D, 0, none⟩ = some (.slice (some ⟨N, 0, none⟩) d1.n d1.n) := fun x => x.cell (h3.hD.cell (j := 0) rfl) id
  refine wp_region_take (late (fun _ => False) w3) 8 [0, 1, 2, 3, 4, 5, 6, 7] [8] (by kernel_rfl) (by kernel_rfl) (late_of (Ch.refl _ w3).drew) ?_
  simp only [List.map_cons, List.map_nil, Array.getD_eq_getD_getElem?, List.getElem?_toArray, List.getElem?_cons_zero, List.getElem?_cons_succ, Option.getD_some]
  refine wpTake_seg 6 (by kernel_rfl) ?_
  simp only [List.take_succ_cons, List.take_zero, List.drop_succ_cons, List.drop_zero]
  unfold late
  repeat (go_big_quiet_step (fail))
  refine wpQuiet_nil ?_
  refine wpTake_val (by rfl) (.agg (bArr b 64)) ?_ ?_
  · rintro _ ⟨x, rfl⟩
    refine run_exec_load 81 (.tmp 37) rfl _ _ rfl ?_
    have := run_load_mid 81 W 1 (bArr b 64).toList (range_warr (x.blk hW3 id)) _ Try.underlying81 rfl 64 inf81 (by rw [Array.length_toList, bArr_size])
    rwa [Array.toArray_toList] at this
  simp only [Act.put, List.setIfInBounds_toArray, List.set_cons_succ, List.set_cons_zero]
  refine wpTake_seg 1 (by kernel_rfl) ?_
  simp only [List.take_succ_cons, List.take_zero, List.drop_succ_cons, List.drop_zero]
  repeat (go_big_quiet_step (fail))
  refine wpQuiet_nil ?_
  refine wpTake_nil ?_
  refine wpRest_list _ _ _ (by decide) ?_
  simp only [List.map_cons, List.map_nil, Array.getD_eq_getD_getElem?, List.getElem?_toArray, List.getElem?_cons_zero, List.getElem?_cons_succ, Option.getD_some]
  obtain ⟨ht, hN4, hc4⟩ := store_sec (w := w3.drew) h3.hN.drew k hk1 b
  refine wpList_store_mid rfl 81 (.tmp 39) (.tmp 38) rfl N (k * 64) (bArr b 64) rfl rfl ht (by rw [bArr_size]; exact inf81) (oneCell_bArr b 64) ?_
  generalize w3.drew.setCells N (k * 64) (bArr b 64).toList = w4 at *
  have hc34 : Ch (· = N) w3 w4 := ((Ch.refl _ w3).drew).trans hc4 (fun _ _ e => e)
  have hcw4 : Ch (fpt D N L pv) w' w4 := hcw3.trans hc34 (fun i hi e => Or.inr (Or.inl e))
  have hW4 := hc34.blk hW3 hWN
  have h4 : DiskIs w4 D N L pv { d1 with now := sset d1.now k b } :=
    ⟨hc34.blk h3.hD h3.nDN, hN4, hc34.blk h3.hL (fun e => h3.nNL e.symm), own_ch h3.hP hc34 (fun i hi => (h3.nP i hi).2.1), h3.nDN, h3.nDL, h3.nNL, h3.nP, h3.n1, h3.n2, h3.hat, h3.l1, h3.l2⟩
  refine NoPanic.normal ?_
  rename_i hK
  refine hK _ _ ?_
  simp only [Act.put]
  clear hK g0 ht hN4 hc4 hc34 hcw3 hW3 h3 hWN
  go_wp2_with fail
  have g2 : ∀ x : Later (fun i => pv.ownBlock = some i) w4, x.val.cell? ⟨D, 2, none⟩ = some pv := fun x => x.cell (h4.hD.cell (j := 2) rfl) (fun e => (h4.nP D e).1 rfl)
  refine wp_region_take (late (fun i => pv.ownBlock = some i) w4) 8 [0, 1, 2, 3, 4, 5] [6, 7, 8, 9, 10] (by kernel_rfl) (by kernel_rfl) (late_of (Ch.refl _ w4).drew) ?_
  simp only [List.map_cons, List.map_nil, Array.getD_eq_getD_getElem?, List.getElem?_toArray, List.getElem?_cons_zero, List.getElem?_cons_succ, Option.getD_some]
  refine wpTake_seg 5 (by kernel_rfl) ?_
  simp only [List.take_succ_cons, List.take_zero, List.drop_succ_cons, List.drop_zero]
  unfold late
  repeat (go_big_quiet_step (fail))
  refine wpQuiet_nil ?_
  refine wpTake_val (by rfl) (.agg (warr k b)) ?_ ?_
  · rintro _ ⟨x, rfl⟩
    exact run_exec_load 83 (.tmp 7) rfl _ _ rfl (run_load_row 83 83 W _ (x.blk hW4 (fun e => hWP W e rfl)) _ Try.underlying83 rfl 65 inf83 (warr_size _ _))
  refine wpTake_nil ?_
  simp only [Act.put, List.setIfInBounds_toArray, List.set_cons_succ, List.set_cons_zero]
  refine wpRest_cons rfl ?_
  refine wpList_run rfl _ (run_exec_buildSlice 59 1 #[(0, .tmp 45)] rfl #[(0, .agg (warr k b))] (by simp only [List.map_toArray, List.map_cons, List.map_nil]; rfl) _ (build83 w4.drew k b)) ?_
  refine ⟨fun _ => late_of ((Ch.refl _ w4).drew.alloc _), ?_⟩
  refine wpRest_cons rfl ?_
  refine wpList_append_pend rfl (.tmp 44) (.tmp 46) rfl pv _ _ rfl (h4.hP.alloc (w := w4.drew) _) w4.heap.size k b (Blk.new w4.drew 83 _) rfl hp1 ?_
  intro pv' w5 hP5 hc5 hnew
  obtain ⟨a', c', rfl⟩ := own_len hP5
  simp only [Act.put, List.setIfInBounds_toArray, List.set_cons_succ, List.set_cons_zero, List.getElem_toArray, List.getElem_cons_succ, List.getElem_cons_zero]
  have hc45 : Ch (fun i => pv.ownBlock = some i) w4 w5 := ((Ch.refl _ w4).drew.alloc _).trans hc5 (fun _ _ e => e)
  have hnew4 : ∀ i, (Value.slice a' (d1.pend.length + 1) c').ownBlock = some i → pv.ownBlock = some i ∨ w4.heap.size ≤ i := fun i hi => (hnew i hi).imp id (fun e => by simp at e; omega)
  refine ⟨fun _ => late_of hc45, ?_⟩
  refine wpRest_list _ _ _ (by decide) ?_
  simp only [List.map_cons, List.map_nil, Array.getD_eq_getD_getElem?, List.getElem?_toArray, List.getElem?_cons_zero, List.getElem?_cons_succ, Option.getD_some]
  have hD5 := hc45.blk h4.hD (fun e => (h4.nP D e).1 rfl)
  have c2 := hD5.cell (j := 2) rfl
  have f2 := hD5.free 2
  clear g2 hc5 hnew hW4
  go_wp2_with fail
  refine NoPanic.normal ?_
  rename_i hK
  refine hK _ _ ?_
  clear hK
  go_wp2
  go_ret
  rw [HB.out, HDG.out]
  have hlt4 := h4.lt
  have hPne : ∀ i, (Value.slice a' (d1.pend.length + 1) c').ownBlock = some i → i ≠ D ∧ i ≠ N ∧ i ≠ L := fun i hi => (hnew4 i hi).elim (fun e => h4.nP i e) (fun e => by
    have e1 := hlt4 D (Or.inl rfl)
    have e2 := hlt4 N (Or.inr (Or.inl rfl))
    have e3 := hlt4 L (Or.inr (Or.inr (Or.inl rfl)))
    omega)
  refine ⟨fpt D N L (.slice a' (d1.pend.length + 1) c'), rfl, ⟨N, L, .slice a' (d1.pend.length + 1) c', ⟨?_, ?_, ?_, ?_, h4.nDN, h4.nDL, h4.nNL, hPne, h4.n1, h4.n2, ?_, h4.l1, h4.l2⟩, rfl⟩, ?_, ?_⟩
  · have := hD5.set 2 (.slice a' (d1.pend.length + 1) c')
    simpa [DM.put] using this
  · exact (hc45.blk h4.hN (fun e => (h4.nP N e).2.1 rfl)).set_other h4.nDN _
  · exact (hc45.blk h4.hL (fun e => (h4.nP L e).2.2 rfl)).set_other h4.nDL _
  · have := own_ch hP5 (Ch.set (S := (· = D)) (Ch.refl _ w5) (p := ⟨D, 2, none⟩) (Or.inr rfl) (.slice a' (d1.pend.length + 1) c')) (fun i hi e => (hPne i hi).1 e)
    simpa [DM.put, pcells_snoc, warr_wcells] using this
  · intro p hp
    rcases List.mem_append.1 hp with hp | hp
    · exact h4.hat p hp
    · rw [List.mem_singleton.1 hp]; exact hk1
  · exact (hcw4.trans hc45 (fun i hi e => Or.inr (Or.inr (Or.inr e)))).set (Or.inr (Or.inl rfl)) _
  · rintro i (rfl | rfl | rfl | hi)
    · exact Or.inl (Or.inl rfl)
    · exact Or.inl (Or.inr (Or.inl rfl))
    · exact Or.inl (Or.inr (Or.inr (Or.inl rfl)))
    · exact (hnew4 i hi).imp (fun e => Or.inr (Or.inr (Or.inr e))) (fun e => by have := hcw4.size; omega)
theorem DiskIs.step {w w' : World} {D N L : Nat} {pv : Value} {d : DM} (h : DiskIs w' D N L pv d) (hc : Ch (· = D) w w') : ∃ F', DStep w (fpt D N L pv) w' F' D d :=
  ⟨fpt D N L pv, ⟨N, L, pv, h, rfl⟩, hc.mono (fun _ _ e => Or.inl e), fun _ h => Or.inl h⟩
theorem write_down (D N L : Nat) (pv : Value) (d : DM) (n : Int) (v : Value) (w : World) (h : DiskIs w D N L pv d) (hd : d.down = true) : Calls Try.prog 30 #[.pointer (some ⟨D, 0, none⟩), .int .i64 n, v] w fun e w' => e = .returned (.int .i64 10) ∧ w' = w := by
  have c3 : w.cell? ⟨D, 3, none⟩ = some (.bool true) := by rw [← hd]; exact h.hD.cell (j := 3) rfl
  clear hd
  go_enter Try.func30, Try.ntmps30
  go_wp2
  go_ret
  exact ⟨rfl, rfl⟩
theorem write_not (D N L : Nat) (pv : Value) (d : DM) (n : Int) (v : Value) (w : World) (h : DiskIs w D N L pv d) (hd : d.down = false) (hk : d.has n = false) : Calls Try.prog 30 #[.pointer (some ⟨D, 0, none⟩), .int .i64 n, v] w fun e w' => e = .returned (.int .i64 11) ∧ w' = w := by
  have c3 : w.cell? ⟨D, 3, none⟩ = some (.bool false) := by rw [← hd]; exact h.hD.cell (j := 3) rfl
  have HH := Lib.hid hk
  clear hd hk
  go_enter Try.func30, Try.ntmps30
  go_wp2_with fail
  refine (has_any D N L pv d n _ h).mono ?_
  rw [HH.out]
  rintro e w' ⟨rfl, rfl⟩
  go_wp2
  go_ret
  exact ⟨rfl, rfl⟩
theorem write_long (D N L : Nat) (pv : Value) (d : DM) (n : Int) (a0 : Option Addr) (m c0 : Nat) (w : World) (h : DiskIs w D N L pv d) (hd : d.down = false) (hk : d.has n = true) (hm : 64 < m) : Calls Try.prog 30 #[.pointer (some ⟨D, 0, none⟩), .int .i64 n, .slice a0 m c0] w fun e w' => e = .returned (.int .i64 2) ∧ w' = w := by
  have c3 : w.cell? ⟨D, 3, none⟩ = some (.bool false) := by rw [← hd]; exact h.hD.cell (j := 3) rfl
  have HH := Lib.hid hk
  have gm : (64 : Int) < m := by omega
  clear hd hk
  go_enter Try.func30, Try.ntmps30
  go_wp2_with fail
  refine (has_any D N L pv d n _ h).mono ?_
  rw [HH.out]
  rintro e w' ⟨rfl, rfl⟩
  go_wp2
  go_ret
  exact ⟨rfl, rfl⟩
theorem write_off (D N L : Nat) (pv : Value) (d : DM) (n : Int) (a0 : Option Addr) (m c0 : Nat) (w : World) (h : DiskIs w D N L pv d) (hd : d.down = false) (hk : d.has n = true) (hm : m ≤ 64) (hg : d.goes.1 = false) : Calls Try.prog 30 #[.pointer (some ⟨D, 0, none⟩), .int .i64 n, .slice a0 m c0] w fun e w' => e = .returned (.int .i64 10) ∧ DiskIs w' D N L pv d.goes.2 ∧ Ch (· = D) w w' := by
  have c3 : w.cell? ⟨D, 3, none⟩ = some (.bool false) := by rw [← hd]; exact h.hD.cell (j := 3) rfl
  have HH := Lib.hid hk
  have HG := Lib.hid hg
  have gm : (m : Int) ≤ 64 := by omega
  clear hd hk hg
  go_enter Try.func30, Try.ntmps30
  go_wp2_with fail
  refine (has_any D N L pv d n _ h).mono ?_
  rw [HH.out]
  rintro e w' ⟨rfl, rfl⟩
  go_wp2_with fail
  refine (goes_any D N L pv d _ h).mono ?_
  rw [HG.out]
  rintro e w1 ⟨rfl, h1, hc1⟩
  go_wp2
  go_ret
  exact ⟨rfl, h1, hc1⟩
theorem has_nat {d : DM} {n : Int} (h : d.has n = true) : ∃ k : Nat, n = k ∧ k < d.n := by
  unfold DM.has at h
  simp only [Bool.and_eq_true, decide_eq_true_eq] at h
  exact ⟨n.toNat, by omega, by omega⟩
/-- THE WALK OF Write. -/
theorem write_any (F : Nat → Prop) (D : Nat) (d : DM) (n : Int) (bs : List (BitVec 8)) (a0 : Option Addr) (c0 : Nat) (w : World) (h : DiskAt w F D d) (hs : Src F w a0 bs) (hp : d.pend.length ≤ 1099511627776) :
    Calls Try.prog 30 #[.pointer (some ⟨D, 0, none⟩), .int .i64 n, .slice a0 bs.length c0] w fun e w' => ∃ F', e = .returned (.int .i64 (d.write n bs).1) ∧ DStep w F w' F' D (d.write n bs).2 := by
  obtain ⟨N, L, pv, h, rfl⟩ := h
  unfold DM.write
  by_cases hd : d.down = true
  · rw [if_pos hd]
    refine (write_down D N L pv d n _ w h hd).mono ?_
    rintro e w' ⟨rfl, rfl⟩
    exact ⟨_, rfl, DStep.refl ⟨N, L, pv, h, rfl⟩⟩
  · rw [if_neg hd]
    have hd' : d.down = false := by simpa using hd
    by_cases hk : d.has n = false
    · rw [if_pos hk]
      refine (write_not D N L pv d n _ w h hd' hk).mono ?_
      rintro e w' ⟨rfl, rfl⟩
      exact ⟨_, rfl, DStep.refl ⟨N, L, pv, h, rfl⟩⟩
    · rw [if_neg hk]
      have hk' : d.has n = true := by simpa using hk
      by_cases hl : 64 < bs.length
      · rw [if_pos hl]
        refine (write_long D N L pv d n _ _ _ w h hd' hk' hl).mono ?_
        rintro e w' ⟨rfl, rfl⟩
        exact ⟨_, rfl, DStep.refl ⟨N, L, pv, h, rfl⟩⟩
      · rw [if_neg hl]
        by_cases hg : d.goes.1 = true
        · rw [if_pos hg]
          obtain ⟨k, rfl, hk2⟩ := has_nat hk'
          refine (write_ok D N L pv d k bs a0 c0 w h hd' hk2 (by omega) hg hs hp).mono ?_
          rintro e w' ⟨F', rfl, hst⟩
          exact ⟨F', rfl, by rwa [Int.toNat_natCast]⟩
        · rw [if_neg hg]
          refine (write_off D N L pv d n a0 _ c0 w h hd' hk' (by omega) (by simpa using hg)).mono ?_
          rintro e w' ⟨rfl, h1, hc1⟩
          obtain ⟨F', hst⟩ := h1.step hc1
          exact ⟨F', rfl, hst⟩
end Go.Proofs.Ytjhnkpohdlilpaa
