/-
  The walks of the disk's Crash and Arm.
-/
import Derived.Test.YtjhnkpohdlilpaaFlush
import Derived.Test.YtjhnkpohdlilpaaWrite
import Derived.Test.YtjhnkpohdlilpaaAppendPend
import Derived.Deep.AppendLies
import Derived.Great.BuildSlice
import Derived.Test.YtjhnkpohdlilpaaDiskLem
import Derived.Test.YtjhnkpohdlilpaaRead
import Derived.Test.YtjhnkpohdlilpaaOut
import Derived.Test.YtjhnkpohdlilpaaDiskSmall
import Derived.Test.YtjhnkpohdlilpaaDisk
import Derived.Test.YtjhnkpohdlilpaaAtom
import Derived.Test.YtjhnkpohdlilpaaDecode
import Derived.Test.YtjhnkpohdlilpaaEncode
import Derived.Test.YtjhnkpohdlilpaaTake
import Derived.Test.YtjhnkpohdlilpaaCopy
import Derived.Laws.CopyOwn
import Derived.Deep.OwnRows
import Derived.Deep.MidRow
import Derived.Test.YtjhnkpohdlilpaaPut
import Derived.Test.YtjhnkpohdlilpaaRows
import Derived.Test.YtjhnkpohdlilpaaWords
import Derived.Test.YtjhnkpohdlilpaaMem
import Derived.Test.YtjhnkpohdlilpaaTail
import Derived.Test.YtjhnkpohdlilpaaCrc
import Derived.Test.YtjhnkpohdlilpaaArr
import Derived.RangeFuncNested
import Derived.RangeFuncBound
import Derived.RangeFuncCalls
import Derived.RangeFuncLeaves
import Derived.Shelf.Abstract
import Derived.Shelf.RegionOpen
import Derived.WalkKit
import Derived.OwnWalkIn
import Derived.TacticsInMore
import Derived.LoopNIn
import Derived.LoopIn
import Derived.WalkSpells
import Derived.WalkLawsBesides
import Derived.Lib.Hide
import Derived.BigQuiet
import Derived.Outline
import Derived.Deep.DeepFit
namespace Go.Proofs.Ytjhnkpohdlilpaa
open Go.RowKit Go.Shelf
attribute [local go_sem] Oper.semAt_some
theorem info81' : (Try.prog.info? 81).map (·.size) = some 64 := by kernel_rfl
theorem run_copy_sectors (w : World) (ty : TypeId) (N L n t t' : Nat) (f g : Nat → BitVec 8) (hN : Blk w N t (bArr f (64 * n))) (hL : Blk w L t' (bArr g (64 * n))) :
    (Builtin.copy_ #[58, 58] ty #[.slice (some ⟨N, 0, none⟩) n n, .slice (some ⟨L, 0, none⟩) n n]).run Try.prog w = .ok (goInt n) (w.setCells N 0 (bArr g (64 * n)).toList) := by
  have hlen : (bArr g (64 * n)).toList.length = n * 64 := by rw [Array.length_toList, bArr_size]; omega
  have hl := run_loadCells_list (P := Try.prog) w ⟨L, 0, none⟩ (bArr g (64 * n)).toList (fun j v hv => by
    have hj : j < 64 * n := by
      have := (List.getElem?_eq_some_iff.1 hv).1
      rwa [Array.length_toList, bArr_size] at this
    rw [addr_add, Nat.zero_add]
    rw [Array.getElem?_toList] at hv
    exact hL.cell hv)
  have hst := run_storeCells_cells (P := Try.prog) N 0 (bArr g (64 * n)).toList 0 w (fun j hj => by rw [hN.cell (bArr_get f (64 * n) (0 + 0 + j) (by omega))]; rfl) (fun j hj => hN.free _) (fun v hv => (Array.all_eq_true_iff_forall_mem.1 (oneCell_bArr g (64 * n))) v (by simpa using hv))
  have hs := info81'
  cases hq : Try.prog.info? 81 with
  | none => simp [hq] at hs
  | some i =>
    have hi : i.size = 64 := by simpa [hq] using hs
    rw [hlen] at hl
    simp [Builtin.copy_, run_underlying Try.underlying58, Builtin.lenOf, Builtin.firstCells, sizeOf, typeInfo, hq, hi, hl, hst]
theorem bArr_over_all (f g : Nat → BitVec 8) (n : Nat) : bArr (over f 0 (bytesOf g 0 n)) n = bArr g n := over_self g f n
theorem wpList_copy_sectors {ops : Array Oper} {rest : List Oper} {o : Oper} {a : Act} {w : World} {Q : Exit → Act → World → Prop} (hgd : o.guard = none) (d s : Operand)
    (ho : o.op = .call { callee := .builtin .copy, args := #[d, s], argTypes := #[58, 58] }) (N L n t t' : Nat) (f g : Nat → BitVec 8) (hd : a.eval d = .slice (some ⟨N, 0, none⟩) n n) (hs : a.eval s = .slice (some ⟨L, 0, none⟩) n n)
    (hN : Blk w N t (bArr f (64 * n))) (hL : Blk w L t' (bArr g (64 * n))) (next : ∀ w', Blk w' N t (bArr g (64 * n)) → Ch (· = N) w w' → wpList Try.prog ops Q rest (a.put o.dst (goInt n)) w') : wpList Try.prog ops Q (o :: rest) a w := by
  have hr := run_copy_sectors w o.type N L n t t' f g hN hL
  refine wpList_run hgd (goInt n) (w' := w.setCells N 0 (bArr g (64 * n)).toList) ?_ ?_
  · unfold execOp
    simp only [ho, resolve, invoke, builtin, Sem.run_bind, Sem.run_pure, Result.andThen_ok, List.map_toArray, List.map_cons, List.map_nil, hd, hs, hr]
  · have h := Blk.setCells (bytesOf g 0 (64 * n)) 0 w f hN
    rw [← bArr_list, bArr_over_all] at h
    exact next _ h.1 h.2
def crLas (pend : List (Nat × Sec)) (kb : List Bool) (las : Nat → Sec) : Nat → (Nat → Sec)
  | 0 => las
  | k + 1 => if kb.getD k false then (match pend[k]? with | some p => sset (crLas pend kb las k) p.1 p.2 | none => crLas pend kb las k) else crLas pend kb las k
def crCnt (kb : List Bool) : Nat → Nat
  | 0 => 0
  | k + 1 => crCnt kb k + if kb.getD k false then 1 else 0
theorem crCnt_le (kb : List Bool) (k : Nat) : crCnt kb k ≤ k := by
  induction k with
  | zero => exact Nat.le_refl _
  | succ k ih => unfold crCnt; split <;> omega
def DM.crash (d : DM) (kb : List Bool) : DM := { d with now := crLas d.pend kb d.las d.pend.length, las := crLas d.pend kb d.las d.pend.length, pend := [], down := false, left := -1 }
/-- values behind a slice -/
def SrcV (X : Nat → Prop) (w : World) (a : Option Addr) (vs : List Value) : Prop :=
  vs ≠ [] → ∃ ob off, a = some ⟨ob, off, none⟩ ∧ ¬ X ob ∧ ∀ j y, vs[j]? = some y → w.cell? ⟨ob, off + j, none⟩ = some y
theorem SrcV.ch {X S : Nat → Prop} {w w' : World} {a : Option Addr} {ys : List Value} (h : SrcV X w a ys) (hch : Ch S w w') (hs : ∀ i, S i → X i) : SrcV X w' a ys := fun hne => by
  obtain ⟨ob, off, rfl, hx, hc⟩ := h hne
  exact ⟨ob, off, rfl, hx, fun j y hy => hch.cell (hc j y hy) (fun e => hx (hs _ e))⟩
set_option maxHeartbeats 2000000 in
set_option maxRecDepth 100000 in
theorem crash_loop (D N L : Nat) (pv : Value) (d : DM) (kb : List Bool) (a0 : Option Addr) (c0 : Nat) (w : World) (h : DiskIs w D N L pv d) (hs : SrcV (fpt D N L pv) w a0 (kb.map Value.bool)) (hkb : kb.length ≤ 4611686018427387904) (hp : d.pend.length ≤ 1099511627776) :
    Calls Try.prog 15 #[.pointer (some ⟨D, 0, none⟩), .slice a0 kb.length c0] w fun e w' => ∃ F', e = .returned (.int .i64 (crCnt kb d.pend.length)) ∧ DStep w (fpt D N L pv) w' F' D (d.crash kb) := by
  obtain ⟨pa, pc, rfl⟩ := own_len h.hP
  have c2 := h.hD.cell (j := 2) rfl
  have gp : (d.pend.length : Int) ≤ 1099511627776 := by omega
  have gb : (kb.length : Int) ≤ 4611686018427387904 := by omega
  go_enter Try.func15, Try.ntmps15
  go_wp2_with fail
  go_loopw [5, 13] (fun v i wr => ∃ k : Nat, k ≤ d.pend.length ∧ v = .int .i64 (crCnt kb k) ∧ i = .int .i64 k ∧ DiskIs wr D N L (.slice pa d.pend.length pc) { d with las := crLas d.pend kb d.las k } ∧ Ch (fpt D N L (.slice pa d.pend.length pc)) w wr) (fun _ i _ => d.pend.length - (intOf i).toNat)
  case atStart => exact ⟨0, Nat.zero_le _, rfl, rfl, h, Ch.refl _ _⟩
  case round =>
    obtain ⟨k, hk, rfl, rfl, hI, hch⟩ := hrel
    by_cases hlt : k < d.pend.length
    · have l1 : (k : Int) < d.pend.length := by omega
      obtain ⟨P, rfl, hrange, hown⟩ := range_pend hI.hP k hlt
      have hk64 : d.pend[k].1 < d.n := hI.hat _ (List.getElem_mem hlt)
      have hcnt := crCnt_le kb k
      have hwF : ∀ i, fpt D N L (.slice (some ⟨P, 0, none⟩) d.pend.length pc) i → i ≠ wr.heap.size := fun i hi e => by have := hI.lt i hi; omega
      have hsrc := hs.ch hch (fun _ e => e)
      have hsucc : ∀ q, kb.getD k false = q → crLas d.pend kb d.las (k + 1) = if q then sset (crLas d.pend kb d.las k) d.pend[k].1 d.pend[k].2 else crLas d.pend kb d.las k := by
        rintro q rfl
        simp only [crLas, List.getElem?_eq_getElem hlt]
      have hsuccC : ∀ q, kb.getD k false = q → crCnt kb (k + 1) = crCnt kb k + if q then 1 else 0 := by
        rintro q rfl
        rfl
      generalize d.pend[k].1 = n1 at *
      generalize d.pend[k].2 = b1 at *
      obtain ⟨wo, rfl⟩ : ∃ x, x = wr := ⟨_, rfl⟩
      by_cases hkk : k < kb.length
      · have l2 : (k : Int) < kb.length := by omega
        obtain ⟨ob, off, rfl, hob, hcell⟩ := hsrc (by intro e; rw [List.map_eq_nil_iff] at e; rw [e] at hkk; simp at hkk)
        have ck := hcell k (.bool kb[k]) (by rw [List.getElem?_map, List.getElem?_eq_getElem hkk]; rfl)
        have hq : kb.getD k false = kb[k] := by simp [List.getD, List.getElem?_eq_getElem hkk]
        have H1 := Lib.hid (hsucc _ hq)
        have H2 := Lib.hid (hsuccC _ hq)
        clear hsucc hsuccC hq hcell hsrc hs
        have lobw := World.block_lt_of_cell? wo _ ck
        by_cases hkv : kb[k] = true
        · rw [hkv] at ck H1 H2
          clear hkv
          go_wp2_with (first
            | (refine wpList_load_mid rfl 83 (.tmp 16) rfl P _ rfl (warr n1 b1).toList _ hrange Try.underlying83 rfl (by rw [Array.length_toList, warr_size]; exact inf83) ?_
               rw [Array.toArray_toList])
            | (refine wpList_store_blk rfl 83 (.tmp 7) (.tmp 17) rfl wo.heap.size _ rfl rfl 83 _ (Blk.new wo 83 _) 65 inf83 (by kernel_rfl) (warr_size _ _) (warr_one _ _) ?_
               intro w2 hW2 hc2
               have ck2 := (((Ch.refl (· = wo.heap.size) wo).alloc (.cells Try.zeroCells83 83)).trans hc2 (fun _ _ e => e)).cell ck (fun e => by have e' : ob = wo.heap.size := e; have l' : ob < wo.heap.size := lobw; omega)))
          have hc02 : Ch (· = wo.heap.size) wo w2 := ((Ch.refl _ wo).alloc _).trans hc2 (fun _ _ e => e)
          have hch2 : Ch (fpt D N L (.slice (some ⟨P, 0, none⟩) d.pend.length pc)) w w2 := hch.trans hc02 (fun i hi e => by have := hch.size; omega)
          have h2 := hI.keep hc02 (fun i hi e => hwF i hi e)
          clear hc2 hc02 hI hch hwF hrange ck2 ck lobw
          generalize wo.heap.size = W at *
          have gn : (n1 : Int) < d.n := by omega
          have gD : ∀ x : Later (fun _ => False) w2, x.val.cell? ⟨D, 1, none⟩ = some (.slice (some ⟨L, 0, none⟩) d.n d.n) := fun x => x.cell (h2.hD.cell (j := 1) rfl) id
          have gW : ∀ x : Later (fun _ => False) w2, x.val.cell? ⟨W, 0, none⟩ = some (.int .i64 n1) := fun x => x.cell (hW2.cell (warr_get0 _ _)) id
          refine wp_region_take (late (fun _ => False) w2) 9 [0, 1, 2, 3, 4, 5, 6, 7, 8] [9] (by kernel_rfl) (by kernel_rfl) (late_of (Ch.refl _ w2).drew) ?_
          simp only [List.map_cons, List.map_nil, Array.getD_eq_getD_getElem?, List.getElem?_toArray, List.getElem?_cons_zero, List.getElem?_cons_succ, Option.getD_some]
          refine wpTake_seg 7 (by kernel_rfl) ?_
          simp only [List.take_succ_cons, List.take_zero, List.drop_succ_cons, List.drop_zero]
          unfold late
          repeat (go_big_quiet_step (fail))
          refine wpQuiet_nil ?_
          refine wpTake_val (by rfl) (.agg (bArr b1 64)) ?_ ?_
          · rintro _ ⟨x, rfl⟩
            refine run_exec_load 81 (.tmp 34) rfl _ _ rfl ?_
            have := run_load_mid 81 W 1 (bArr b1 64).toList (range_warr (x.blk hW2 id)) _ Try.underlying81 rfl 64 inf81 (by rw [Array.length_toList, bArr_size])
            rwa [Array.toArray_toList] at this
          simp only [Act.put, List.setIfInBounds_toArray, List.set_cons_succ, List.set_cons_zero]
          refine wpTake_seg 1 (by kernel_rfl) ?_
          simp only [List.take_succ_cons, List.take_zero, List.drop_succ_cons, List.drop_zero]
          repeat (go_big_quiet_step (fail))
          refine wpQuiet_nil ?_
          refine wpTake_nil ?_
          refine wpRest_list _ _ _ (by decide) ?_
          simp only [List.map_cons, List.map_nil, Array.getD_eq_getD_getElem?, List.getElem?_toArray, List.getElem?_cons_zero, List.getElem?_cons_succ, Option.getD_some]
          obtain ⟨ht, hL3, hc3⟩ := store_sec (w := w2.drew) h2.hL.drew n1 hk64 b1
          refine wpList_store_mid rfl 81 (.tmp 36) (.tmp 35) rfl L (n1 * 64) (bArr b1 64) rfl rfl ht (by rw [bArr_size]; exact inf81) (oneCell_bArr b1 64) ?_
          generalize w2.drew.setCells L (n1 * 64) (bArr b1 64).toList = w3 at *
          have hc23 : Ch (· = L) w2 w3 := ((Ch.refl _ w2).drew).trans hc3 (fun _ _ e => e)
          have h3 : DiskIs w3 D N L (.slice (some ⟨P, 0, none⟩) d.pend.length pc) { d with las := crLas d.pend kb d.las (k + 1) } := by
            rw [H1.out]
            exact ⟨hc23.blk h2.hD h2.nDL, hc23.blk h2.hN h2.nNL, by simpa using hL3, own_ch h2.hP hc23 (fun i hi => (h2.nP i hi).2.2), h2.nDN, h2.nDL, h2.nNL, h2.nP, h2.n1, h2.n2, h2.hat, h2.l1, h2.l2⟩
          have hfin : (crCnt kb k : Int) + 1 = (crCnt kb (k + 1) : Nat) := by rw [H2.out]; simp
          have HF := Lib.hid hfin
          have gc : (crCnt kb k : Int) ≤ 1099511627776 := by omega
          refine NoPanic.normal ?_
          clear gD gW ht hL3 hc3 hfin
          rename_i hK
          refine hK _ _ ?_
          clear hK
          simp only [Act.put]
          go_wp2_with fail
          exact ⟨⟨k + 1, by omega, by rw [HF.out], by go_num, h3, hch2.trans hc23 (fun i hi e => Or.inr (Or.inr (Or.inl e)))⟩, by simp [intOf]; omega⟩
        · have hkv' : kb[k] = false := by simpa using hkv
          rw [hkv'] at ck H1 H2
          clear hkv hkv'
          go_wp2_with (first
            | (refine wpList_load_mid rfl 83 (.tmp 16) rfl P _ rfl (warr n1 b1).toList _ hrange Try.underlying83 rfl (by rw [Array.length_toList, warr_size]; exact inf83) ?_
               rw [Array.toArray_toList])
            | (refine wpList_store_blk rfl 83 (.tmp 7) (.tmp 17) rfl wo.heap.size _ rfl rfl 83 _ (Blk.new wo 83 _) 65 inf83 (by kernel_rfl) (warr_size _ _) (warr_one _ _) ?_
               intro w2 hW2 hc2
               have ck2 := (((Ch.refl (· = wo.heap.size) wo).alloc (.cells Try.zeroCells83 83)).trans hc2 (fun _ _ e => e)).cell ck (fun e => by have e' : ob = wo.heap.size := e; have l' : ob < wo.heap.size := lobw; omega)
               have h2 := hI.keep (((Ch.refl (· = wo.heap.size) wo).alloc (.cells Try.zeroCells83 83)).trans hc2 (fun _ _ e => e)) (fun i hi e => hwF i hi e)
               have hch2 : Ch (fpt D N L (.slice (some ⟨P, 0, none⟩) d.pend.length pc)) w w2 := hch.trans (((Ch.refl (· = wo.heap.size) wo).alloc (.cells Try.zeroCells83 83)).trans hc2 (fun _ _ e => e)) (fun i hi e => by have := hch.size; omega)))
          have e1 : crLas d.pend kb d.las (k + 1) = crLas d.pend kb d.las k := by rw [H1.out]; simp
          have e2 : crCnt kb (k + 1) = crCnt kb k := by rw [H2.out]; simp
          exact ⟨⟨k + 1, by omega, by rw [e2], by go_num, by rw [e1]; exact h2, hch2⟩, by simp [intOf]; omega⟩
      · have l2 : (kb.length : Int) ≤ k := by omega
        have hq : kb.getD k false = false := by simp [List.getD, List.getElem?_eq_none (Nat.le_of_not_lt hkk)]
        have H1 := Lib.hid (hsucc _ hq)
        have H2 := Lib.hid (hsuccC _ hq)
        clear hsucc hsuccC hq hsrc hs
        · go_wp2_with (first
            | (refine wpList_load_mid rfl 83 (.tmp 16) rfl P _ rfl (warr n1 b1).toList _ hrange Try.underlying83 rfl (by rw [Array.length_toList, warr_size]; exact inf83) ?_
               rw [Array.toArray_toList])
            | (refine wpList_store_blk rfl 83 (.tmp 7) (.tmp 17) rfl wo.heap.size _ rfl rfl 83 _ (Blk.new wo 83 _) 65 inf83 (by kernel_rfl) (warr_size _ _) (warr_one _ _) ?_
               intro w2 hW2 hc2
               skip
               have h2 := hI.keep (((Ch.refl (· = wo.heap.size) wo).alloc (.cells Try.zeroCells83 83)).trans hc2 (fun _ _ e => e)) (fun i hi e => hwF i hi e)
               have hch2 : Ch (fpt D N L (.slice (some ⟨P, 0, none⟩) d.pend.length pc)) w w2 := hch.trans (((Ch.refl (· = wo.heap.size) wo).alloc (.cells Try.zeroCells83 83)).trans hc2 (fun _ _ e => e)) (fun i hi e => by have := hch.size; omega)))
          have e1 : crLas d.pend kb d.las (k + 1) = crLas d.pend kb d.las k := by rw [H1.out]; simp
          have e2 : crCnt kb (k + 1) = crCnt kb k := by rw [H2.out]; simp
          exact ⟨⟨k + 1, by omega, by rw [e2], by go_num, by rw [e1]; exact h2, hch2⟩, by simp [intOf]; omega⟩
    · obtain rfl : k = d.pend.length := by omega
      have e1 : d.crash kb = { d with now := crLas d.pend kb d.las d.pend.length, las := crLas d.pend kb d.las d.pend.length, pend := [], down := false, left := -1 } := rfl
      have HE := Lib.hid e1
      clear e1 hs
      generalize hls : crLas d.pend kb d.las d.pend.length = ls at *
      clear hls
      go_wp2_with fail
      have gN : ∀ x : Later (fun _ => False) wr, x.val.cell? ⟨D, 0, none⟩ = some (.slice (some ⟨N, 0, none⟩) d.n d.n) := fun x => x.cell (hI.hD.cell (j := 0) rfl) id
      have gL : ∀ x : Later (fun _ => False) wr, x.val.cell? ⟨D, 1, none⟩ = some (.slice (some ⟨L, 0, none⟩) d.n d.n) := fun x => x.cell (hI.hD.cell (j := 1) rfl) id
      refine wp_region_take (late (fun _ => False) wr) 8 [0, 1, 2, 3, 4, 5, 6, 7] [8] (by kernel_rfl) (by kernel_rfl) (late_of (Ch.refl _ wr).drew) ?_
      simp only [List.map_cons, List.map_nil, Array.getD_eq_getD_getElem?, List.getElem?_toArray, List.getElem?_cons_zero, List.getElem?_cons_succ, Option.getD_some]
      refine wpTake_seg 8 (by kernel_rfl) ?_
      simp only [List.take_succ_cons, List.take_zero, List.drop_succ_cons, List.drop_zero]
      unfold late
      repeat (go_big_quiet_step (fail))
      refine wpQuiet_nil ?_
      refine wpTake_nil ?_
      refine wpRest_list _ _ _ (by decide) ?_
      simp only [List.map_cons, List.map_nil, Array.getD_eq_getD_getElem?, List.getElem?_toArray, List.getElem?_cons_zero, List.getElem?_cons_succ, Option.getD_some]
      refine wpList_copy_sectors rfl (.tmp 43) (.tmp 47) rfl N L d.n 81 81 _ _ rfl rfl hI.hN.drew hI.hL.drew ?_
      intro w2 hN2 hc2
      have hc02 : Ch (· = N) wr w2 := ((Ch.refl _ wr).drew).trans hc2 (fun _ _ e => e)
      have hch2 : Ch (fpt D N L (.slice pa d.pend.length pc)) w w2 := hch.trans hc02 (fun i hi e => Or.inr (Or.inl e))
      have hD2 := hc02.blk hI.hD hI.nDN
      have hL2 := hc02.blk hI.hL (fun e => hI.nNL e.symm)
      refine NoPanic.normal ?_
      clear gN gL hc2 hch
      rename_i hK
      refine hK _ _ ?_
      clear hK
      simp only [Act.put]
      have cD2 := hD2.cell (j := 2) rfl
      have cD3 := hD2.cell (j := 3) rfl
      have cD4 : w2.cell? ⟨D, 4, none⟩ = some (.int .i64 d.left) := hD2.cell (j := 4) rfl
      have fD2 := hD2.free 2
      have fD3 := hD2.free 3
      have fD4 := hD2.free 4
      go_wp2_with fail
      refine (astore_any D 4 d.left (-1) _ (by go_simp) (by go_simp)).mono ?_
      rintro e w3 ⟨rfl, rfl⟩
      go_wp2
      go_ret
      rw [HE.out]
      refine ⟨fpt D N L (.slice none 0 0), rfl, ⟨N, L, .slice none 0 0, ?_, rfl⟩, ?_, ?_⟩
      · refine ⟨?_, ?_, ?_, World.ownsRow_nil _ _ _ _, hI.nDN, hI.nDL, hI.nNL, fun _ e => (by cases e), hI.n1, hI.n2, fun _ e => (by cases e), (by show (-1 : Int) ≤ -1; omega), (by show (-1 : Int) ≤ 9223372036854775807; omega)⟩
        · have := ((hD2.set 2 (.slice none 0 0)).set 3 (.bool false)).set 4 (.int .i64 (-1))
          simpa using this
        · exact ((hN2.set_other hI.nDN _).set_other hI.nDN _).set_other hI.nDN _
        · exact ((hL2.set_other hI.nDL _).set_other hI.nDL _).set_other hI.nDL _
      · exact ((hch2.set (Or.inr (Or.inl rfl)) _).set (Or.inr (Or.inl rfl)) _).set (Or.inr (Or.inl rfl)) _
      · rintro i (rfl | rfl | rfl | hi)
        · exact Or.inl (Or.inl rfl)
        · exact Or.inl (Or.inr (Or.inl rfl))
        · exact Or.inl (Or.inr (Or.inr (Or.inl rfl)))
        · cases hi
/-- THE WALK OF Crash. -/
theorem crash_any (F : Nat → Prop) (D : Nat) (d : DM) (kb : List Bool) (a0 : Option Addr) (c0 : Nat) (w : World) (h : DiskAt w F D d) (hs : SrcV F w a0 (kb.map Value.bool)) (hkb : kb.length ≤ 4611686018427387904) (hp : d.pend.length ≤ 1099511627776) :
    Calls Try.prog 15 #[.pointer (some ⟨D, 0, none⟩), .slice a0 kb.length c0] w fun e w' => ∃ F', e = .returned (.int .i64 (crCnt kb d.pend.length)) ∧ DStep w F w' F' D (d.crash kb) := by
  obtain ⟨N, L, pv, h, rfl⟩ := h
  exact crash_loop D N L pv d kb a0 c0 w h hs hkb hp
/-- THE WALK OF Arm. -/
theorem arm_any (F : Nat → Prop) (D : Nat) (d : DM) (n : Int) (w : World) (h : DiskAt w F D d) (hn : n ≤ 9223372036854775807) : Calls Try.prog 19 #[.pointer (some ⟨D, 0, none⟩), .int .i64 n] w fun e w' => ∃ F', e = .returned (.int .i64 (d.arm n).1) ∧ DStep w F w' F' D (d.arm n).2 := by
  obtain ⟨N, L, pv, h, rfl⟩ := h
  have c3 : w.cell? ⟨D, 3, none⟩ = some (.bool d.down) := h.hD.cell (j := 3) rfl
  have c4 : w.cell? ⟨D, 4, none⟩ = some (.int .i64 d.left) := h.hD.cell (j := 4) rfl
  have f4 := h.hD.free 4
  unfold DM.arm
  by_cases h0 : n < 0
  · rw [if_pos h0]
    go_enter Try.func19, Try.ntmps19
    go_wp2
    go_ret
    exact ⟨_, rfl, DStep.refl ⟨N, L, pv, h, rfl⟩⟩
  · rw [if_neg h0]
    by_cases hd : d.down = true
    · rw [if_pos hd]
      rw [hd] at c3
      have HD := Lib.hid hd
      clear hd
      go_enter Try.func19, Try.ntmps19
      go_wp2
      go_ret
      exact ⟨rfl, _, DStep.refl ⟨N, L, pv, h, rfl⟩⟩
    · have hd' : d.down = false := by simpa using hd
      rw [if_neg hd]
      rw [hd'] at c3
      clear hd hd'
      go_enter Try.func19, Try.ntmps19
      go_wp2_with fail
      refine (astore_any D 4 d.left n _ c4 f4).mono ?_
      rintro e w3 ⟨rfl, rfl⟩
      go_wp2
      go_ret
      obtain ⟨F', hst⟩ := (h.setLeft n (by omega) hn).step (Ch.set (S := (· = D)) (Ch.refl _ w) (p := ⟨D, 4, none⟩) (Or.inr rfl) (.int .i64 n))
      exact ⟨F', rfl, hst⟩
end Go.Proofs.Ytjhnkpohdlilpaa
