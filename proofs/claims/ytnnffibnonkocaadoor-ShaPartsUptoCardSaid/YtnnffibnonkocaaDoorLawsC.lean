/-
  The law ShaParts: the walk.
-/
import Derived.Test.YtnnffibnonkocaaDoorLawsB
import Derived.Test.YtnnffibnonkocaaDoorLawsA
import Derived.Test.YtnnffibnonkocaaDoorRefMac
import Derived.Test.YtnnffibnonkocaaDoorAwake
import Derived.Stop.BytesEq
import Derived.Lib.QuietBelow
import Derived.Test.YtnnffibnonkocaaDoorRefSum
import Derived.Test.YtnnffibnonkocaaDoorRefWords
import Derived.Test.YtnnffibnonkocaaDoorPadded
import Derived.Test.YtnnffibnonkocaaDoorSum
import Derived.RangeFuncNested
import Derived.RangeFuncBound
import Derived.RangeFuncCalls
import Derived.RangeFuncLeaves
import Derived.Shelf.Abstract
import Derived.Shelf.RegionOpen
import Derived.WalkKit
import Derived.OwnWalkIn
import Derived.TacticsInMore
import Derived.LoopNIn
import Derived.LoopIn
import Derived.WalkSpells
import Derived.WalkLawsBesides
import Derived.Lib.Hide
import Derived.BigQuiet
namespace Go.Proofs.YtnnffibnonkocaaDoor
open Go.RowKit Go.Shelf
attribute [local go_sem] Oper.semAt_some
/-- the parts' cells -/
structure PartsAt (w : World) (pa : Option Addr) (ps : List (List (BitVec 8))) : Prop where
  at_ : ps ≠ [] → ∃ PB PO, pa = some ⟨PB, PO, none⟩ ∧ ∀ k, k < ps.length → ∃ a c, w.cell? ⟨PB, PO + k, none⟩ = some (.slice a (ps.getD k []).length c) ∧ (ps.getD k []).length ≤ c ∧ (a = none → c = 0) ∧ Src (fun _ => False) w a (ps.getD k [])
/-- the first k parts, one behind the other -/
def upto (ps : List (List (BitVec 8))) (k : Nat) : List (BitVec 8) := (ps.take k).flatten
theorem upto_succ (ps : List (List (BitVec 8))) (k : Nat) (h : k < ps.length) : upto ps (k + 1) = upto ps k ++ ps.getD k [] := by
  unfold upto
  rw [List.take_add_one, List.getElem?_eq_getElem h, List.flatten_append, List.getD_eq_getElem?_getD, List.getElem?_eq_getElem h]
  simp
theorem upto_le (ps : List (List (BitVec 8))) (k : Nat) : (upto ps k).length ≤ ps.flatten.length := by
  have h : ps.flatten = (ps.take k).flatten ++ (ps.drop k).flatten := by rw [← List.flatten_append, List.take_append_drop]
  rw [h, List.length_append]; exact Nat.le_add_right _ _
theorem neq_run {a : Act} {o : Oper} (f : Nat → BitVec 8) (x y : Operand) (ho : o.op = .binOp .neq 24 x y 24) (hx : a.eval x = .agg (bArr f 32)) (hy : a.eval y = .agg (bArr f 32)) (w : World) :
    (execOp a.eval o).run Tryd.prog w = .ok (.value (.bool false)) w := by
  have hg : Tryd.prog.eqGuardType Tryd.prog.depth 24 = false := by kernel_rfl
  unfold execOp
  simp only [ho, hx, hy]
  go_simp
theorem write_digest (l : List (BitVec 8)) : (HS.begin.write l).digest = sha l := rfl
set_option maxHeartbeats 4000000 in
set_option maxRecDepth 100000 in
theorem law5_any (ps : List (List (BitVec 8))) (pa : Option Addr) (pc : Nat) (w : World) (hL : Laid w) (hp : PartsAt w pa ps) (hpl : ps.length ≤ 140737488355328) (hbulk : ps.flatten.length ≤ 1048576) :
    Calls Tryd.prog 5 #[.slice pa ps.length pc] w fun e w' => e = .returned (.bool true) ∧ Ch (fun _ => False) w w' := by
  have z24 : ∀ w : World, (zeroValue 24).run Tryd.prog w = .ok (.agg (bArr (fun _ => 0) 32)) w := fun w => by kernel_rfl
  have gpl : (ps.length : Int) ≤ 140737488355328 := by omega
  have HBULK := Lib.hid hbulk
  clear hbulk
  go_enter Tryd.func5, Tryd.ntmps5
  go_wp2_with fail
  refine (awake_any w hL).mono ?_
  rintro e w1 ⟨rfl, hcw1⟩
  go_wp2_with fail
  refine (new_any w1 (hL.ch hcw1 (fun _ e => e.elim))).mono ?_
  rintro e w2 ⟨rfl, hB, hc2⟩
  have hcw2 := hcw1.trans hc2 (fun _ _ e => e)
  have hBl := hB.lt
  have hBw : w.heap.size ≤ w1.heap.size := hcw1.size
  have hL2 := hL.lt
  clear hcw1 hc2
  generalize w1.heap.size = B at *
  go_wp2_with fail
  go_loopw [5, 6] (fun v i wr => ∃ (k : Nat) (a : Option Addr) (c : Nat), k ≤ ps.length ∧ k ≤ 40 ∧ i = .int .i64 k ∧ v = .slice a (upto ps k).length c ∧ BOwn wr w2.heap.size v (upto ps k) ∧
      (let t := HS.begin.write (upto ps k); Blk wr B 50 (hArr t.h t.o t.n)) ∧ w2.heap.size ≤ wr.heap.size ∧ Ch (fun _ => False) w wr) (fun _ i _ => 40 - (intOf i).toNat)
  case atStart => exact ⟨0, none, 0, by omega, by omega, rfl, rfl, BOwn.nil _ _, hB, Nat.le_refl _, hcw2⟩
  case round =>
    clear hB hcw2
    obtain ⟨k, a, c, hk, hk40, rfl, rfl, hown, hB, lw, hch⟩ := hrel
    obtain ⟨wo, rfl⟩ : ∃ x, x = wr := ⟨_, rfl⟩
    have hul := upto_le ps k
    by_cases hlt : k < ps.length ∧ k < 40
    · obtain ⟨hk1, hk2⟩ := hlt
      have g1 : (k : Int) < ps.length := by omega
      have g2 : (k : Int) < 40 := by omega
      obtain ⟨PB, PO, rfl, hcells⟩ := hp.at_ (by intro e; rw [e] at hk1; simp at hk1)
      obtain ⟨ak, ck, hcell, hlk, hnk, hsk⟩ := hcells k hk1
      have cP := hch.cell hcell id
      have hus := upto_succ ps k hk1
      have hul2 := upto_le ps (k + 1)
      generalize hpk : ps.getD k [] = pk at *
      go_wp2_with fail
      have hsw : Src (fun i => i = B ∨ wo.heap.size ≤ i) wo ak pk := (hsk.older hch (fun _ e => e)).mono (fun i e => by omega)
      have HUS := Lib.hid hus
      have HP5 := Lib.hid hpk
      clear hus hpk
      have hkB : ∀ j, j < 64 → wo.cell? ⟨1, j, none⟩ = some (U32 (kAt j)) := (hL.ch hch (fun _ e => e.elim)).consts
      have HKB := Lib.hid hkB
      clear hkB
      have hB0 := hB
      have hplen : (upto ps k).length + pk.length = (upto ps (k + 1)).length := by rw [HUS.out, List.length_append]
      refine (write_any B (by omega) pk ak ck (HS.begin.write (upto ps k)) wo hB0 HKB.out hlk hsw (by rw [HS.write_n]; have := HBULK.out; show 0 + (upto ps k).length + pk.length ≤ _; omega)).mono ?_
      rintro e w3 ⟨rfl, hB3, hc3⟩
      rw [← HS.write_append, ← HUS.out] at hB3
      have hch3 : Ch (fun _ => False) w w3 := hch.trans hc3 (fun i hi e => by have e' : i = B := e; omega)
      have hown3 := hown.ch hc3 (fun i e => by have e' : i = B := e; omega)
      have cP3 := hch3.cell hcell id
      have hs3 := hsk.ch hch3 (fun _ e => e)
      have lw3 : w2.heap.size ≤ w3.heap.size := by have := hc3.size; omega
      clear hB hB0 hsw HKB hc3 hown cP hch
      go_wp2_with (refine wpList_append_bytes rfl (.tmp 31) (.tmp 35) rfl w2.heap.size (.slice a (upto ps k).length c) _ rfl hown3 pk ak pk.length ck rfl rfl hnk hs3 (upto ps (k + 1)).length hplen.symm (by have := HBULK.out; omega) lw3 ?_; intro a4 c4 w4 hown4 hc4)
      rw [← HUS.out] at hown4
      have hch4 : Ch (fun _ => False) w w4 := hch3.trans hc4 (fun i hi e => by have := hown3.block_le i e; omega)
      have hB4 := hc4.blk hB3 (fun e => by have := hown3.block_le _ e; omega)
      have lw4 : w2.heap.size ≤ w4.heap.size := by have := hc4.size; omega
      clear hB3 hc4 hown3 hs3 cP3 hch3 lw3
      refine (sum_any B (HS.begin.write (upto ps (k + 1))) w4 hB4 (hL.ch hch4 (fun _ e => e.elim)).consts (by omega) (by rw [HS.write_n]; have := HBULK.out; show 0 + (upto ps (k + 1)).length ≤ _; omega)).mono ?_
      rintro e w5 ⟨rfl, hc5⟩
      rw [write_digest]
      have hch5 := hch4.trans hc5 (fun _ _ e => e)
      have hB5 := hc5.blk hB4 id
      have hown5 := hown4.ch hc5 (fun _ e => e.elim)
      have lw5 : w2.heap.size ≤ w5.heap.size := by have := hc5.size; omega
      clear hc5 hB4 hown4 hch4
      go_wp2_with (refine wpList_store_blk rfl 24 (.tmp 7) (.tmp 38) rfl w5.heap.size (bArr (sha (upto ps (k + 1))) 32) rfl rfl 24 (bArr (fun _ => 0) 32) (Blk.new w5 24 (bArr (fun _ => 0) 32)) 32 (by kernel_rfl) (bArr_size _ _) (bArr_size _ _) (oneCell_bArr _ _) ?_; intro w6 hX hc6')
      have hc56 : Ch (fun _ => False) w5 w6 := ((Ch.refl _ w5).alloc _).trans hc6' (fun i hi e => by have e' : i = w5.heap.size := e; omega)
      have hch6 := hch5.trans hc56 (fun _ _ e => e)
      have hB6 := hc56.blk hB5 id
      have hown6 := hown5.ch hc56 (fun _ e => e.elim)
      have lw6 : w2.heap.size ≤ w6.heap.size := by have := hc56.size; omega
      clear hc6' hc56 hB5 hown5 hch5
      generalize w5.heap.size = X at *
      obtain ⟨a6', c6', he6, hle6, -, hsrc6⟩ := hown6.shape
      injection he6 with e1 _ e2
      subst e1 e2
      refine (shaSum_any (upto ps (k + 1)) a4 c4 w6 (hL.ch hch6 (fun _ e => e.elim)) hle6 (hsrc6.mono (fun _ e => e.elim)) (by have := HBULK.out; omega)).mono ?_
      rintro e w7 ⟨rfl, hc7⟩
      have hch7 := hch6.trans hc7 (fun _ _ e => e)
      have hB7 := hc7.blk hB6 id
      have hX7 := hc7.blk hX id
      have hown7 := hown6.ch hc7 (fun _ e => e.elim)
      have lw7 : w2.heap.size ≤ w7.heap.size := by have := hc7.size; omega
      clear hc7 hB6 hX hown6 hch6 hsrc6
      generalize hF : sha (upto ps (k + 1)) = F at *
      clear hF
      go_wp2_with (first
        | (refine wpList_store_blk rfl 24 (.tmp 8) (.tmp 40) rfl w7.heap.size (bArr F 32) rfl rfl 24 (bArr (fun _ => 0) 32) (Blk.new w7 24 (bArr (fun _ => 0) 32)) 32 (by kernel_rfl) (bArr_size _ _) (bArr_size _ _) (oneCell_bArr _ _) ?_; intro w8 hY hc8'; have hX8 := hc8'.blk (hX7.alloc _) (fun e => by have e' : X = w7.heap.size := e; have := hX7.lt; omega); have hc78 : Ch (fun _ => False) w7 w8 := ((Ch.refl _ w7).alloc _).trans hc8' (fun i hi e => by have e' : i = w7.heap.size := e; omega))
        | refine wpList_load_blk rfl 24 (.tmp 7) rfl X rfl (bArr F 32) _ 24 hX8 Tryd.underlying24 rfl 32 (by kernel_rfl) (bArr_size _ _) ?_
        | refine wpList_load_blk rfl 24 (.tmp 8) rfl w7.heap.size rfl (bArr F 32) _ 24 hY Tryd.underlying24 rfl 32 (by kernel_rfl) (bArr_size _ _) ?_
        | refine wpList_val_g (by rfl) (.bool false) (neq_run F (.tmp 41) (.tmp 42) rfl rfl rfl _) ?_)
      go_roundw
      case rel =>
        exact ⟨k + 1, a4, c4, by omega, by omega, by go_num, rfl, hown7.ch hc78 (fun _ e => e.elim), hc78.blk hB7 id, by have := hc78.size; omega, hch7.trans hc78 (fun _ _ e => e)⟩
      case measure => simp [intOf]; omega
    · by_cases hk1 : k < ps.length
      · have g1 : (k : Int) < ps.length := by omega
        have g2 : ¬ (k : Int) < 40 := by omega
        go_wp2_with fail
        refine (sum_any B (HS.begin.write (upto ps k)) wo hB (hL.ch hch (fun _ e => e.elim)).consts (by omega) (by rw [HS.write_n]; have := HBULK.out; show 0 + (upto ps k).length ≤ _; omega)).mono ?_
        rintro e w5 ⟨rfl, hc5⟩
        rw [write_digest]
        have hch5 := hch.trans hc5 (fun _ _ e => e)
        have hown5 := hown.ch hc5 (fun _ e => e.elim)
        clear hc5 hB hown hch
        go_wp2_with (refine wpList_store_blk rfl 24 (.tmp 9) (.tmp 45) rfl w5.heap.size (bArr (sha (upto ps k)) 32) rfl rfl 24 (bArr (fun _ => 0) 32) (Blk.new w5 24 (bArr (fun _ => 0) 32)) 32 (by kernel_rfl) (bArr_size _ _) (bArr_size _ _) (oneCell_bArr _ _) ?_; intro w6 hX hc6')
        have hc56 : Ch (fun _ => False) w5 w6 := ((Ch.refl _ w5).alloc _).trans hc6' (fun i hi e => by have e' : i = w5.heap.size := e; omega)
        have hch6 := hch5.trans hc56 (fun _ _ e => e)
        have hown6 := hown5.ch hc56 (fun _ e => e.elim)
        clear hc6' hc56 hown5 hch5
        generalize w5.heap.size = X at *
        obtain ⟨a6', c6', he6, hle6, -, hsrc6⟩ := hown6.shape
        injection he6 with e1 _ e2
        subst e1 e2
        refine (shaSum_any (upto ps k) a c w6 (hL.ch hch6 (fun _ e => e.elim)) hle6 (hsrc6.mono (fun _ e => e.elim)) (by have := HBULK.out; omega)).mono ?_
        rintro e w7 ⟨rfl, hc7⟩
        have hch7 := hch6.trans hc7 (fun _ _ e => e)
        have hX7 := hc7.blk hX id
        clear hc7 hX hown6 hch6 hsrc6
        generalize hF : sha (upto ps k) = F at *
        clear hF
        go_wp2_with (first
          | (refine wpList_store_blk rfl 24 (.tmp 10) (.tmp 47) rfl w7.heap.size (bArr F 32) rfl rfl 24 (bArr (fun _ => 0) 32) (Blk.new w7 24 (bArr (fun _ => 0) 32)) 32 (by kernel_rfl) (bArr_size _ _) (bArr_size _ _) (oneCell_bArr _ _) ?_; intro w8 hY hc8'; have hX8 := hc8'.blk (hX7.alloc _) (fun e => by have e' : X = w7.heap.size := e; have := hX7.lt; omega); have hc78 : Ch (fun _ => False) w7 w8 := ((Ch.refl _ w7).alloc _).trans hc8' (fun i hi e => by have e' : i = w7.heap.size := e; omega))
          | refine wpList_load_blk_g (by rfl) 24 (.tmp 9) rfl X rfl (bArr F 32) _ 24 hX8 Tryd.underlying24 rfl 32 (by kernel_rfl) (bArr_size _ _) ?_
          | refine wpList_load_blk_g (by rfl) 24 (.tmp 10) rfl w7.heap.size rfl (bArr F 32) _ 24 hY Tryd.underlying24 rfl 32 (by kernel_rfl) (bArr_size _ _) ?_
          | refine wpList_val_g (by rfl) (.bool true) (eql_run F (.tmp 50) (.tmp 51) rfl rfl rfl _) ?_)
        go_ret
        exact ⟨rfl, hch7.trans hc78 (fun _ _ e => e)⟩
      · have g1 : ¬ (k : Int) < ps.length := by omega
        go_wp2_with fail
        refine (sum_any B (HS.begin.write (upto ps k)) wo hB (hL.ch hch (fun _ e => e.elim)).consts (by omega) (by rw [HS.write_n]; have := HBULK.out; show 0 + (upto ps k).length ≤ _; omega)).mono ?_
        rintro e w5 ⟨rfl, hc5⟩
        rw [write_digest]
        have hch5 := hch.trans hc5 (fun _ _ e => e)
        have hown5 := hown.ch hc5 (fun _ e => e.elim)
        clear hc5 hB hown hch
        go_wp2_with (refine wpList_store_blk rfl 24 (.tmp 9) (.tmp 45) rfl w5.heap.size (bArr (sha (upto ps k)) 32) rfl rfl 24 (bArr (fun _ => 0) 32) (Blk.new w5 24 (bArr (fun _ => 0) 32)) 32 (by kernel_rfl) (bArr_size _ _) (bArr_size _ _) (oneCell_bArr _ _) ?_; intro w6 hX hc6')
        have hc56 : Ch (fun _ => False) w5 w6 := ((Ch.refl _ w5).alloc _).trans hc6' (fun i hi e => by have e' : i = w5.heap.size := e; omega)
        have hch6 := hch5.trans hc56 (fun _ _ e => e)
        have hown6 := hown5.ch hc56 (fun _ e => e.elim)
        clear hc6' hc56 hown5 hch5
        generalize w5.heap.size = X at *
        obtain ⟨a6', c6', he6, hle6, -, hsrc6⟩ := hown6.shape
        injection he6 with e1 _ e2
        subst e1 e2
        refine (shaSum_any (upto ps k) a c w6 (hL.ch hch6 (fun _ e => e.elim)) hle6 (hsrc6.mono (fun _ e => e.elim)) (by have := HBULK.out; omega)).mono ?_
        rintro e w7 ⟨rfl, hc7⟩
        have hch7 := hch6.trans hc7 (fun _ _ e => e)
        have hX7 := hc7.blk hX id
        clear hc7 hX hown6 hch6 hsrc6
        generalize hF : sha (upto ps k) = F at *
        clear hF
        go_wp2_with (first
          | (refine wpList_store_blk rfl 24 (.tmp 10) (.tmp 47) rfl w7.heap.size (bArr F 32) rfl rfl 24 (bArr (fun _ => 0) 32) (Blk.new w7 24 (bArr (fun _ => 0) 32)) 32 (by kernel_rfl) (bArr_size _ _) (bArr_size _ _) (oneCell_bArr _ _) ?_; intro w8 hY hc8'; have hX8 := hc8'.blk (hX7.alloc _) (fun e => by have e' : X = w7.heap.size := e; have := hX7.lt; omega); have hc78 : Ch (fun _ => False) w7 w8 := ((Ch.refl _ w7).alloc _).trans hc8' (fun i hi e => by have e' : i = w7.heap.size := e; omega))
          | refine wpList_load_blk_g (by rfl) 24 (.tmp 9) rfl X rfl (bArr F 32) _ 24 hX8 Tryd.underlying24 rfl 32 (by kernel_rfl) (bArr_size _ _) ?_
          | refine wpList_load_blk_g (by rfl) 24 (.tmp 10) rfl w7.heap.size rfl (bArr F 32) _ 24 hY Tryd.underlying24 rfl 32 (by kernel_rfl) (bArr_size _ _) ?_
          | refine wpList_val_g (by rfl) (.bool true) (eql_run F (.tmp 50) (.tmp 51) rfl rfl rfl _) ?_)
        go_ret
        exact ⟨rfl, hch7.trans hc78 (fun _ _ e => e)⟩
end Go.Proofs.YtnnffibnonkocaaDoor
