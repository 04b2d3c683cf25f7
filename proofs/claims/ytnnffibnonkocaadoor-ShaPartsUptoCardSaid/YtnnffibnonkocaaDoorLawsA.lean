/-
  The laws ShaSum and ShaMac: their walks.
-/
import Derived.Test.YtnnffibnonkocaaDoorRefMac
import Derived.Test.YtnnffibnonkocaaDoorAwake
import Derived.Stop.BytesEq
import Derived.Lib.QuietBelow
import Derived.Test.YtnnffibnonkocaaDoorRefSum
import Derived.Test.YtnnffibnonkocaaDoorRefWords
import Derived.Test.YtnnffibnonkocaaDoorPadded
import Derived.Test.YtnnffibnonkocaaDoorSum
import Derived.RangeFuncNested
import Derived.RangeFuncBound
import Derived.RangeFuncCalls
import Derived.RangeFuncLeaves
import Derived.Shelf.Abstract
import Derived.Shelf.RegionOpen
import Derived.WalkKit
import Derived.OwnWalkIn
import Derived.TacticsInMore
import Derived.LoopNIn
import Derived.LoopIn
import Derived.WalkSpells
import Derived.WalkLawsBesides
import Derived.Lib.Hide
import Derived.BigQuiet
namespace Go.Proofs.YtnnffibnonkocaaDoor
open Go.RowKit Go.Shelf
attribute [local go_sem] Oper.semAt_some
theorem bArr_cells (f : Nat → BitVec 8) (n : Nat) : bArr f n = ((List.map (fun i => UInt8.ofBitVec (f i)) (List.range n)).map Go.Extern.Stop.cell).toArray := by
  unfold bArr; rw [List.map_map]; rfl
@[go_sem] theorem eql_same (f : Nat → BitVec 8) (w : World) : (Op.equalIn 10000 24 (.agg (bArr f 32)) (.agg (bArr f 32))).run Tryd.prog w = .ok true w := by
  have h := run_equalIn_bytes (P := Tryd.prog) w 9998 24 5 32 Tryd.underlying24 Tryd.underlying5 (fun w => by kernel_rfl) (List.map (fun i => UInt8.ofBitVec (f i)) (List.range 32)) (List.map (fun i => UInt8.ofBitVec (f i)) (List.range 32)) (by simp) (by simp)
  rw [bArr_cells, h]
  simp
section
variable {P : Program} {ops : Array Oper} {C : World → Prop} {o : Oper} {a : Act} {K : Act → Prop}
theorem quiet_val (u : Value) (h : ∀ w, C w → (execOp a.eval o).run P w = .ok (.value u) w) (hk : K (a.put o.dst u)) : o.quiet P a C K :=
  ⟨u, fun w hw => by unfold Oper.quietAt; rw [h w hw]; exact ⟨rfl, rfl⟩, hk⟩
theorem quiet_enter {f : FuncId} {args : Array Value} (v : Value) (h : ∀ w, C w → (execOp a.eval o).run P w = .ok (.enter f args) w) (hc : ∀ w, C w → Calls P f args w fun e w'' => e = .returned v ∧ C w'') (hk : K (a.put o.dst v)) : o.quiet P a C K :=
  ⟨v, fun w hw => by unfold Oper.quietAt; rw [h w hw]; exact ⟨rfl, hc w hw⟩, hk⟩
theorem quiet_load_blk (ty : TypeId) (x : Operand) (ho : o.op = .load ty x) (g : Nat) (hx : a.eval x = .pointer (some ⟨g, 0, none⟩)) (cs : Array Value) (d : TypeDesc) (t : TypeId) (hg : ∀ w, C w → Blk w g t cs)
    (hu : P.underlying ty = some d) (hd : (match d with | .struct _ | .array _ _ => true | _ => false) = true) (n : Nat) (hi : (P.info? ty).map (·.size) = some n) (hn : cs.size = n) (hk : K (a.put o.dst (.agg cs))) : o.quiet P a C K :=
  quiet_val (.agg cs) (fun w hw => by
    unfold execOp
    simp only [ho, hx, Instr.loadAt, Instr.sureAddr, Sem.run_bind, Sem.run_pure, Result.andThen_ok, run_loadVar_row w g t ty cs (0, 0) d (hg w hw) hu hd (by rw [hn]; exact hi)]) hk
theorem wp_region_quiet_ch {id : Nat} {Q : Exit → Act → World → Prop} {w : World} {l : List Oper} (hm : P.follows .mixedOrders = true) (hB : Region.lexB .any l.toArray = true)
    (h : wpQuiet P l.toArray (fun w' => Ch (fun _ => False) w w') (fun a' => ∀ w', Ch (fun _ => False) w w' → Q .normal a' w') l a) : (Code.region id l.toArray true).wp P Q a w :=
  wp_region_quiet (C := fun w' => Ch (fun _ => False) w w') hm hB ⟨rfl, rfl, rfl, Nat.le_refl _, fun _ _ _ => rfl⟩ (by simpa using h)
end
theorem eql_run {a : Act} {o : Oper} (f : Nat → BitVec 8) (x y : Operand) (ho : o.op = .binOp .eql 24 x y 24) (hx : a.eval x = .agg (bArr f 32)) (hy : a.eval y = .agg (bArr f 32)) (w : World) :
    (execOp a.eval o).run Tryd.prog w = .ok (.value (.bool true)) w := by
  have hg : Tryd.prog.eqGuardType Tryd.prog.depth 24 = false := by kernel_rfl
  unfold execOp
  simp only [ho, hx, hy]
  go_simp
theorem refSum_q (xs : List (BitVec 8)) (a0 : Option Addr) (c0 : Nat) (w : World) (hc0 : xs.length ≤ c0) (hnil : a0 = none → c0 = 0) (hs : Src (fun _ => False) w a0 xs) (hn : xs.length ≤ 140737488355200) :
    ∀ w', Ch (fun _ => False) w w' → Calls Tryd.prog 9 #[.slice a0 xs.length c0] w' fun e w'' => e = .returned (.agg (bArr (sha xs) 32)) ∧ Ch (fun _ => False) w w'' :=
  fun w' hw' => (refSum_any xs a0 c0 w' hc0 hnil (hs.ch hw' (fun _ e => e)) hn).mono fun _ _ ⟨he, hc⟩ => ⟨he, hw'.trans hc (fun _ _ e => e)⟩
set_option maxHeartbeats 1000000 in
set_option maxRecDepth 100000 in
theorem law3_any (xs : List (BitVec 8)) (a0 : Option Addr) (c0 : Nat) (w : World) (hL : Laid w) (hc0 : xs.length ≤ c0) (hnil : a0 = none → c0 = 0) (hs : Src (fun _ => False) w a0 xs) (hn : xs.length ≤ 140737488355200) :
    Calls Tryd.prog 3 #[.slice a0 xs.length c0] w fun e w' => e = .returned (.bool true) ∧ Ch (fun _ => False) w w' := by
  have z24 : ∀ w : World, (zeroValue 24).run Tryd.prog w = .ok (.agg (bArr (fun _ => 0) 32)) w := fun w => by kernel_rfl
  have HN := Lib.hid hnil
  clear hnil
  go_enter Tryd.func3, Tryd.ntmps3
  go_wp2_with fail
  refine (awake_any w hL).mono ?_
  rintro e w1 ⟨rfl, hc1⟩
  have hs1 := hs.ch hc1 (fun _ e => e)
  have hL1 := hL.ch hc1 (fun _ e => e.elim)
  go_wp2_with fail
  refine (shaSum_any xs a0 c0 w1 hL1 hc0 hs1 (by omega)).mono ?_
  rintro e w2 ⟨rfl, hc2⟩
  have hcw2 := hc1.trans hc2 (fun _ _ e => e)
  clear hc1 hc2 hs1 hL1
  go_wp2_with (refine wpList_store_blk rfl 24 (.tmp 4) (.tmp 7) rfl w2.heap.size (bArr (sha xs) 32) rfl rfl 24 (bArr (fun _ => 0) 32) (Blk.new w2 24 (bArr (fun _ => 0) 32)) 32 (by kernel_rfl) (bArr_size _ _) (bArr_size _ _) (oneCell_bArr _ _) ?_; intro w3 hX hc3')
  have hcw3 : Ch (fun _ => False) w w3 := (hcw2.alloc _).trans hc3' (fun i hi e => by have e' : i = w2.heap.size := e; have := hcw2.size; omega)
  clear hc3' hcw2
  have hs3 := hs.ch hcw3 (fun _ e => e)
  have kC := refSum_q xs a0 c0 w3 hc0 HN.out hs3 hn
  generalize w2.heap.size = X at *
  refine wp_region_quiet_ch (by kernel_rfl) (by kernel_rfl) ?_
  refine BigFrame.wpQuiet_want (by rfl) (fun K hK => BigFrame.quiet_move (.tmp 3) rfl (hK _ ?_))
  clear hK K
  refine BigFrame.wpQuiet_want (by rfl) (fun K hK => BigFrame.quiet_move (.tmp 8) rfl (hK _ ?_))
  clear hK K
  refine BigFrame.wpQuiet_want (by rfl) (fun K hK => quiet_load_blk 24 (.tmp 4) rfl X rfl (bArr (sha xs) 32) _ 24 (fun w' hw' => hw'.blk hX id) Tryd.underlying24 rfl 32 (by kernel_rfl) (bArr_size _ _) (hK _ ?_))
  clear hK K
  refine BigFrame.wpQuiet_want (by rfl) (fun K hK => BigFrame.quiet_move (.tmp 0) rfl (hK _ ?_))
  clear hK K
  refine BigFrame.wpQuiet_want (by rfl) (fun K hK => quiet_enter (f := 9) (args := #[.slice a0 xs.length c0]) (.agg (bArr (sha xs) 32)) (fun w' _ => by go_simp) kC (hK _ ?_))
  clear hK K
  refine BigFrame.wpQuiet_want (by rfl) (fun K hK => quiet_val (.bool true) (fun w' _ => eql_run (sha xs) (.tmp 10) (.tmp 12) rfl rfl rfl w') (hK _ ?_))
  clear hK K
  refine BigFrame.wpQuiet_want (by rfl) (fun K hK => quiet_val (.bool true) (fun w' _ => by go_simp) (hK _ ?_))
  clear hK K
  refine BigFrame.wpQuiet_want (by rfl) (fun K hK => BigFrame.quiet_assign (.tmp 14) rfl (hK _ ?_))
  clear hK K
  refine wpQuiet_nil ?_
  intro w4 hc4
  have hcw4 := hcw3.trans hc4 (fun _ _ e => e)
  go_wp2
  go_ret
  exact ⟨rfl, hcw4⟩
theorem refMac_q (ks xs : List (BitVec 8)) (a0 a1 : Option Addr) (c0 c1 : Nat) (w : World) (hc0 : ks.length ≤ c0) (hnil : a0 = none → c0 = 0) (hs : Src (fun _ => False) w a0 ks) (hn : ks.length ≤ 140737488355200)
    (hc1 : xs.length ≤ c1) (hnil1 : a1 = none → c1 = 0) (hs1 : Src (fun _ => False) w a1 xs) (hn1 : xs.length ≤ 140737488355136) :
    ∀ w', Ch (fun _ => False) w w' → Calls Tryd.prog 11 #[.slice a0 ks.length c0, .slice a1 xs.length c1] w' fun e w'' => e = .returned (.agg (bArr (hmac ks xs) 32)) ∧ Ch (fun _ => False) w w'' :=
  fun w' hw' => (refMac_any ks xs a0 a1 c0 c1 w' hc0 hnil (hs.ch hw' (fun _ e => e)) hn hc1 hnil1 (hs1.ch hw' (fun _ e => e)) hn1).mono fun _ _ ⟨he, hc⟩ => ⟨he, hw'.trans hc (fun _ _ e => e)⟩
set_option maxHeartbeats 1000000 in
set_option maxRecDepth 100000 in
theorem law4_any (ks xs : List (BitVec 8)) (a0 a1 : Option Addr) (c0 c1 : Nat) (w : World) (hL : Laid w) (hc0 : ks.length ≤ c0) (hnil : a0 = none → c0 = 0) (hs : Src (fun _ => False) w a0 ks) (hn : ks.length ≤ 140737488355200)
    (hc1 : xs.length ≤ c1) (hnil1 : a1 = none → c1 = 0) (hs1 : Src (fun _ => False) w a1 xs) (hn1 : xs.length ≤ 140737488355136) :
    Calls Tryd.prog 4 #[.slice a0 ks.length c0, .slice a1 xs.length c1] w fun e w' => e = .returned (.bool true) ∧ Ch (fun _ => False) w w' := by
  have z24 : ∀ w : World, (zeroValue 24).run Tryd.prog w = .ok (.agg (bArr (fun _ => 0) 32)) w := fun w => by kernel_rfl
  have HN := Lib.hid hnil
  have HN1 := Lib.hid hnil1
  clear hnil hnil1
  go_enter Tryd.func4, Tryd.ntmps4
  go_wp2_with fail
  refine (awake_any w hL).mono ?_
  rintro e w1 ⟨rfl, hcw1⟩
  have hsA := hs.ch hcw1 (fun _ e => e)
  have hsB := hs1.ch hcw1 (fun _ e => e)
  have hL1 := hL.ch hcw1 (fun _ e => e.elim)
  go_wp2_with fail
  refine (mac_any ks xs a0 a1 c0 c1 w1 hL1 hc0 hsA (by omega) hc1 hsB (by omega)).mono ?_
  rintro e w2 ⟨rfl, hc2⟩
  have hcw2 := hcw1.trans hc2 (fun _ _ e => e)
  clear hcw1 hc2 hsA hsB hL1
  go_wp2_with (refine wpList_store_blk rfl 24 (.tmp 6) (.tmp 10) rfl w2.heap.size (bArr (hmac ks xs) 32) rfl rfl 24 (bArr (fun _ => 0) 32) (Blk.new w2 24 (bArr (fun _ => 0) 32)) 32 (by kernel_rfl) (bArr_size _ _) (bArr_size _ _) (oneCell_bArr _ _) ?_; intro w3 hX hc3')
  have hcw3 : Ch (fun _ => False) w w3 := (hcw2.alloc _).trans hc3' (fun i hi e => by have e' : i = w2.heap.size := e; have := hcw2.size; omega)
  clear hc3' hcw2
  have hs3 := hs.ch hcw3 (fun _ e => e)
  have hs13 := hs1.ch hcw3 (fun _ e => e)
  have kC := refMac_q ks xs a0 a1 c0 c1 w3 hc0 HN.out hs3 hn hc1 HN1.out hs13 hn1
  generalize w2.heap.size = X at *
  clear z24 HN HN1
  generalize hmac ks xs = F at *
  refine wp_region_quiet_ch (by kernel_rfl) (by kernel_rfl) ?_
  refine BigFrame.wpQuiet_want (by rfl) (fun K hK => BigFrame.quiet_move (.tmp 5) rfl (hK _ ?_))
  clear hK K
  refine BigFrame.wpQuiet_want (by rfl) (fun K hK => BigFrame.quiet_move (.tmp 11) rfl (hK _ ?_))
  clear hK K
  refine BigFrame.wpQuiet_want (by rfl) (fun K hK => quiet_load_blk 24 (.tmp 6) rfl X rfl (bArr F 32) _ 24 (fun w' hw' => hw'.blk hX id) Tryd.underlying24 rfl 32 (by kernel_rfl) (bArr_size _ _) (hK _ ?_))
  clear hK K
  refine BigFrame.wpQuiet_want (by rfl) (fun K hK => BigFrame.quiet_move (.tmp 0) rfl (hK _ ?_))
  clear hK K
  refine BigFrame.wpQuiet_want (by rfl) (fun K hK => BigFrame.quiet_move (.tmp 1) rfl (hK _ ?_))
  clear hK K
  refine BigFrame.wpQuiet_want (by rfl) (fun K hK => quiet_enter (f := 11) (args := #[.slice a0 ks.length c0, .slice a1 xs.length c1]) (.agg (bArr F 32)) (fun w' _ => by go_simp) kC (hK _ ?_))
  clear hK K
  refine BigFrame.wpQuiet_want (by rfl) (fun K hK => quiet_val (.bool true) (fun w' _ => eql_run F (.tmp 13) (.tmp 16) rfl rfl rfl w') (hK _ ?_))
  clear hK K
  refine BigFrame.wpQuiet_want (by rfl) (fun K hK => quiet_val (.bool true) (fun w' _ => by go_simp) (hK _ ?_))
  clear hK K
  refine BigFrame.wpQuiet_want (by rfl) (fun K hK => BigFrame.quiet_assign (.tmp 18) rfl (hK _ ?_))
  clear hK K
  refine wpQuiet_nil ?_
  intro w4 hc4
  have hcw4 := hcw3.trans hc4 (fun _ _ e => e)
  go_wp2
  go_ret
  exact ⟨rfl, hcw4⟩
end Go.Proofs.YtnnffibnonkocaaDoor
