/-
  A sector read: the walk of log.decode.
-/
import Derived.Test.YtjhnkpohdlilpaaTake
import Derived.Test.YtjhnkpohdlilpaaCopy
import Derived.Laws.CopyOwn
import Derived.Deep.OwnRows
import Derived.Deep.MidRow
import Derived.Test.YtjhnkpohdlilpaaPut
import Derived.Test.YtjhnkpohdlilpaaRows
import Derived.Test.YtjhnkpohdlilpaaWords
import Derived.Test.YtjhnkpohdlilpaaMem
import Derived.Test.YtjhnkpohdlilpaaTail
import Derived.Test.YtjhnkpohdlilpaaCrc
import Derived.Test.YtjhnkpohdlilpaaArr
import Derived.RangeFuncNested
import Derived.RangeFuncBound
import Derived.RangeFuncCalls
import Derived.RangeFuncLeaves
import Derived.Shelf.Abstract
import Derived.Shelf.RegionOpen
import Derived.WalkKit
import Derived.OwnWalkIn
import Derived.TacticsInMore
import Derived.LoopNIn
import Derived.LoopIn
import Derived.WalkSpells
import Derived.WalkLawsBesides
import Derived.Lib.Hide
import Derived.BigQuiet
import Derived.Outline
import Derived.Deep.DeepFit
namespace Go.Proofs.Ytjhnkpohdlilpaa
open Go.RowKit Go.Shelf
attribute [local go_sem] Oper.semAt_some
section
variable {P : Program} (w : World) (src dst : TypeId)
@[go_sem] theorem conv_8_64 (x : BitVec 8) (hs : (P.underlying src).isSome = true) (hd : P.underlying dst = some (.int (P.intKind dst))) (hk : P.intKind dst = .i64) : (convert src dst (U8 x)).run P w = .ok (.int .i64 x.toNat) w := by
  unfold U8
  rw [run_convert_int (hs := hs) (hd := hd), hk]
  congr 2
  have := x.isLt
  exact IntWalk.i64_in _ (by omega)
@[go_sem] theorem conv_32_64 (x : BitVec 32) (hs : (P.underlying src).isSome = true) (hd : P.underlying dst = some (.int (P.intKind dst))) (hk : P.intKind dst = .i64) : (convert src dst (U32 x)).run P w = .ok (.int .i64 x.toNat) w := by
  unfold U32
  rw [run_convert_int (hs := hs) (hd := hd), hk]
  congr 2
  have := x.isLt
  exact IntWalk.i64_in _ (by omega)
end
theorem info73 : (Try.prog.info? 73).map (·.size) = some 6 := by kernel_rfl
/-- the worlds that have come of w by new blocks and draws alone -/
structure Later (F : Nat → Prop) (w : World) where
  val : World
  ch : Ch F w val
instance (F : Nat → Prop) (w : World) : Nonempty (Later F w) := ⟨⟨w, Ch.refl _ _⟩⟩
def late (F : Nat → Prop) (w : World) : World → Prop := fun w' => ∃ x : Later F w, w' = x.val
theorem late_of {F : Nat → Prop} {w w' : World} (h : Ch F w w') : late F w w' := ⟨⟨w', h⟩, rfl⟩
theorem Later.cell {F : Nat → Prop} {w : World} (x : Later F w) {p : Addr} {v : Value} (h : w.cell? p = some v) (hn : ¬ F p.block) : x.val.cell? p = some v := x.ch.cell h hn
theorem Later.blk {F : Nat → Prop} {w : World} (x : Later F w) {B : Nat} {t : TypeId} {arr : Array Value} (h : Blk w B t arr) (hn : ¬ F B) : Blk x.val B t arr := x.ch.blk h hn
theorem results_cell_slot {P : Program} {fn : Func} {p q : Tmp} {ty : TypeId} (h : fn.results = #[.cell p ty, .tmp q]) (tmps : Array Value) (w : World) (g : Nat) (t : TypeId) (cs : Array Value) (d : TypeDesc) (v : Value) (hv : tmps.getD q undef = v)
    (hp : tmps.getD p undef = .pointer (some ⟨g, 0, none⟩)) (hg : Blk w g t cs) (hu : P.underlying ty = some d) (hd : (match d with | .struct _ | .array _ _ => true | _ => false) = true) (n : Nat) (hi : (P.info? ty).map (·.size) = some n) (hn : cs.size = n) :
    (results fn tmps).run P w = .ok (.tuple #[.agg cs, v]) w := by
  have hp' : tmps[p]?.getD undef = .pointer (some ⟨g, 0, none⟩) := by simpa using hp
  have hv' : tmps[q]?.getD undef = v := by simpa using hv
  simp [results, h, hp', hv', asAddr, run_loadVar_row w g t ty cs (0, 0) d hg hu hd (by rw [hn]; exact hi)]
theorem run_exec_load {P : Program} {o : Oper} {a : Act} {w : World} (ty : TypeId) (x : Operand) (ho : o.op = .load ty x) (v u : Value) (hx : a.eval x = v) (h : (Instr.loadAt ty v).run P w = .ok u w) : (execOp a.eval o).run P w = .ok (.value u) w := by
  unfold execOp
  simp only [ho, hx, Sem.run_bind, h, Result.andThen_ok, Sem.run_pure]
theorem run_load_row {P : Program} {w : World} (ty t : TypeId) (g : Nat) (cs : Array Value) (hg : Blk w g t cs) (d : TypeDesc) (hu : P.underlying ty = some d) (hd : (match d with | .struct _ | .array _ _ => true | _ => false) = true) (n : Nat) (hi : (P.info? ty).map (·.size) = some n) (hn : cs.size = n) :
    (Instr.loadAt ty (.pointer (some ⟨g, 0, none⟩))).run P w = .ok (.agg cs) w := by
  unfold Instr.loadAt
  simp only [Instr.sureAddr, Sem.run_bind, Sem.run_pure, Result.andThen_ok]
  exact run_loadVar_row w g t ty cs (0, 0) d hg hu hd (by rw [hn]; exact hi)
set_option maxHeartbeats 1000000 in
set_option maxRecDepth 100000 in
theorem decode_any (B : Nat) (f : Nat → BitVec 8) (w : World) (hB : Blk w B 5 (bArr f 64)) :
    Calls Try.prog 29 #[.slice (some ⟨B, 0, none⟩) 64 64] w fun r w' => r = .returned (.tuple #[.agg #[U32 (get32 f 4 4), U32 (get32 f 8 4), .int .i64 (get32 f 12 2).toNat, U8 (f 14), .int .i64 (f 15).toNat, .slice (some ⟨B, 16, none⟩) (min (f 15).toNat 48) 48], .bool (get32 f 0 4 == crc ((List.range 60).map fun i => f (4 + i)))]) ∧ Ch (fun _ => False) w w' := by
  have hlt := hB.lt
  go_enter Try.func29, Try.ntmps29
  have c15 := hB.cell (bArr_get f 64 15 (by omega))
  go_wp2_with fail
  have hV0 : Blk ((w.alloc (.cells #[.slice (some ⟨B, 0, none⟩) 64 64] 56)).alloc (.cells #[.int .u32 0, .int .u32 0, .int .i64 0, .int .u8 0, .int .i64 0, .slice none 0 0] 73)) w.heap.size 56 #[.slice (some ⟨B, 0, none⟩) 64 64] := (Blk.new w 56 _).alloc _
  have hR0 : Blk ((w.alloc (.cells #[.slice (some ⟨B, 0, none⟩) 64 64] 56)).alloc (.cells #[.int .u32 0, .int .u32 0, .int .i64 0, .int .u8 0, .int .i64 0, .slice none 0 0] 73)) (w.heap.size + 1) 73 #[.int .u32 0, .int .u32 0, .int .i64 0, .int .u8 0, .int .i64 0, .slice none 0 0] := by
    have := Blk.new (w.alloc (.cells #[.slice (some ⟨B, 0, none⟩) 64 64] 56)) 73 #[.int .u32 0, .int .u32 0, .int .i64 0, .int .u8 0, .int .i64 0, .slice none 0 0]
    rwa [World.size_alloc] at this
  have hB0 := (hB.alloc (.cells #[.slice (some ⟨B, 0, none⟩) 64 64] 56)).alloc (.cells #[.int .u32 0, .int .u32 0, .int .i64 0, .int .u8 0, .int .i64 0, .slice none 0 0] 73)
  have hc0 : Ch (fun _ => False) w ((w.alloc (.cells #[.slice (some ⟨B, 0, none⟩) 64 64] 56)).alloc (.cells #[.int .u32 0, .int .u32 0, .int .i64 0, .int .u8 0, .int .i64 0, .slice none 0 0] 73)) := ((Ch.refl _ w).alloc _).alloc _
  change Code.wp _ _ _ _ ((w.alloc (.cells #[.slice (some ⟨B, 0, none⟩) 64 64] 56)).alloc (.cells #[.int .u32 0, .int .u32 0, .int .i64 0, .int .u8 0, .int .i64 0, .slice none 0 0] 73))
  generalize ((w.alloc (.cells #[.slice (some ⟨B, 0, none⟩) 64 64] 56)).alloc (.cells #[.int .u32 0, .int .u32 0, .int .i64 0, .int .u8 0, .int .i64 0, .slice none 0 0] 73)) = w1 at *
  have hVR : w.heap.size ≠ w.heap.size + 1 := by omega
  have hBR : B ≠ w.heap.size + 1 := by omega
  have hRw : w.heap.size ≤ w.heap.size + 1 := by omega
  generalize hRg : w.heap.size + 1 = R at *
  clear hRg
  generalize hVg : w.heap.size = V at hV0 hVR ⊢
  have HVG := Lib.hid hVg
  clear c15 hVg
  have gV : ∀ x : Later (fun _ => False) w1, x.val.cell? ⟨V, 0, none⟩ = some (.slice (some ⟨B, 0, none⟩) 64 64) := fun x => x.cell (hV0.cell rfl) id
  have g14 : ∀ x : Later (fun _ => False) w1, x.val.cell? ⟨B, 14, none⟩ = some (U8 (f 14)) := fun x => x.cell (hB0.cell (bArr_get f 64 14 (by omega))) id
  have gl : ((f 15).toNat : Int) ≤ 255 := by have := (f 15).isLt; omega
  refine wp_region_take (late (fun _ => False) w1) 18 [0, 2, 4, 7, 8, 9, 10, 11, 12, 13, 14, 15, 1, 3, 5, 6, 16] [17, 18] (by kernel_rfl) (by kernel_rfl) (late_of (Ch.refl _ w1).drew) ?_
  simp only [List.map_cons, List.map_nil, Array.getD_eq_getD_getElem?, List.getElem?_toArray, List.getElem?_cons_zero, List.getElem?_cons_succ, Option.getD_some]
  refine wpTake_seg 12 (by kernel_rfl) ?_
  simp only [List.take_succ_cons, List.take_zero, List.drop_succ_cons, List.drop_zero]
  unfold late
  repeat (go_big_quiet_step (fail))
  refine wpQuiet_nil ?_
  refine wpTake_call (by rfl) 46 #[.int .i64 4, .int .i64 4, .pointer (some ⟨V, 0, none⟩)] (U32 (get32 f 4 4)) ?_ ?_ ?_
  · rintro _ ⟨x, rfl⟩
    go_simp
  · rintro _ ⟨x, rfl⟩
    exact get_any V B f 4 4 x.val (gV x) (x.ch.blk hB0 id) (by omega) (by omega)
  refine wpTake_call (by rfl) 46 #[.int .i64 8, .int .i64 4, .pointer (some ⟨V, 0, none⟩)] (U32 (get32 f 8 4)) ?_ ?_ ?_
  · rintro _ ⟨x, rfl⟩
    go_simp
  · rintro _ ⟨x, rfl⟩
    exact get_any V B f 8 4 x.val (gV x) (x.ch.blk hB0 id) (by omega) (by omega)
  refine wpTake_call (by rfl) 46 #[.int .i64 12, .int .i64 2, .pointer (some ⟨V, 0, none⟩)] (U32 (get32 f 12 2)) ?_ ?_ ?_
  · rintro _ ⟨x, rfl⟩
    go_simp
  · rintro _ ⟨x, rfl⟩
    exact get_any V B f 12 2 x.val (gV x) (x.ch.blk hB0 id) (by omega) (by omega)
  simp only [Act.put, List.setIfInBounds_toArray, List.set_cons_succ, List.set_cons_zero]
  have hmin : ((16 + if 48 < ((f 15).toNat : Int) then (48 : Int) else ((f 15).toNat : Int)).toNat - 16) = min (f 15).toNat 48 := by
    split <;> omega
  rw [hmin]
  clear hmin
  generalize (if 48 < ((f 15).toNat : Int) then (48 : Int) else ((f 15).toNat : Int)) = q
  refine wpTake_seg 2 (by kernel_rfl) ?_
  simp only [List.take_succ_cons, List.take_zero, List.drop_succ_cons, List.drop_zero]
  repeat (go_big_quiet_step (fail))
  refine wpQuiet_nil ?_
  refine wpTake_nil ?_
  refine wpRest_cons rfl ?_
  go_wp2_with fail
  refine ⟨fun _ => late_of ((Ch.refl _ w1).alloc _).drew, ?_⟩
  refine wpRest_list _ _ _ (by decide) ?_
  simp only [List.map_cons, List.map_nil, Array.getD_eq_getD_getElem?, List.getElem?_toArray, List.getElem?_cons_zero, List.getElem?_cons_succ, Option.getD_some]
  go_wp2_with fail
  refine NoPanic.normal ?_
  rename_i hK
  refine hK _ _ ?_
  clear hK gV g14
  have hA0 := (Blk.new w1 73 #[U32 (get32 f 4 4), U32 (get32 f 8 4), .int .i64 (get32 f 12 2).toNat, U8 (f 14), .int .i64 (f 15).toNat, .slice (some ⟨B, 16, none⟩) (min (f 15).toNat 48) 48]).drew
  have hc1 := ((Ch.refl (fun _ => False) w1).alloc (.cells #[U32 (get32 f 4 4), U32 (get32 f 8 4), .int .i64 (get32 f 12 2).toNat, U8 (f 14), .int .i64 (f 15).toNat, .slice (some ⟨B, 16, none⟩) (min (f 15).toNat 48) 48] 73)).drew
  have hAR : w1.heap.size ≠ R := by have := hR0.lt; omega
  change Code.wp _ _ _ _ (w1.alloc (.cells #[U32 (get32 f 4 4), U32 (get32 f 8 4), .int .i64 (get32 f 12 2).toNat, U8 (f 14), .int .i64 (f 15).toNat, .slice (some ⟨B, 16, none⟩) (min (f 15).toNat 48) 48] 73)).drew
  generalize (w1.alloc (.cells #[U32 (get32 f 4 4), U32 (get32 f 8 4), .int .i64 (get32 f 12 2).toNat, U8 (f 14), .int .i64 (f 15).toNat, .slice (some ⟨B, 16, none⟩) (min (f 15).toNat 48) 48] 73)).drew = w2 at *
  generalize w1.heap.size = A at *
  have hB2 := hc1.blk hB0 id
  have hV2 := hc1.blk hV0 id
  have hR2 := hc1.blk hR0 id
  have hcw2 := hc0.trans hc1 (fun _ _ e => e)
  clear hc1 hB0 hV0 hR0 hc0
  have gV : ∀ x : Later (· = R) w2, x.val.cell? ⟨V, 0, none⟩ = some (.slice (some ⟨B, 0, none⟩) 64 64) := fun x => x.cell (hV2.cell rfl) hVR
  go_wp2_with fail
  refine wp_region_take (late (· = R) w2) 8 [0, 1, 3, 4, 2, 5, 6] [7, 8] (by kernel_rfl) (by kernel_rfl) (late_of (Ch.refl _ w2).drew) ?_
  simp only [List.map_cons, List.map_nil, Array.getD_eq_getD_getElem?, List.getElem?_toArray, List.getElem?_cons_zero, List.getElem?_cons_succ, Option.getD_some]
  refine wpTake_val (by rfl) (.agg #[U32 (get32 f 4 4), U32 (get32 f 8 4), .int .i64 (get32 f 12 2).toNat, U8 (f 14), .int .i64 (f 15).toNat, .slice (some ⟨B, 16, none⟩) (min (f 15).toNat 48) 48]) ?_ ?_
  · rintro _ ⟨x, rfl⟩
    exact run_exec_load 73 (.tmp 6) rfl _ _ rfl (run_load_row 73 73 A _ (x.blk hA0 hAR) _ Try.underlying73 rfl 6 info73 rfl)
  simp only [Act.put, List.setIfInBounds_toArray, List.set_cons_succ, List.set_cons_zero]
  refine wpTake_seg 3 (by kernel_rfl) ?_
  simp only [List.take_succ_cons, List.take_zero, List.drop_succ_cons, List.drop_zero]
  unfold late
  repeat (go_big_quiet_step (fail))
  refine wpQuiet_nil ?_
  refine wpTake_call (by rfl) 46 #[.int .i64 0, .int .i64 4, .pointer (some ⟨V, 0, none⟩)] (U32 (get32 f 0 4)) ?_ ?_ ?_
  · rintro _ ⟨x, rfl⟩
    go_simp
  · rintro _ ⟨x, rfl⟩
    exact get_any V B f 0 4 x.val (gV x) (x.ch.blk hB2 hBR) (by omega) (by omega)
  refine wpTake_call (by rfl) 47 #[.slice (some ⟨B, 4, none⟩) 60 60] (U32 (crc ((List.range 60).map fun i => f (4 + i)))) ?_ ?_ ?_
  · rintro _ ⟨x, rfl⟩
    go_simp
  · rintro _ ⟨x, rfl⟩
    have hcall := sum_any ((List.range 60).map fun i => f (4 + i)) (some ⟨B, 4, none⟩) 60 x.val (fun _ => ⟨B, 4, rfl, id, fun j y hy => by
      have hj : j < 60 := by
        have := (List.getElem?_eq_some_iff.1 hy).1
        simpa using this
      rw [List.getElem?_map, List.getElem?_range hj] at hy
      injection hy with hy
      rw [← hy]
      exact (x.ch.blk hB2 hBR).cell (bArr_get f 64 (4 + j) (by omega))⟩) (by simp)
    rw [List.length_map, List.length_range] at hcall
    exact hcall
  generalize hcs : crc ((List.range 60).map fun i => f (4 + i)) = cs
  have HCS := Lib.hid hcs
  clear hcs
  simp only [Act.put, List.setIfInBounds_toArray, List.set_cons_succ, List.set_cons_zero]
  refine wpTake_seg 1 (by kernel_rfl) ?_
  simp only [List.take_succ_cons, List.take_zero, List.drop_succ_cons, List.drop_zero]
  repeat (go_big_quiet_step (fail))
  refine wpQuiet_nil ?_
  refine wpTake_nil ?_
  refine wpRest_cons rfl ?_
  refine wpList_store_blk rfl 73 (.tmp 2) (.tmp 29) rfl R _ rfl rfl 73 _ hR2.drew 6 info73 rfl rfl (by simp [Value.oneCell', U32, U8]) ?_
  intro w3 hR3 hc3
  refine ⟨fun _ => late_of ((Ch.refl _ w2).drew.trans hc3 (fun _ _ e => e)), ?_⟩
  refine wpRest_list _ _ _ (by decide) ?_
  simp only [List.map_cons, List.map_nil, Array.getD_eq_getD_getElem?, List.getElem?_toArray, List.getElem?_cons_zero, List.getElem?_cons_succ, Option.getD_some, Act.put, List.setIfInBounds_toArray]
  go_wp2_with fail
  refine NoPanic.normal ?_
  rename_i hK
  refine hK _ _ ?_
  clear hK gV
  go_wp2_with fail
  refine bodyPost_ret (results_cell_slot rfl _ _ R 73 _ _ _ rfl rfl hR3 Try.underlying73 rfl 6 info73 rfl) rfl ⟨?_, ?_⟩
  · rw [HCS.out]
    rfl
  · have hVg := HVG.out
    subst hVg
    exact hcw2.trans (((Ch.refl _ w2).drew (S := (· = R))).trans hc3 (fun _ _ e => e)) (fun i hi e => by have e' : i = R := e; omega)
end Go.Proofs.Ytjhnkpohdlilpaa
