/-
  The law ShaKeys: append of zeros, the walk.
-/
import Derived.Test.YtnnffibnonkocaaDoorLawsA
import Derived.Test.YtnnffibnonkocaaDoorRefMac
import Derived.Test.YtnnffibnonkocaaDoorAwake
import Derived.Stop.BytesEq
import Derived.Lib.QuietBelow
import Derived.Test.YtnnffibnonkocaaDoorRefSum
import Derived.Test.YtnnffibnonkocaaDoorRefWords
import Derived.Test.YtnnffibnonkocaaDoorPadded
import Derived.Test.YtnnffibnonkocaaDoorSum
import Derived.RangeFuncNested
import Derived.RangeFuncBound
import Derived.RangeFuncCalls
import Derived.RangeFuncLeaves
import Derived.Shelf.Abstract
import Derived.Shelf.RegionOpen
import Derived.WalkKit
import Derived.OwnWalkIn
import Derived.TacticsInMore
import Derived.LoopNIn
import Derived.LoopIn
import Derived.WalkSpells
import Derived.WalkLawsBesides
import Derived.Lib.Hide
import Derived.BigQuiet
namespace Go.Proofs.YtnnffibnonkocaaDoor
open Go.RowKit Go.Shelf
attribute [local go_sem] Oper.semAt_some
theorem run_append_zeros_own {P : Program} (w : World) (base : Nat) (t ty e xt : TypeId) (i : TypeInfo) (k : IntKind) (ht : P.underlying t = some (.slice e)) (hxt : P.underlying xt = some (.int k)) (hi : P.info? e = some i) (hz : i.zero = some (.int .u8 0))
    (hsize : i.size = 1) (hby : i.bytes = 1)
    (v : Value) (n : Nat) (xs : List Value) (hown : w.ownsRow base e 1 v n xs)
    (m : Nat) (hv : v = .slice none 0 0 → 0 < m) (h63 : n + m ≤ 140737488355328) (hbase : base ≤ w.heap.size) :
    ∃ v' w', (Builtin.append_ #[t, xt] ty #[v, .int .i64 m]).run P w = .ok v' w' ∧ w'.ownsRow base e 1 v' (n + m) (xs ++ List.replicate m (.int .u8 0)) ∧ w.grownBy w' v.ownBlock := by
  have hzc : Builtin.zeroCells (Value.cells (.int .u8 0)) m = (List.replicate m (Value.int .u8 0)).toArray := by
    apply Array.ext_getElem?
    intro j
    simp only [Builtin.zeroCells, Value.cells]
    by_cases hj : j < m
    · simp [hj, Nat.mod_one]
    · simp [hj]
  have hw : IntKind.i64.wrap (m : Int) = m := IntWalk.i64_in _ (by omega)
  have m0 : ¬ (m : Int) < 0 := by omega
  have m1 : ¬ (281474976710656 < (m : Int)) := by omega
  have hw0 : IntKind.i64.wrap 0 = 0 := by decide
  have hlen : (xs ++ List.replicate m (Value.int .u8 0)).length = n + m := by rw [List.length_append, hown.1]; simp
  rcases hown.2 with ⟨rfl, rfl⟩ | ⟨g, cap, cur, rfl, hbg, hg, hnc, hcm, hcs, htake⟩
  · obtain rfl : xs = [] := List.eq_nil_of_length_eq_zero (by simpa using hown.1)
    have hmp := hv rfl
    have h0 : m ≠ 0 := by omega
    have hge := grownCap_ge w m 0 e
    have hcm2 : grownCap w m 0 e ≤ maxLen := grownCap_le_maxLen w m 0 e (by unfold maxLen; omega)
    have h48 := growslice_fits (need := m) (old := 0) (bytes := 1) (by omega) (by omega)
    refine ⟨.slice (some ⟨w.heap.size, 0, none⟩) (0 + m) (grownCap w m 0 e), w.drew.alloc (.cells ((List.replicate m (Value.int .u8 0)).toArray ++ Builtin.zeroCells (Value.cells (.int .u8 0)) (grownCap w m 0 e - m)) e), ?_,
      ⟨hlen.trans (Nat.mul_one _).symm, .inr ⟨w.heap.size, _, _, rfl, hbase, heap_alloc_new w.drew _, by omega, hcm2, ?_, ?_⟩⟩, ⟨rfl, rfl, rfl, by simp, fun k hk _ => Below.heap_alloc w.drew _ _ hk⟩⟩
    · have h63' : ¬ (9223372036854775807 < (m : Int)) := by omega
      have h48' : ¬ (281474976710656 < Builtin.nextslicecap m 0) := by omega
      simp [Builtin.append_, run_underlying ht, run_underlying hxt, sizeOf, typeInfo, zeroValue, hi, hz, hsize, hby, asInt, asIntOf, hw, h63', h48', hzc, h0, m0, m1, Question.forced, newRow, grownCap, Builtin.firstCells]
    · simp [Builtin.zeroCells, Value.cells]; omega
    · simp only [Nat.mul_one, Nat.zero_add, Array.toList_append, List.nil_append]
      exact List.take_left' (by simp)
  · by_cases hroom : n + m ≤ cap
    · have hst := run_storeCells_at P g n e (List.replicate m (.int .u8 0)) 0 cur w hg (by simp; omega) (fun u hu => by rw [List.eq_of_mem_replicate hu]; rfl)
      simp only [Nat.add_zero] at hst
      refine ⟨.slice (some ⟨g, 0, none⟩) (n + m) cap, _, ?_, ⟨hlen.trans (Nat.mul_one _).symm, .inr ⟨g, cap, _, rfl, hbg, setRow_heap w g cur (cur.toList.take n ++ List.replicate m (Value.int .u8 0) ++ cur.toList.drop (n + (List.replicate m (Value.int .u8 0)).length)).toArray e _ hg, hroom, hcm, ?_, ?_⟩⟩, ⟨rfl, rfl, rfl, by simp, fun k _ hk => setRow_other w g k _ (fun e => hk (by simp [Value.ownBlock, e]))⟩⟩
      · by_cases h0 : m = 0
        · subst h0
          simp [Builtin.append_, run_underlying ht, run_underlying hxt, sizeOf, typeInfo, hi, hsize, hby, asInt, asIntOf, hw0, hnc, Addr.add_lit, (show (storeCells ⟨g, n, none⟩ []).run P w = .ok () (w.setRow g cur) by simpa using hst)]
        · simp [Builtin.append_, run_underlying ht, run_underlying hxt, sizeOf, typeInfo, zeroValue, hi, hz, hsize, hby, asInt, asIntOf, hw, hroom, hzc, h0, m0, m1, Addr.add_lit, (show (storeCells ⟨g, n, none⟩ (List.replicate m (Value.int .u8 0))).run P w = _ by simpa using hst)]
      · simp; omega
      · rw [Nat.mul_one] at htake
        rw [htake, Nat.mul_one, ← hlen]
        exact List.take_left
    · have hge := grownCap_ge w (n + m) cap e
      have hcm2 : grownCap w (n + m) cap e ≤ maxLen := grownCap_le_maxLen w (n + m) cap e (by unfold maxLen; omega)
      have holds : ∀ j u, xs[j]? = some u → w.cell? ((⟨g, 0, none⟩ : Addr).add j) = some u := hown.cells (g := g) rfl
      have hfo := run_firstCells_some (P := P) w.drew 1 n ⟨g, 0, none⟩ n cap xs hown.1 (by simpa using holds)
      have h48 := growslice_fits (need := n + m) (old := cap) (bytes := 1) (by omega) (by omega)
      refine ⟨.slice (some ⟨w.heap.size, 0, none⟩) (n + m) (grownCap w (n + m) cap e), w.drew.alloc (.cells (xs.toArray ++ (List.replicate m (Value.int .u8 0)).toArray ++ Builtin.zeroCells (Value.cells (.int .u8 0)) (grownCap w (n + m) cap e - (n + m))) e), ?_,
        ⟨hlen.trans (Nat.mul_one _).symm, .inr ⟨w.heap.size, _, _, rfl, hbase, heap_alloc_new w.drew _, hge, hcm2, ?_, ?_⟩⟩, ⟨rfl, rfl, rfl, by simp, fun k hk _ => Below.heap_alloc w.drew _ _ hk⟩⟩
      · have h0 : m ≠ 0 := by omega
        have hn : ¬ (n + m ≤ cap) := hroom
        have h63' : ¬ (9223372036854775807 < ((n : Int) + (m : Int))) := by omega
        have h48' : ¬ (281474976710656 < Builtin.nextslicecap (n + m) cap) := by omega
        simp [Builtin.append_, run_underlying ht, run_underlying hxt, sizeOf, typeInfo, zeroValue, hi, hz, hsize, hby, asInt, asIntOf, hw, hn, h63', h48', hzc, h0, m0, m1, Question.forced, hfo, newRow, grownCap]
      · simp [Builtin.zeroCells, Value.cells, hown.1]; omega
      · rw [Nat.mul_one]
        simp only [Array.toList_append, List.append_assoc]
        rw [← List.append_assoc, ← hlen]
        exact List.take_left
/-- 's = append(s, make([]byte, m)...)', s the call's own and not nil -/
theorem wpList_append_zeros {ops : Array Oper} {rest : List Oper} {o : Oper} {a : Act} {w : World} {Q : Exit → Act → World → Prop} (hgd : o.guard = none) (s x : Operand)
    (ho : o.op = .call { callee := .builtin .append, args := #[s, x], argTypes := #[22, 3] }) (base : Nat) (v : Value) (l : List (BitVec 8)) (hs : a.eval s = v) (hown : BOwn w base v l)
    (m : Nat) (hv : v = .slice none 0 0 → 0 < m) (hx : a.eval x = .int .i64 m) (n : Nat) (hn : n = l.length + m) (hb : n ≤ 140737488355328) (hbase : base ≤ w.heap.size)
    (h : ∀ a' c' w', BOwn w' base (.slice a' n c') (l ++ List.replicate m 0) → Ch (fun i => v.ownBlock = some i) w w' → wpList Tryd.prog ops Q rest (a.put o.dst (.slice a' n c')) w') : wpList Tryd.prog ops Q (o :: rest) a w := by
  obtain ⟨i0, hi, hz0, hz1, hz2⟩ := info_parts info5
  have hlen : (l ++ List.replicate m (0 : BitVec 8)).length = n := by rw [List.length_append, hn]; simp
  obtain ⟨v', w', hr, h2, h3⟩ := run_append_zeros_own (P := Tryd.prog) w base 22 o.type 5 3 i0 .i64 Tryd.underlying22 Tryd.underlying3 hi hz0 hz1 hz2 v l.length (l.map U8) hown m hv (by omega) hbase
  refine wpList_plain hgd fun _ hK => ?_
  unfold Oper.wp execOp
  simp only [ho, resolve, invoke, builtin, Sem.run_bind, Sem.run_pure, Result.andThen_ok, List.map_toArray, List.map_cons, List.map_nil, hs, hx, hr]
  have hown2 : BOwn w' base v' (l ++ List.replicate m 0) := by
    unfold BOwn
    rw [List.length_append, List.map_append, List.length_replicate, List.map_replicate]; exact h2
  obtain ⟨a1, c1, hv', _⟩ := hown2.shape
  subst hv'
  rw [hlen] at hown2
  have := h a1 c1 w' hown2 ((Ch.refl _ w).grown h3 (fun k e => Or.inr e))
  rw [hlen]
  exact hK _ _ this

theorem hmac_long (ks xs : List (BitVec 8)) (h : 64 < ks.length) : hmac (shaKey ks) xs = hmac ks xs := by
  have e : keyOf (shaKey ks) = keyOf ks := by
    rw [keyOf, if_neg (by rw [shaKey_length]; omega), keyOf, if_pos h]
  unfold hmac keyBlock
  rw [e]
theorem hmac_pad (ks xs : List (BitVec 8)) (h : ks.length ≤ 64) : hmac (ks ++ List.replicate (64 - ks.length) 0) xs = hmac ks xs := by
  have e : ∀ b, keyBlock (ks ++ List.replicate (64 - ks.length) 0) b = keyBlock ks b := fun b => by
    unfold keyBlock
    rw [keyOf, if_neg (by simp; omega), keyOf, if_neg (by omega)]
    refine List.map_congr_left fun i _ => ?_
    unfold keyByte
    rw [padKey_get]
  unfold hmac
  rw [e, e]

theorem Src.digest {w : World} {B : Nat} {t : TypeId} {M : List (BitVec 8)} (hS : Blk w B t (bArr (sha M) 32)) : Src (fun _ => False) w (some ⟨B, 0, none⟩) (shaKey M) := fun _ =>
  ⟨B, 0, rfl, id, fun j y hj => by
    have hj32 : j < 32 := by
      have := (List.getElem?_eq_some_iff.1 hj).1
      rwa [shaKey_length] at this
    rw [shaKey_get M j hj32] at hj
    cases hj
    rw [Nat.zero_add]
    exact hS.cell (bArr_get _ _ _ hj32)⟩

theorem wpList_load_blk_g {P : Program} {ops : Array Oper} {rest : List Oper} {o : Oper} {a : Act} {w : World} {Q : Exit → Act → World → Prop} (hw : Region.wanted o (yielded ops a.tmps) = true) (ty : TypeId) (x : Operand) (ho : o.op = .load ty x)
    (g : Nat) (hx : a.eval x = .pointer (some ⟨g, 0, none⟩)) (cs : Array Value) (d : TypeDesc) (t : TypeId) (hg : Blk w g t cs)
    (hu : P.underlying ty = some d) (hd : (match d with | .struct _ | .array _ _ => true | _ => false) = true) (n : Nat) (hi : (P.info? ty).map (·.size) = some n) (hn : cs.size = n)
    (h : wpList P ops Q rest (a.put o.dst (.agg cs)) w) : wpList P ops Q (o :: rest) a w :=
  BigFrame.wpList_want hw fun _ hK => wp_load_row ty x ho g hx t cs (0, 0) d hg hu hd (by rw [hn]; exact hi) (hK _ _ h)
theorem wpList_val_g {P : Program} {ops : Array Oper} {rest : List Oper} {o : Oper} {a : Act} {w : World} {Q : Exit → Act → World → Prop} (hw : Region.wanted o (yielded ops a.tmps) = true) (u : Value)
    (hr : (execOp a.eval o).run P w = .ok (.value u) w) (h : wpList P ops Q rest (a.put o.dst u) w) : wpList P ops Q (o :: rest) a w :=
  BigFrame.wpList_want hw fun _ hK => by
    unfold Oper.wp
    rw [hr]
    exact hK _ _ h

set_option maxHeartbeats 2000000 in
set_option maxRecDepth 100000 in
theorem law6_long (ks xs : List (BitVec 8)) (a0 a1 : Option Addr) (c0 c1 : Nat) (w : World) (hL : Laid w) (hc0 : ks.length ≤ c0) (hs : Src (fun _ => False) w a0 ks) (hn : ks.length ≤ 140737488355200)
    (hc1 : xs.length ≤ c1) (hs1 : Src (fun _ => False) w a1 xs) (hn1 : xs.length ≤ 140737488355136) (hlen : 64 < ks.length) :
    Calls Tryd.prog 6 #[.slice a0 ks.length c0, .slice a1 xs.length c1] w fun e w' => e = .returned (.bool true) ∧ Ch (fun _ => False) w w' := by
  have z24 : ∀ w : World, (zeroValue 24).run Tryd.prog w = .ok (.agg (bArr (fun _ => 0) 32)) w := fun w => by kernel_rfl
  have g64 : (64 : Int) < ks.length := by omega
  go_enter Tryd.func6, Tryd.ntmps6
  go_wp2_with fail
  refine (awake_any w hL).mono ?_
  rintro e w1 ⟨rfl, hcw1⟩
  have hL1 := hL.ch hcw1 (fun _ e => e.elim)
  go_wp2_with fail
  refine (mac_any ks xs a0 a1 c0 c1 w1 hL1 hc0 (hs.ch hcw1 (fun _ e => e)) (by omega) hc1 (hs1.ch hcw1 (fun _ e => e)) (by omega)).mono ?_
  rintro e w2 ⟨rfl, hc2⟩
  have hcw2 := hcw1.trans hc2 (fun _ _ e => e)
  clear hcw1 hc2 hL1
  go_wp2_with (refine wpList_store_blk rfl 24 (.tmp 6) (.tmp 14) rfl w2.heap.size (bArr (hmac ks xs) 32) rfl rfl 24 (bArr (fun _ => 0) 32) (Blk.new w2 24 (bArr (fun _ => 0) 32)) 32 (by kernel_rfl) (bArr_size _ _) (bArr_size _ _) (oneCell_bArr _ _) ?_; intro w3 hX hc3')
  have hcw3 : Ch (fun _ => False) w w3 := (hcw2.alloc _).trans hc3' (fun i hi e => by have e' : i = w2.heap.size := e; have := hcw2.size; omega)
  have hXl := hX.lt
  clear hc3' hcw2
  generalize w2.heap.size = X at *
  refine (shaSum_any ks a0 c0 w3 (hL.ch hcw3 (fun _ e => e.elim)) hc0 (hs.ch hcw3 (fun _ e => e)) (by omega)).mono ?_
  rintro e w4 ⟨rfl, hc4⟩
  have hcw4 := hcw3.trans hc4 (fun _ _ e => e)
  have hX4 := hc4.blk hX id
  clear hcw3 hc4 hX
  go_wp2_with (refine wpList_store_blk rfl 24 (.tmp 7) (.tmp 19) rfl w4.heap.size (bArr (sha ks) 32) rfl rfl 24 (bArr (fun _ => 0) 32) (Blk.new w4 24 (bArr (fun _ => 0) 32)) 32 (by kernel_rfl) (bArr_size _ _) (bArr_size _ _) (oneCell_bArr _ _) ?_; intro w5 hS hc5')
  have hcw5 : Ch (fun _ => False) w w5 := (hcw4.alloc _).trans hc5' (fun i hi e => by have e' : i = w4.heap.size := e; have := hcw4.size; omega)
  have hX5 := hc5'.blk (hX4.alloc _) (fun e => by have e' : X = w4.heap.size := e; have := hX4.lt; omega)
  clear hc5' hcw4 hX4
  generalize w4.heap.size = S at *
  have hcall := mac_any (shaKey ks) xs (some ⟨S, 0, none⟩) a1 32 c1 w5 (hL.ch hcw5 (fun _ e => e.elim)) (by rw [shaKey_length]; omega) (Src.digest hS) (by rw [shaKey_length]; omega) hc1 (hs1.ch hcw5 (fun _ e => e)) (by omega)
  rw [shaKey_length, hmac_long ks xs hlen] at hcall
  refine hcall.mono ?_
  clear hcall
  rintro e w6 ⟨rfl, hc6⟩
  have hcw6 := hcw5.trans hc6 (fun _ _ e => e)
  have hX6 := hc6.blk hX5 id
  clear hcw5 hX5 hc6 hS
  generalize hmac ks xs = F at *
  go_wp2_with (first
    | (refine wpList_store_blk rfl 24 (.tmp 8) (.tmp 22) rfl w6.heap.size (bArr F 32) rfl rfl 24 (bArr (fun _ => 0) 32) (Blk.new w6 24 (bArr (fun _ => 0) 32)) 32 (by kernel_rfl) (bArr_size _ _) (bArr_size _ _) (oneCell_bArr _ _) ?_; intro w7 hY hc7'; have hX7 := hc7'.blk (hX6.alloc _) (fun e => by have e' : X = w6.heap.size := e; have := hX6.lt; omega))
    | refine wpList_load_blk_g (by rfl) 24 (.tmp 6) rfl X rfl (bArr F 32) _ 24 hX7 Tryd.underlying24 rfl 32 (by kernel_rfl) (bArr_size _ _) ?_
    | refine wpList_load_blk_g (by rfl) 24 (.tmp 8) rfl w6.heap.size rfl (bArr F 32) _ 24 hY Tryd.underlying24 rfl 32 (by kernel_rfl) (bArr_size _ _) ?_
    | refine wpList_val_g (by rfl) (.bool true) (eql_run F (.tmp 25) (.tmp 26) rfl rfl rfl _) ?_)
  have hcw7 : Ch (fun _ => False) w w7 := (hcw6.alloc _).trans hc7' (fun i hi e => by have e' : i = w6.heap.size := e; have := hcw6.size; omega)
  go_ret
  exact ⟨rfl, hcw7⟩
set_option maxHeartbeats 2000000 in
set_option maxRecDepth 100000 in
theorem law6_short (ks xs : List (BitVec 8)) (a0 a1 : Option Addr) (c0 c1 : Nat) (w : World) (hL : Laid w) (hc0 : ks.length ≤ c0) (hs : Src (fun _ => False) w a0 ks) (hn : ks.length ≤ 140737488355200)
    (hc1 : xs.length ≤ c1) (hs1 : Src (fun _ => False) w a1 xs) (hn1 : xs.length ≤ 140737488355136) (hlen : ks.length ≤ 64) (hnil : a0 = none → c0 = 0) :
    Calls Tryd.prog 6 #[.slice a0 ks.length c0, .slice a1 xs.length c1] w fun e w' => e = .returned (.bool true) ∧ Ch (fun _ => False) w w' := by
  have z24 : ∀ w : World, (zeroValue 24).run Tryd.prog w = .ok (.agg (bArr (fun _ => 0) 32)) w := fun w => by kernel_rfl
  have g64 : ¬ (64 : Int) < ks.length := by omega
  have g64' : (ks.length : Int) ≤ 64 := by omega
  have HN := Lib.hid hnil
  clear hnil
  go_enter Tryd.func6, Tryd.ntmps6
  go_wp2_with fail
  refine (awake_any w hL).mono ?_
  rintro e w1 ⟨rfl, hcw1⟩
  have hL1 := hL.ch hcw1 (fun _ e => e.elim)
  go_wp2_with fail
  refine (mac_any ks xs a0 a1 c0 c1 w1 hL1 hc0 (hs.ch hcw1 (fun _ e => e)) (by omega) hc1 (hs1.ch hcw1 (fun _ e => e)) (by omega)).mono ?_
  rintro e w2 ⟨rfl, hc2⟩
  have hcw2 := hcw1.trans hc2 (fun _ _ e => e)
  clear hcw1 hc2 hL1
  go_wp2_with (first | (refine wpList_store_blk rfl 24 (.tmp 6) (.tmp 14) rfl w2.heap.size (bArr (hmac ks xs) 32) rfl rfl 24 (bArr (fun _ => 0) 32) (Blk.new w2 24 (bArr (fun _ => 0) 32)) 32 (by kernel_rfl) (bArr_size _ _) (bArr_size _ _) (oneCell_bArr _ _) ?_; intro w3 hX hc3'; have hcw3 : Ch (fun _ => False) w w3 := (hcw2.alloc _).trans hc3' (fun i hi e => by have e' : i = w2.heap.size := e; have := hcw2.size; omega); have hm3 := BOwn.made w3; have hw64 : IntKind.i64.wrap (64 - (ks.length : Int)) = ((64 - ks.length : Nat) : Int) := by rw [IntWalk.i64_in _ (by omega)]; omega) | (refine wpList_append_bytes rfl (.tmp 29) (.tmp 30) rfl w3.heap.size (.slice (some ⟨w3.heap.size, 0, none⟩) 0 0) [] rfl hm3 ks a0 ks.length c0 rfl rfl HN.out (hs.ch (hcw3.alloc _) (fun _ e => e)) ks.length (by simp) (by omega) (by simp) ?_; intro a4 c4 w4 hown4 hc4) | (refine wpList_append_zeros rfl (.tmp 31) (.tmp 34) rfl w3.heap.size (.slice a4 ks.length c4) ([] ++ ks) rfl hown4 (64 - ks.length) (fun e => by injection e with _ e _; omega) (by first | rfl | (show Value.int _ _ = _; rw [← hw64])) 64 (by simp; omega) (by omega) (by have := hc4.size; rw [World.size_alloc] at this; omega) ?_; intro a5 c5 w5 hown5 hc5))
  have hcw3 : Ch (fun _ => False) w w3 := (hcw2.alloc _).trans hc3' (fun i hi e => by have e' : i = w2.heap.size := e; have := hcw2.size; omega)
  have hXl := hX.lt
  clear hc3' hcw2
  have lw3 := hcw3.size
  have hXl := hX.lt
  have hc34 : Ch (fun i => w3.heap.size ≤ i) w3 w4 := ((Ch.refl _ w3).alloc _).trans hc4 (fun i hi e => by have e' : some w3.heap.size = some i := e; injection e' with e'; omega)
  have hc35 : Ch (fun i => w3.heap.size ≤ i) w3 w5 := hc34.trans hc5 (fun i hi e => hown4.block_le i e)
  have hcw5 : Ch (fun _ => False) w w5 := hcw3.trans hc35 (fun i hi e => by omega)
  have hX5 := hc35.blk hX (fun e => by omega)
  clear hc34 hc35 hc4 hc5 hown4 hm3 hcw3 hX
  rw [List.nil_append] at hown5
  have hl5 : (ks ++ List.replicate (64 - ks.length) (0 : BitVec 8)).length = 64 := by simp; omega
  obtain ⟨a5', c5', he5, hle5, -, hsrc5⟩ := hown5.shape
  rw [hl5] at he5 hle5
  injection he5 with e1 _ e2
  subst e1 e2
  have hcall := mac_any (ks ++ List.replicate (64 - ks.length) 0) xs a5 a1 c5 c1 w5 (hL.ch hcw5 (fun _ e => e.elim)) (by rw [hl5]; exact hle5) (hsrc5.mono (fun _ e => e.elim)) (by rw [hl5]; omega) hc1 (hs1.ch hcw5 (fun _ e => e)) (by omega)
  rw [hl5, hmac_pad ks xs hlen] at hcall
  refine hcall.mono ?_
  clear hcall hsrc5 hown5
  generalize w2.heap.size = X at *
  rintro e w6 ⟨rfl, hc6⟩
  have hcw6 := hcw5.trans hc6 (fun _ _ e => e)
  have hX6 := hc6.blk hX5 id
  clear hcw5 hX5 hc6
  generalize hmac ks xs = F at *
  go_wp2_with (first
    | (refine wpList_store_blk rfl 24 (.tmp 10) (.tmp 38) rfl w6.heap.size (bArr F 32) rfl rfl 24 (bArr (fun _ => 0) 32) (Blk.new w6 24 (bArr (fun _ => 0) 32)) 32 (by kernel_rfl) (bArr_size _ _) (bArr_size _ _) (oneCell_bArr _ _) ?_; intro w7 hY hc7'; have hX7 := hc7'.blk (hX6.alloc _) (fun e => by have e' : X = w6.heap.size := e; have := hX6.lt; omega))
    | refine wpList_load_blk_g (by rfl) 24 (.tmp 6) rfl X rfl (bArr F 32) _ 24 hX7 Tryd.underlying24 rfl 32 (by kernel_rfl) (bArr_size _ _) ?_
    | refine wpList_load_blk_g (by rfl) 24 (.tmp 10) rfl w6.heap.size rfl (bArr F 32) _ 24 hY Tryd.underlying24 rfl 32 (by kernel_rfl) (bArr_size _ _) ?_
    | refine wpList_val_g (by rfl) (.bool true) (eql_run F (.tmp 41) (.tmp 42) rfl rfl rfl _) ?_)
  have hcw7 : Ch (fun _ => False) w w7 := (hcw6.alloc _).trans hc7' (fun i hi e => by have e' : i = w6.heap.size := e; have := hcw6.size; omega)
  go_ret
  exact ⟨rfl, hcw7⟩
theorem law6_any (ks xs : List (BitVec 8)) (a0 a1 : Option Addr) (c0 c1 : Nat) (w : World) (hL : Laid w) (hc0 : ks.length ≤ c0) (hnil : a0 = none → c0 = 0) (hs : Src (fun _ => False) w a0 ks) (hn : ks.length ≤ 140737488355200)
    (hc1 : xs.length ≤ c1) (hs1 : Src (fun _ => False) w a1 xs) (hn1 : xs.length ≤ 140737488355136) :
    Calls Tryd.prog 6 #[.slice a0 ks.length c0, .slice a1 xs.length c1] w fun e w' => e = .returned (.bool true) ∧ Ch (fun _ => False) w w' := by
  by_cases h : ks.length ≤ 64
  · exact law6_short ks xs a0 a1 c0 c1 w hL hc0 hs hn hc1 hs1 hn1 h hnil
  · exact law6_long ks xs a0 a1 c0 c1 w hL hc0 hs hn hc1 hs1 hn1 (by omega)
end Go.Proofs.YtnnffibnonkocaaDoor
