/-
  (*Hash).Write: the walk, and the law of its range over a function.
-/
import Derived.Test.YtnnffibnonkocaaDoorRows
import Derived.Test.YtnnffibnonkocaaDoorBlock
import Derived.Test.YtnnffibnonkocaaDoorIter
import Derived.RangeFuncNested
import Derived.RangeFuncBound
import Derived.RangeFuncCalls
import Derived.RangeFuncLeaves
import Derived.Shelf.Abstract
import Derived.Shelf.RegionOpen
import Derived.WalkKit
import Derived.OwnWalkIn
import Derived.TacticsInMore
import Derived.LoopNIn
import Derived.LoopIn
import Derived.WalkSpells
import Derived.WalkLawsBesides
import Derived.Lib.Hide
import Derived.BigQuiet
namespace Go.Proofs.YtnnffibnonkocaaDoor
open Go.RowKit Go.Shelf
attribute [local go_sem] Oper.semAt_some
theorem Ch.putObj {S : Nat → Prop} {a w : World} (h : Ch S a w) {l : Nat} (hl : a.heap.size ≤ l ∨ S l) (o : Obj) : Ch S a (w.putObj l o) :=
  h.trans (S' := fun i => i = l) ⟨rfl, rfl, rfl, by simp, fun k _ hn => World.putObj_heap_other hn⟩ (fun i hi e => by
    subst e
    exact hl.elim (fun h' => absurd hi (by omega)) id)
theorem Blk.putObj {w : World} {B : Nat} {t : TypeId} {arr : Array Value} (h : Blk w B t arr) {l : Nat} (hl : l ≠ B) (o : Obj) : Blk (w.putObj l o) B t arr :=
  (World.putObj_heap_other (fun e => hl e.symm)).trans h

/-- 'for x := range h.blocks(b)': a loop whose body does a block's work. -/
theorem range_blocks {g : Operand} {ps : Array Tmp} {assign body : Code} {Q : Exit → Act → World → Prop} {a : Act} {w : World} {bb bh B : Nat} (hps : ps.size = 1)
    (hg : a.eval g = .func (.func 23) #[] #[.pointer (some ⟨bb, 0, none⟩), .pointer (some ⟨bh, 0, none⟩)])
    (xs : List (BitVec 8)) (a0 : Option Addr) (c0 : Nat) (s0 : HS) (X : World → Prop) (a₁ : Act)
    (hd1 : bb ≠ bh) (hd2 : bb ≠ B) (hd3 : bh ≠ B)
    (hbb : Blk w bb 22 #[.slice a0 xs.length c0]) (hbh : Blk w bh 32 #[.pointer (some ⟨B, 0, none⟩)]) (hB : Blk w B 50 (hArr s0.h s0.o s0.n)) (hc0 : xs.length ≤ c0)
    (hs : Src (fun i => i = B ∨ i = bb ∨ i = w.heap.size + 1) w a0 xs) (hn : s0.n + xs.length ≤ 4611686018427387904) (hX0 : X w)
    (hX : ∀ (S : Nat → Prop) W W', X W → Ch S W W' → (∀ i, S i → i = B ∨ i = bb ∨ w.heap.size ≤ i) → X W')
    (hassign : ∀ (l : Nat) (W : World) (K : Act → World → Prop), K a₁ W →
      assign.wpIn (Fence.wide.inRound l) 1 Tryd.prog (Exit.then K (fun _ _ _ => False)) { tmps := (ps.zip #[.slice (some ⟨B, 8, none⟩) 64 64]).foldl (fun t (p, v) => t.setIfInBounds p v) a.tmps, defers := [] } W)
    (hbody : ∀ (l : Nat) (W : World) (h : S8) (o : Nat → BitVec 8) (m : Nat), X W → Blk W B 50 (hArr h o m) →
      body.wpIn (Fence.wide.inRound l) 1 Tryd.prog (fun e _ W' => e = .normal ∧ X W' ∧ Blk W' B 50 (hArr (compress h o) o m) ∧ Ch (· = B) W W') a₁ W)
    (hdone : ∀ (D : Nat) (W : World), X W → w.heap.size ≤ D → Blk W B 50 (hArr (s0.write xs).h (s0.write xs).o (s0.write xs).n) → Ch (fun i => i = B ∨ i = bb) w W → W.heap[D]? = some (.deferred (some [])) →
      Q .normal { a with defers := { target := .collected D, args := #[] } :: a.defers } W) :
    (Code.rangeFunc g ps assign body).wpIn Fence.wide 3 Tryd.prog Q a w := by
  refine wpIn_rangeFunc ?_
  intro fn hfn
  have hro : Fence.wide.round = none := rfl
  rw [hro]
  obtain ⟨rec, hrec⟩ : ∃ rec : LoopState → Option Code → Loop, rec = fun st pe => { state := st, pending := pe, fn, tmps := a.tmps, params := ps, assign, body, defers := w.heap.size } := ⟨_, rfl⟩
  obtain ⟨W1, hW1⟩ : ∃ W1, (w.alloc (.deferred (some []))).alloc (.loop (rec .ready none)) = W1 := ⟨_, rfl⟩
  have hL1 : W1.heap[w.heap.size + 1]? = some (.loop (rec .ready none)) := by
    rw [← hW1]; have := World.alloc_heap_new (w.alloc (.deferred (some []))) (.loop (rec .ready none)); rwa [World.size_alloc] at this
  have hK1 : W1.heap[w.heap.size]? = some (.deferred (some [])) := by
    rw [← hW1]; exact (Below.heap_alloc _ _ _ (by simp)).trans (World.alloc_heap_new w _)
  have hch1 : Ch (fun _ => False) w W1 := by rw [← hW1]; exact ((Ch.refl _ w).alloc _).alloc _
  have lbb := hbb.lt
  have lbh := hbh.lt
  have lB := hB.lt
  refine ⟨w.heap.size + 1, [{ target := .collected w.heap.size, args := #[] }], W1, { target := .fn (.func 23) #[.pointer (some ⟨bb, 0, none⟩), .pointer (some ⟨bh, 0, none⟩)], args := #[.func (.yield (w.heap.size + 1)) #[] #[]] }, W1, 23,
    #[.func (.yield (w.heap.size + 1)) #[] #[], .pointer (some ⟨bb, 0, none⟩), .pointer (some ⟨bh, 0, none⟩)], W1, ?_, ?_, fun _ _ => trivial, ?_, fun _ => by omega, ?_⟩
  · rw [← hW1, hrec]; exact run_enterLoop_outer _ _ _ _ _
  · simp only [resolve, hg]
    simp [go_sem]
  · simp [invoke, go_sem]
  · refine (blocks1_any (n := 2) (w.heap.size + 1) bb bh B xs a0 c0 s0 W1
      (fun W => X W ∧ W.heap[w.heap.size + 1]? = some (.loop (rec .ready none)) ∧ W.heap[w.heap.size]? = some (.deferred (some [])))
      ?hJ ?hY hd1 hd2 hd3 (by omega) (by omega) (by omega) (hch1.blk hbb id) (hch1.blk hbh id) (hch1.blk hB id) hc0 (hs.ch hch1 (fun _ e => e.elim)) hn ⟨hX _ _ _ hX0 hch1 (fun _ e => e.elim), hL1, hK1⟩).mono ?fin
    case hJ =>
      rintro W W' ⟨h1, h2, h3⟩ hc
      refine ⟨hX _ _ _ h1 hc (fun i e => by rcases e with e | e; exact Or.inl e; exact Or.inr (Or.inl e)), (hc.block _ (Array.getElem?_eq_some_iff.1 h2).1 (fun e => by omega)).trans h2, (hc.block _ (Array.getElem?_eq_some_iff.1 h3).1 (fun e => by omega)).trans h3⟩
    case hY =>
      rintro W h o m ⟨hx, hl, hk⟩ hb
      have hlt : w.heap.size + 1 < W.heap.size := (Array.getElem?_eq_some_iff.1 hl).1
      have hy := run_yield (P := Tryd.prog) (args := #[.slice (some ⟨B, 8, none⟩) 64 64]) hl (by rw [hrec]; exact hps.symm)
      rw [hrec] at hy
      refine ⟨fn, _, assign, body, hy, roundIn_of_wpIn hfn (hassign _ W _ ⟨_, run_beginRound hl (by rw [hrec]), ?_⟩)⟩
      have hl2 : (W.putObj (w.heap.size + 1) (.loop { rec .ready none with state := .busy })).heap[w.heap.size + 1]? = some (.loop { rec .ready none with state := .busy }) := World.putObj_heap_same hlt
      have hk2 : (W.putObj (w.heap.size + 1) (.loop { rec .ready none with state := .busy })).heap[w.heap.size]? = some (.deferred (some [])) := (World.putObj_heap_other (by omega)).trans hk
      have hc2 : Ch (fun i => i = w.heap.size + 1) W (W.putObj (w.heap.size + 1) (.loop { rec .ready none with state := .busy })) := (Ch.refl (fun i => i = w.heap.size + 1) W).putObj (Or.inr rfl) _
      have hx2 := hX _ _ _ hx hc2 (fun i e => by subst e; omega)
      refine wpIn_mono (hbody _ _ h o m hx2 (hb.putObj (by omega) _)) ?_
      rintro e a3 W3 ⟨rfl, hx3, hb3, hc3⟩
      have hl3 := (hc3.block _ (Array.getElem?_eq_some_iff.1 hl2).1 (fun e => by omega)).trans hl2
      have hk3 := (hc3.block _ (Array.getElem?_eq_some_iff.1 hk2).1 (fun e => by omega)).trans hk2
      have hr := run_endRound (P := Tryd.prog) none hl3
      have e3 : (if (none : Option Code).isNone = true then LoopState.ready else LoopState.done) = .ready := rfl
      rw [e3] at hr
      rw [show ({ rec .ready none with state := .ready, pending := none } : Loop) = rec .ready none from by rw [hrec]] at hr
      have hc4 : Ch (fun i => i = w.heap.size + 1) W3 (W3.putObj (w.heap.size + 1) (.loop (rec .ready none))) := (Ch.refl (fun i => i = w.heap.size + 1) W3).putObj (Or.inr rfl) _
      exact ⟨_, _, hr, rfl, ⟨hX _ _ _ hx3 hc4 (fun i e => by subst e; omega), World.putObj_heap_same (Array.getElem?_eq_some_iff.1 hl3).1, (World.putObj_heap_other (by omega)).trans hk3⟩, hb3.putObj (by omega) _,
        ((hc2.mono (S' := fun i => i = B ∨ i = w.heap.size + 1) (fun _ _ e => Or.inr e)).trans hc3 (fun _ _ e => Or.inl e)).trans hc4 (fun _ _ e => Or.inr e)⟩
    case fin =>
      rintro e W2 ⟨⟨v, rfl⟩, ⟨hx, hl, hk⟩, hb, hc⟩
      have hend := run_endLoop (P := Tryd.prog) hl (by rw [hrec]; simp)
      have hc4 : ∀ o, Ch (fun i => i = w.heap.size + 1) W2 (W2.putObj (w.heap.size + 1) o) := fun o => (Ch.refl (fun i => i = w.heap.size + 1) W2).putObj (Or.inr rfl) o
      have hpend : (rec .ready none).pending = none := by rw [hrec]
      rw [hpend] at hend
      refine ⟨none, _, hend, ?_⟩
      have hx5 := fun o => hX _ _ _ hx (hc4 o) (fun i e => by subst e; omega)
      refine hdone w.heap.size _ (hx5 _) (Nat.le_refl _) (hb.putObj (by omega) _) ?_ ((World.putObj_heap_other (by omega)).trans hk)
      have h5 := (hch1.mono (S' := fun i => i = B ∨ i = bb) (fun _ _ e => e.elim)).trans hc (fun i hi e => by rcases e with e | e | e; exact Or.inl e; exact Or.inr e; omega)
      exact h5.trans (hc4 _) (fun i hi e => by have e' : i = w.heap.size + 1 := e; omega)

set_option maxHeartbeats 400000 in
theorem blocks_any (p : Value) (a0 : Option Addr) (n c : Nat) (w : World) (q : Option Addr) (hp : p = .pointer q) :
    Calls Tryd.prog 21 #[p, .slice a0 n c] w fun e w' => e = .returned (.func (.func 23) #[] #[.pointer (some ⟨w.heap.size + 1, 0, none⟩), .pointer (some ⟨w.heap.size, 0, none⟩)]) ∧
      w' = (w.alloc (.cells #[p] 32)).alloc (.cells #[.slice a0 n c] 22) := by
  subst hp
  go_enter Tryd.func21, Tryd.ntmps21
  go_wp2
  go_ret
  exact ⟨rfl, rfl⟩

set_option maxHeartbeats 1000000 in
set_option maxRecDepth 100000 in
theorem write_any (B : Nat) (hB2 : 2 ≤ B) (xs : List (BitVec 8)) (a0 : Option Addr) (c0 : Nat) (s0 : HS) (w : World) (hB : Blk w B 50 (hArr s0.h s0.o s0.n))
    (hK : ∀ j, j < 64 → w.cell? ⟨1, j, none⟩ = some (U32 (kAt j))) (hc0 : xs.length ≤ c0) (hs : Src (fun i => i = B ∨ w.heap.size ≤ i) w a0 xs) (hn : s0.n + xs.length ≤ 4611686018427387904) :
    Calls Tryd.prog 13 #[.pointer (some ⟨B, 0, none⟩), .slice a0 xs.length c0] w fun e w' =>
      e = .returned (.tuple #[]) ∧ Blk w' B 50 (hArr (s0.write xs).h (s0.write xs).o (s0.write xs).n) ∧ Ch (· = B) w w' := by
  refine (callsIn_wide (n := 3)).1 ?_
  refine callsIn_of_wp_marks Tryd.func13 rfl trivial ?_ rfl
  simp only [Tryd.ntmps13, List.size_toArray, List.length_cons, List.length_nil, Nat.reduceAdd, Nat.reduceSub, Array.replicate_succ, Array.replicate_zero, List.push_toArray, List.append_toArray, List.nil_append, List.cons_append]
  have HK := Lib.hid hK
  clear hK
  gi_wp2
  refine ⟨trivial, ?_⟩
  refine (callsIn_wide.2 (blocks_any _ _ _ _ _ _ rfl)).mono ?_
  rintro e w1 ⟨rfl, rfl⟩
  gi_wp2
  obtain ⟨wX, hwX⟩ : ∃ wX, (((w.alloc (Obj.cells #[Value.pointer (some ⟨B, 0, none⟩)] 32)).alloc (Obj.cells #[Value.pointer (some ⟨B, 0, none⟩)] 32)).alloc (Obj.cells #[Value.slice a0 xs.length c0] 22)) = wX := ⟨_, rfl⟩
  rw [hwX]
  have lB := hB.lt
  have hsz : wX.heap.size = w.heap.size + 3 := by rw [← hwX]; simp
  have hch : Ch (fun _ => False) w wX := by rw [← hwX]; exact (((Ch.refl _ w).alloc _).alloc _).alloc _
  have hb1 : Blk wX w.heap.size 32 #[.pointer (some ⟨B, 0, none⟩)] := by rw [← hwX]; exact ((Blk.new w _ _).alloc _).alloc _
  have hb2 : Blk wX (w.heap.size + 1) 32 #[.pointer (some ⟨B, 0, none⟩)] := by
    rw [← hwX]
    have := (Blk.new (w.alloc (Obj.cells #[Value.pointer (some ⟨B, 0, none⟩)] 32)) 32 #[.pointer (some ⟨B, 0, none⟩)]).alloc (Obj.cells #[Value.slice a0 xs.length c0] 22)
    rwa [World.size_alloc] at this
  have hb3 : Blk wX (w.heap.size + 1 + 1) 22 #[.slice a0 xs.length c0] := by
    rw [← hwX]
    have := Blk.new ((w.alloc (Obj.cells #[Value.pointer (some ⟨B, 0, none⟩)] 32)).alloc (Obj.cells #[Value.pointer (some ⟨B, 0, none⟩)] 32)) 22 #[.slice a0 xs.length c0]
    rwa [World.size_alloc, World.size_alloc] at this
  have hBX := hch.blk hB id
  have hsX : Src (fun i => i = B ∨ i = w.heap.size + 1 + 1 ∨ i = wX.heap.size + 1) wX a0 xs := fun hne => by
    obtain ⟨ob, off, rfl, hx, hc⟩ := hs hne
    exact ⟨ob, off, rfl, fun e => hx (by omega), fun j y hy => hch.cell (hc j y hy) id⟩
  clear hwX hB hs
  refine range_blocks (bb := w.heap.size + 1 + 1) (bh := w.heap.size + 1) (B := B) rfl rfl xs a0 c0 s0
    (fun W => Blk W w.heap.size 32 #[.pointer (some ⟨B, 0, none⟩)] ∧ Hid (∀ j, j < 64 → W.cell? ⟨1, j, none⟩ = some (U32 (kAt j))))
    { tmps := #[.pointer (some ⟨B, 0, none⟩), .slice a0 xs.length c0, .pointer (some ⟨w.heap.size, 0, none⟩), undef, .slice (some ⟨B, 8, none⟩) 64 64, .pointer (some ⟨B, 0, none⟩), .slice a0 xs.length c0,
        .func (.func 23) #[] #[.pointer (some ⟨w.heap.size + 1 + 1, 0, none⟩), .pointer (some ⟨w.heap.size + 1, 0, none⟩)], .slice (some ⟨B, 8, none⟩) 64 64, undef, undef, undef], defers := [] }
    (by omega) (by omega) (by omega) hb3 hb2 hBX hc0 hsX hn ⟨hb1, fun j hj => hch.cell (HK.out j hj) id⟩ ?hX ?hassign ?hbody ?hdone
  case hX =>
    rintro S W W' ⟨h1, h2⟩ hc hS
    refine ⟨hc.blk h1 (fun e => by have := hS _ e; omega), fun j hj => hc.cell (h2 j hj) (fun e => by have := hS _ e; simp at this; omega)⟩
  case hassign =>
    intro l W K hK
    gi_wp2
    exact hK
  case hbody =>
    rintro l W h o m ⟨h1, h2⟩ hb
    have c1 : W.cell? ⟨w.heap.size, 0, none⟩ = some (.pointer (some ⟨B, 0, none⟩)) := h1.cell rfl
    gi_wp2
    refine ⟨trivial, ?_⟩
    refine (CallsIn.inRound l (callsIn_wide.2 (block_any B hB2 h o m W hb h2.out))).mono ?_
    rintro e w' ⟨rfl, hb', hc'⟩
    gi_wp2
    exact ⟨hc'.blk h1 (fun e => by have e' : w.heap.size = B := e; omega), fun j hj => hc'.cell (h2 j hj) (fun e => by have e' : (1 : Nat) = B := e; omega)⟩
  case hdone =>
    rintro D W ⟨h1, h2⟩ hD hb hc hK
    gi_wp2
    refine ⟨by simp, .inl ⟨_, _, rfl, run_takeDeferred hK, ?_⟩⟩
    refine ⟨_, results_none rfl _ _ _, rfl, hb.putObj (by omega) _, ?_⟩
    exact ((hch.mono (S' := (· = B)) (fun _ _ e => e.elim)).trans hc (fun i hi e => by rcases e with e | e; exact e; omega)).putObj (Or.inl (by omega)) _
end Go.Proofs.YtnnffibnonkocaaDoor
