/-
  Blocks of cells known whole, and worlds that differ in some blocks alone. No program in sight.
-/
import Derived.WalkKit
import Derived.Deep.Draws
namespace Go.Proofs.Ytjhnkpohdlilpaa
open Go.RowKit

/-- block B holds these cells, of this element type, none frozen -/
def Blk (w : World) (B : Nat) (t : TypeId) (arr : Array Value) : Prop := w.heap[B]? = some (.cells arr t (0, 0))

theorem Blk.lt {w : World} {B : Nat} {t : TypeId} {arr : Array Value} (h : Blk w B t arr) : B < w.heap.size := (Array.getElem?_eq_some_iff.1 h).1
theorem Blk.cell {w : World} {B : Nat} {t : TypeId} {arr : Array Value} (h : Blk w B t arr) {j : Nat} {v : Value} (hv : arr[j]? = some v) : w.cell? ⟨B, j, none⟩ = some v := by
  have h' : w.heap[B]? = some (.cells arr t (0, 0)) := h
  simp [World.cell?, h', hv]
theorem Blk.free {w : World} {B : Nat} {t : TypeId} {arr : Array Value} (h : Blk w B t arr) (j : Nat) : w.frozen? ⟨B, j, none⟩ = false := by
  have h' : w.heap[B]? = some (.cells arr t (0, 0)) := h
  simp [World.frozen?, h']
theorem Blk.set {w : World} {B : Nat} {t : TypeId} {arr : Array Value} (h : Blk w B t arr) (j : Nat) (v : Value) : Blk (w.setCell ⟨B, j, none⟩ v) B t (arr.setIfInBounds j v) := by
  have h' : w.heap[B]? = some (.cells arr t (0, 0)) := h
  show (w.setCell ⟨B, j, none⟩ v).heap[B]? = _
  simp only [World.setCell, Array.getElem?_modify, if_true, h']
  rfl
theorem Blk.set_other {w : World} {B : Nat} {t : TypeId} {arr : Array Value} (h : Blk w B t arr) {a : Addr} (ha : a.block ≠ B) (v : Value) : Blk (w.setCell a v) B t arr :=
  (Below.heap_setCell w a v B (fun e => ha e.symm)).trans h
theorem Blk.drew {w : World} {B : Nat} {t : TypeId} {arr : Array Value} (h : Blk w B t arr) : Blk w.drew B t arr := h
theorem Blk.drewN {w : World} {B : Nat} {t : TypeId} {arr : Array Value} (h : Blk w B t arr) (n : Nat) : Blk (w.drewN n) B t arr := h
theorem Blk.alloc {w : World} {B : Nat} {t : TypeId} {arr : Array Value} (h : Blk w B t arr) (o : Obj) : Blk (w.alloc o) B t arr :=
  (Below.heap_alloc w o B h.lt).trans h
theorem Blk.new (w : World) (t : TypeId) (arr : Array Value) : Blk (w.alloc (.cells arr t)) w.heap.size t arr := heap_alloc_new w _
theorem Blk.uniq {w : World} {B : Nat} {t t' : TypeId} {arr arr' : Array Value} (h : Blk w B t arr) (h' : Blk w B t' arr') : arr = arr' := by
  have e := h.symm.trans h'
  injection e with e; injection e

/-- the world w' is as w was but for blocks of S and new ones; the streams are as they were -/
structure Ch (S : Nat → Prop) (w w' : World) : Prop where
  os : w'.os = w.os
  tape : w'.tape = w.tape
  output : w'.output = w.output
  size : w.heap.size ≤ w'.heap.size
  block : ∀ k, k < w.heap.size → ¬ S k → w'.heap[k]? = w.heap[k]?

theorem Ch.refl (S : Nat → Prop) (w : World) : Ch S w w := ⟨rfl, rfl, rfl, Nat.le_refl _, fun _ _ _ => rfl⟩
theorem Ch.trans {S S' : Nat → Prop} {a b c : World} (h : Ch S a b) (k : Ch S' b c) (hs : ∀ i, i < a.heap.size → S' i → S i) : Ch S a c :=
  ⟨k.os.trans h.os, k.tape.trans h.tape, k.output.trans h.output, Nat.le_trans h.size k.size,
    fun i hi hn => (k.block i (Nat.lt_of_lt_of_le hi h.size) (fun e => hn (hs i hi e))).trans (h.block i hi hn)⟩
theorem Ch.mono {S S' : Nat → Prop} {a b : World} (h : Ch S a b) (hs : ∀ i, i < a.heap.size → S i → S' i) : Ch S' a b :=
  ⟨h.os, h.tape, h.output, h.size, fun i hi hn => h.block i hi (fun e => hn (hs i hi e))⟩
theorem Ch.alloc {S : Nat → Prop} {a w : World} (h : Ch S a w) (o : Obj) : Ch S a (w.alloc o) :=
  h.trans (S' := fun _ => False) ⟨rfl, rfl, rfl, by simp, fun k hk _ => Below.heap_alloc _ _ _ hk⟩ (fun _ _ e => e.elim)
theorem Ch.drew {S : Nat → Prop} {a w : World} (h : Ch S a w) : Ch S a w.drew := ⟨h.os, h.tape, h.output, h.size, h.block⟩
theorem Ch.drewN {S : Nat → Prop} {a w : World} (h : Ch S a w) (n : Nat) : Ch S a (w.drewN n) := ⟨h.os, h.tape, h.output, h.size, h.block⟩
theorem Ch.set {S : Nat → Prop} {a w : World} (h : Ch S a w) {p : Addr} (hp : a.heap.size ≤ p.block ∨ S p.block) (v : Value) : Ch S a (w.setCell p v) :=
  h.trans (S' := fun i => i = p.block) ⟨rfl, rfl, rfl, by simp, fun k _ hn => Below.heap_setCell _ _ _ _ hn⟩ (fun i hi e => by
    subst e
    exact hp.elim (fun h' => absurd hi (by omega)) id)
theorem Ch.grown {S : Nat → Prop} {a w w' : World} {row : Option Nat} (h : Ch S a w) (hg : w.grownBy w' row) (hr : ∀ k, row = some k → a.heap.size ≤ k ∨ S k) : Ch S a w' :=
  h.trans (S' := fun i => row = some i) ⟨hg.os, hg.tape, hg.output, hg.size, fun k hk hn => hg.block k hk (fun e => hn e.symm)⟩
    (fun i hi e => (hr i e).elim (fun h' => absurd hi (by omega)) id)
theorem Ch.blk {S : Nat → Prop} {a b : World} (h : Ch S a b) {B : Nat} {t : TypeId} {arr : Array Value} (hb : Blk a B t arr) (hn : ¬ S B) : Blk b B t arr := (h.block B hb.lt hn).trans hb
theorem Ch.cell {S : Nat → Prop} {a b : World} (h : Ch S a b) {p : Addr} {v : Value} (hv : a.cell? p = some v) (hn : ¬ S p.block) : b.cell? p = some v :=
  (World.cell?_of_block (h.block _ (World.block_lt_of_cell? a p hv) hn)).trans hv
theorem Ch.below {S : Nat → Prop} {a b : World} (h : Ch S a b) {B : Nat} (hB : B ≤ a.heap.size) (hs : ∀ i, i < B → ¬ S i) : Below B a b :=
  ⟨h.os, h.tape, h.output, h.size, fun k hk => h.block k (by omega) (hs k hk)⟩
theorem Ch.none_below {a b : World} (h : Ch (fun _ => False) a b) : Below a.heap.size a b := h.below (Nat.le_refl _) (fun _ _ e => e)
theorem Ch.of_below {a b : World} (h : Below a.heap.size a b) : Ch (fun _ => False) a b := ⟨h.os, h.tape, h.output, h.size, fun k hk _ => h.block k hk⟩
theorem addr_add (b o j : Nat) : (⟨b, o, none⟩ : Addr).add j = ⟨b, o + j, none⟩ := by
  unfold Addr.add
  split
  · rename_i h; subst h; rfl
  · rfl
end Go.Proofs.Ytjhnkpohdlilpaa
