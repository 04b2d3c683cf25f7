/-
  A digest out of what was written; loads and stores of whole blocks. No program in sight.
-/
import Derived.Test.YtnnffibnonkocaaDoorArr
import Derived.Test.YtnnffibnonkocaaDoorPush
namespace Go.Proofs.YtnnffibnonkocaaDoor
open Go.RowKit
/-- how many noughts go behind the 0x80 -/
def zpad (n : Nat) : Nat := (119 - n % 64) % 64
def lenByte (n i : Nat) : BitVec 8 := BitVec.ofNat 8 (n * 8 / 2 ^ (56 - 8 * i))
def lenBytes (n : Nat) : List (BitVec 8) := (List.range 8).map (lenByte n)
def padding (n : Nat) : List (BitVec 8) := 0x80 :: (List.replicate (zpad n) 0 ++ lenBytes n)
def digByte (h : S8) (i : Nat) : BitVec 8 := (h.get (i / 4) >>> (24 - i % 4 * 8)).setWidth 8
def HS.fin (s : HS) : HS := s.write (padding s.n)
/-- the digest of what was written -/
def HS.digest (s : HS) : Nat → BitVec 8 := digByte s.fin.h
def HS.begin : HS := { h := h0s, o := fun _ => 0, n := 0 }
/-- bytes' digest -/
def sha (l : List (BitVec 8)) : Nat → BitVec 8 := (HS.begin.write l).digest

theorem zpad_lt (n : Nat) : zpad n < 64 := Nat.mod_lt _ (by omega)
theorem zpad_at (n k : Nat) (h : k ≤ zpad n) : (n + 1 + k) % 64 = 56 ↔ k = zpad n := by
  unfold zpad at *; omega

theorem oneCell_hArr (h : S8) (o : Nat → BitVec 8) (n : Nat) : (hArr h o n).all (·.oneCell') = true := by
  rw [Array.all_eq_true_iff_forall_mem]
  intro v hv
  simp only [hArr, wArr, bArr, Array.mem_append, List.mem_toArray, List.mem_map] at hv
  rcases hv with (⟨_, _, rfl⟩ | ⟨_, _, rfl⟩) | hv
  · rfl
  · rfl
  · simp at hv; subst hv; rfl
theorem oneCell_bArr (f : Nat → BitVec 8) (n : Nat) : (bArr f n).all (·.oneCell') = true := by
  rw [Array.all_eq_true_iff_forall_mem]
  intro v hv
  simp only [bArr, List.mem_toArray, List.mem_map] at hv
  obtain ⟨_, _, rfl⟩ := hv
  rfl
theorem oneCell_wArr (f : Nat → BitVec 32) (n : Nat) : (wArr f n).all (·.oneCell') = true := by
  rw [Array.all_eq_true_iff_forall_mem]
  intro v hv
  simp only [wArr, List.mem_toArray, List.mem_map] at hv
  obtain ⟨_, _, rfl⟩ := hv
  rfl
theorem setRow_alloc (w : World) (old c : Array Value) (t : TypeId) : (w.alloc (.cells old t)).setRow w.heap.size c = w.alloc (.cells c t) := by
  show ({ w with heap := (w.heap.push (.cells old t)).modify w.heap.size _ } : World) = { w with heap := w.heap.push (.cells c t) }
  congr 1
  apply Array.ext_getElem?
  intro i
  rw [Array.getElem?_modify]
  by_cases e : w.heap.size = i
  · subst e; simp
  · rw [if_neg e, Array.getElem?_push, Array.getElem?_push]
    rw [if_neg (fun h => e h.symm), if_neg (fun h => e h.symm)]
/-- a load of a whole block -/
theorem wpList_load_blk {P : Program} {ops : Array Oper} {rest : List Oper} {o : Oper} {a : Act} {w : World} {Q : Exit → Act → World → Prop} (hgd : o.guard = none) (ty : TypeId) (x : Operand) (ho : o.op = .load ty x)
    (g : Nat) (hx : a.eval x = .pointer (some ⟨g, 0, none⟩)) (cs : Array Value) (d : TypeDesc) (t : TypeId) (hg : Blk w g t cs)
    (hu : P.underlying ty = some d) (hd : (match d with | .struct _ | .array _ _ => true | _ => false) = true) (n : Nat) (hi : (P.info? ty).map (·.size) = some n) (hn : cs.size = n)
    (h : wpList P ops Q rest (a.put o.dst (.agg cs)) w) : wpList P ops Q (o :: rest) a w :=
  wpList_load_row hgd ty x ho g hx t cs (0, 0) d hg hu hd (by rw [hn]; exact hi) h
/-- a store into a whole block -/
theorem wpList_store_blk {P : Program} {ops : Array Oper} {rest : List Oper} {o : Oper} {a : Act} {w : World} {Q : Exit → Act → World → Prop} (hgd : o.guard = none) (ty : TypeId) (x y : Operand) (ho : o.op = .store ty x y)
    (g : Nat) (cells : Array Value) (hx : a.eval x = .pointer (some ⟨g, 0, none⟩)) (hy : a.eval y = .agg cells)
    (t : TypeId) (old : Array Value) (hg : Blk w g t old) (n : Nat) (hi : (P.info? ty).map (·.size) = some n) (hold : old.size = n) (hn : cells.size = n) (h1 : cells.all (·.oneCell') = true)
    (h : ∀ w', Blk w' g t cells → Ch (· = g) w w' → wpList P ops Q rest (a.put o.dst undef) w') : wpList P ops Q (o :: rest) a w :=
  wpList_store_row hgd ty x y ho g cells hx hy t old hg (by rw [hn]; exact hi) (by rw [hold, hn]) h1 (h _ (setRow_heap w g old cells t _ hg) ⟨rfl, rfl, rfl, by simp, fun k _ hn => setRow_other w g k cells hn⟩)
end Go.Proofs.YtnnffibnonkocaaDoor
