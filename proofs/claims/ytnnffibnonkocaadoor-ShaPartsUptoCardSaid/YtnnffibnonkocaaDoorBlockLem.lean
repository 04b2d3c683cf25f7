/-
  Facts for the block's walk. No program in sight.
-/
import Derived.Test.YtnnffibnonkocaaDoorArr
namespace Go.Proofs.YtnnffibnonkocaaDoor
open Go.RowKit
theorem Blk.cellAt {w : World} {B : Nat} {f : Nat → BitVec 32} {n : Nat} {t : TypeId} (h : Blk w B t (wArr f n)) (j : Nat) (hj : j < n) : w.cell? ⟨B, j, none⟩ = some (U32 (f j)) := h.cell (wArr_get f n j hj)
theorem Blk.openAt {w : World} {B : Nat} {h : S8} {o : Nat → BitVec 8} {n : Nat} {t : TypeId} (hb : Blk w B t (hArr h o n)) (j : Nat) (hj : j < 64) : w.cell? ⟨B, 8 + j, none⟩ = some (U8 (o j)) := hb.cell (hArr_o h o n j hj)
theorem Blk.wordAt {w : World} {B : Nat} {h : S8} {o : Nat → BitVec 8} {n : Nat} {t : TypeId} (hb : Blk w B t (hArr h o n)) (j : Nat) (hj : j < 8) : w.cell? ⟨B, j, none⟩ = some (U32 (h.get j)) := hb.cell (hArr_h h o n j hj)
theorem Blk.manyAt {w : World} {B : Nat} {h : S8} {o : Nat → BitVec 8} {n : Nat} {t : TypeId} (hb : Blk w B t (hArr h o n)) : w.cell? ⟨B, 72, none⟩ = some (.int .i64 n) := hb.cell (hArr_n h o n)
/-- what a round of the schedule's loop leaves -/
theorem sched_rel {w wr : World} {A : Nat} {o : Nat → BitVec 8} {f : Nat → BitVec 32} {k : Nat} (v : BitVec 32) (hA : Blk wr A 43 (wArr f 64)) (hf : ∀ j, j < k → f j = sched o j) (hv : v = sched o k) (hle : w.heap.size ≤ A)
    (hch : Ch (fun _ => False) w wr) (wx : World) (hx : wx.heap = (wr.setCell ⟨A, k, none⟩ (U32 v)).heap) (hos : wx.os = wr.os) (ht : wx.tape = wr.tape) (ho : wx.output = wr.output) :
    ∃ g, Blk wx A 43 (wArr g 64) ∧ (∀ j, j < k + 1 → g j = sched o j) ∧ Ch (fun _ => False) w wx := by
  refine ⟨fun j => if j = k then v else f j, ?_, ?_, ?_⟩
  · have := hA.set k (U32 v)
    rw [wArr_set] at this
    show wx.heap[A]? = _
    rw [hx]; exact this
  · intro j hj
    by_cases e : j = k
    · subst e; simp [hv]
    · simp only [if_neg e]; exact hf j (by omega)
  · have := hch.set (p := ⟨A, k, none⟩) (Or.inl hle) (U32 v)
    exact ⟨hos.trans hch.os, ht.trans hch.tape, ho.trans hch.output, by rw [hx]; exact this.size, fun i hi hn => by rw [hx]; exact this.block i hi hn⟩

theorem S8.of_get (f : Nat → BitVec 32) (i : Nat) (h : i < 8) : (S8.of f).get i = f i := by
  match i, h with
  | 0, _ => rfl | 1, _ => rfl | 2, _ => rfl | 3, _ => rfl | 4, _ => rfl | 5, _ => rfl | 6, _ => rfl | 7, _ => rfl
theorem S8.plus_get (s t : S8) (i : Nat) (h : i < 8) : (s.plus t).get i = s.get i + t.get i := by
  match i, h with
  | 0, _ => rfl | 1, _ => rfl | 2, _ => rfl | 3, _ => rfl | 4, _ => rfl | 5, _ => rfl | 6, _ => rfl | 7, _ => rfl
theorem Blk.set8 {w : World} {S : Nat} {t : TypeId} {f : Nat → BitVec 32} (h : Blk w S t (wArr f 8)) (s : S8) :
    Blk ((((((((w.setCell ⟨S, 0, none⟩ (U32 s.a)).setCell ⟨S, 1, none⟩ (U32 s.b)).setCell ⟨S, 2, none⟩ (U32 s.c)).setCell ⟨S, 3, none⟩ (U32 s.d)).setCell ⟨S, 4, none⟩ (U32 s.e)).setCell ⟨S, 5, none⟩ (U32 s.f)).setCell ⟨S, 6, none⟩ (U32 s.g)).setCell ⟨S, 7, none⟩ (U32 s.h)) S t (wArr s.get 8) := by
  have h8 := (((((((h.set 0 (U32 s.a)).set 1 (U32 s.b)).set 2 (U32 s.c)).set 3 (U32 s.d)).set 4 (U32 s.e)).set 5 (U32 s.f)).set 6 (U32 s.g)).set 7 (U32 s.h)
  rw [wArr_set, wArr_set, wArr_set, wArr_set, wArr_set, wArr_set, wArr_set, wArr_set] at h8
  rw [wArr_congr (f := s.get) (g := _) (fun i hi => ?_)]
  · exact h8
  · match i, hi with
    | 0, _ => rfl | 1, _ => rfl | 2, _ => rfl | 3, _ => rfl | 4, _ => rfl | 5, _ => rfl | 6, _ => rfl | 7, _ => rfl
theorem Ch.set8 {X : Nat → Prop} {a w : World} (h : Ch X a w) {S : Nat} (hS : a.heap.size ≤ S ∨ X S) (v0 v1 v2 v3 v4 v5 v6 v7 : Value) :
    Ch X a ((((((((w.setCell ⟨S, 0, none⟩ v0).setCell ⟨S, 1, none⟩ v1).setCell ⟨S, 2, none⟩ v2).setCell ⟨S, 3, none⟩ v3).setCell ⟨S, 4, none⟩ v4).setCell ⟨S, 5, none⟩ v5).setCell ⟨S, 6, none⟩ v6).setCell ⟨S, 7, none⟩ v7) :=
  (((((((h.set (p := ⟨S, 0, none⟩) hS v0).set (p := ⟨S, 1, none⟩) hS v1).set (p := ⟨S, 2, none⟩) hS v2).set (p := ⟨S, 3, none⟩) hS v3).set (p := ⟨S, 4, none⟩) hS v4).set (p := ⟨S, 5, none⟩) hS v5).set (p := ⟨S, 6, none⟩) hS v6).set (p := ⟨S, 7, none⟩) hS v7
/-- what the last loop of a block's work has added so far -/
def addTo (h st : S8) (k : Nat) : S8 := S8.of fun j => if j < k then h.get j + st.get j else h.get j
theorem addTo_zero (h st : S8) : addTo h st 0 = h := S8.ext_get fun i hi => by simp [addTo, S8.of_get _ i hi]
theorem addTo_end (h st : S8) : addTo h st 8 = h.plus st := S8.ext_get fun i hi => by rw [addTo, S8.of_get _ i hi, if_pos hi, S8.plus_get _ _ i hi]
theorem addTo_get (h st : S8) (k : Nat) (hk : k < 8) : (addTo h st k).get k = h.get k := by rw [addTo, S8.of_get _ k hk, if_neg (by omega)]
theorem addTo_succ (h st : S8) (k : Nat) : (S8.of fun j => if j = k then h.get k + st.get k else (addTo h st k).get j) = addTo h st (k + 1) := S8.ext_get fun i hi => by
  rw [S8.of_get _ i hi, addTo, addTo, S8.of_get _ i hi, S8.of_get _ i hi]
  by_cases e : i = k
  · subst e; rw [if_pos rfl, if_pos (by omega)]
  · rw [if_neg e]
    by_cases e2 : i < k
    · rw [if_pos e2, if_pos (by omega)]
    · rw [if_neg e2, if_neg (by omega)]
end Go.Proofs.YtnnffibnonkocaaDoor
