/-
  Arrays of words and bytes, and a hash's cells, as functions. No program in sight.
-/
import Derived.Test.YtnnffibnonkocaaDoorWords
import Derived.Test.YtnnffibnonkocaaDoorMem
import Derived.Test.YtnnffibnonkocaaDoorSpec
namespace Go.Proofs.YtnnffibnonkocaaDoor
open Go.RowKit
/-- an array of n words; of n bytes -/
def wArr (f : Nat → BitVec 32) (n : Nat) : Array Value := ((List.range n).map fun i => U32 (f i)).toArray
def bArr (f : Nat → BitVec 8) (n : Nat) : Array Value := ((List.range n).map fun i => U8 (f i)).toArray
/-- a hash: eight words, 64 bytes, how many were written -/
def hArr (h : S8) (o : Nat → BitVec 8) (n : Nat) : Array Value := wArr h.get 8 ++ bArr o 64 ++ #[.int .i64 n]

theorem wArr_size (f : Nat → BitVec 32) (n : Nat) : (wArr f n).size = n := by simp [wArr]
theorem bArr_size (f : Nat → BitVec 8) (n : Nat) : (bArr f n).size = n := by simp [bArr]
theorem hArr_size (h : S8) (o : Nat → BitVec 8) (n : Nat) : (hArr h o n).size = 73 := by simp [hArr, wArr_size, bArr_size]
theorem wArr_get (f : Nat → BitVec 32) (n j : Nat) (h : j < n) : (wArr f n)[j]? = some (U32 (f j)) := by simp [wArr, h]
theorem bArr_get (f : Nat → BitVec 8) (n j : Nat) (h : j < n) : (bArr f n)[j]? = some (U8 (f j)) := by simp [bArr, h]
theorem hArr_h (h : S8) (o : Nat → BitVec 8) (n j : Nat) (hj : j < 8) : (hArr h o n)[j]? = some (U32 (h.get j)) := by
  rw [hArr, Array.getElem?_append_left (by simp [wArr_size, bArr_size]; omega), Array.getElem?_append_left (by simp [wArr_size]; omega), wArr_get _ _ _ hj]
theorem hArr_o (h : S8) (o : Nat → BitVec 8) (n j : Nat) (hj : j < 64) : (hArr h o n)[8 + j]? = some (U8 (o j)) := by
  rw [hArr, Array.getElem?_append_left (by simp [wArr_size, bArr_size]; omega), Array.getElem?_append_right (by simp [wArr_size]), wArr_size, Nat.add_sub_cancel_left, bArr_get _ _ _ hj]
theorem hArr_n (h : S8) (o : Nat → BitVec 8) (n : Nat) : (hArr h o n)[72]? = some (.int .i64 n) := by
  rw [hArr, Array.getElem?_append_right (by simp [wArr_size, bArr_size])]; simp [wArr_size, bArr_size]
theorem wArr_congr {f g : Nat → BitVec 32} {n : Nat} (h : ∀ i, i < n → f i = g i) : wArr f n = wArr g n := by
  unfold wArr; congr 1
  exact List.map_congr_left (fun i hi => by rw [h i (List.mem_range.1 hi)])
theorem bArr_congr {f g : Nat → BitVec 8} {n : Nat} (h : ∀ i, i < n → f i = g i) : bArr f n = bArr g n := by
  unfold bArr; congr 1
  exact List.map_congr_left (fun i hi => by rw [h i (List.mem_range.1 hi)])
theorem arr_ext {a b : Array Value} (hs : a.size = b.size) (h : ∀ i, i < a.size → a[i]? = b[i]?) : a = b := by
  apply Array.ext_getElem?
  intro i
  by_cases hi : i < a.size
  · exact h i hi
  · rw [Array.getElem?_eq_none (by omega), Array.getElem?_eq_none (by omega)]
theorem wArr_set (f : Nat → BitVec 32) (n i : Nat) (v : BitVec 32) : (wArr f n).setIfInBounds i (U32 v) = wArr (fun j => if j = i then v else f j) n := by
  refine arr_ext (by simp [wArr_size]) fun j hj => ?_
  simp only [Array.size_setIfInBounds, wArr_size] at hj
  rw [wArr_get _ _ _ hj, Array.getElem?_setIfInBounds]
  by_cases e : i = j
  · subst e; simp [wArr_size, hj]
  · rw [if_neg e, wArr_get _ _ _ hj, if_neg (fun h => e h.symm)]
theorem bArr_set (f : Nat → BitVec 8) (n i : Nat) (v : BitVec 8) : (bArr f n).setIfInBounds i (U8 v) = bArr (fun j => if j = i then v else f j) n := by
  refine arr_ext (by simp [bArr_size]) fun j hj => ?_
  simp only [Array.size_setIfInBounds, bArr_size] at hj
  rw [bArr_get _ _ _ hj, Array.getElem?_setIfInBounds]
  by_cases e : i = j
  · subst e; simp [bArr_size, hj]
  · rw [if_neg e, bArr_get _ _ _ hj, if_neg (fun h => e h.symm)]
theorem hArr_congr {h h' : S8} {o o' : Nat → BitVec 8} {n : Nat} (e : h = h') (e2 : ∀ i, i < 64 → o i = o' i) : hArr h o n = hArr h' o' n := by
  subst e; rw [hArr, hArr, bArr_congr e2]
theorem hArr_set_h (h : S8) (o : Nat → BitVec 8) (n i : Nat) (hi : i < 8) (v : BitVec 32) : (hArr h o n).setIfInBounds i (U32 v) = hArr (S8.of fun j => if j = i then v else h.get j) o n := by
  refine arr_ext (by simp [hArr_size]) fun j hj => ?_
  simp only [Array.size_setIfInBounds, hArr_size] at hj
  rw [Array.getElem?_setIfInBounds]
  by_cases e : i = j
  · subst e
    rw [if_pos rfl, if_pos (by rw [hArr_size]; omega), hArr_h _ _ _ _ hi]
    match i, hi with
    | 0, _ => rfl | 1, _ => rfl | 2, _ => rfl | 3, _ => rfl | 4, _ => rfl | 5, _ => rfl | 6, _ => rfl | 7, _ => rfl
  · rw [if_neg e]
    by_cases h8 : j < 8
    · rw [hArr_h _ _ _ _ h8, hArr_h _ _ _ _ h8]
      match j, h8, e with
      | 0, _, e | 1, _, e | 2, _, e | 3, _, e | 4, _, e | 5, _, e | 6, _, e | 7, _, e => simp only [S8.of, S8.get]; rw [if_neg (fun h => e h.symm)]
    · by_cases h72 : j < 72
      · obtain ⟨k, rfl⟩ : ∃ k, j = 8 + k := ⟨j - 8, by omega⟩
        rw [hArr_o _ _ _ _ (by omega), hArr_o _ _ _ _ (by omega)]
      · obtain rfl : j = 72 := by omega
        rw [hArr_n, hArr_n]
theorem hArr_set_o (h : S8) (o : Nat → BitVec 8) (n i : Nat) (hi : i < 64) (v : BitVec 8) : (hArr h o n).setIfInBounds (8 + i) (U8 v) = hArr h (fun j => if j = i then v else o j) n := by
  refine arr_ext (by simp [hArr_size]) fun j hj => ?_
  simp only [Array.size_setIfInBounds, hArr_size] at hj
  rw [Array.getElem?_setIfInBounds]
  by_cases h8 : j < 8
  · rw [if_neg (by omega), hArr_h _ _ _ _ h8, hArr_h _ _ _ _ h8]
  · by_cases h72 : j < 72
    · obtain ⟨k, rfl⟩ : ∃ k, j = 8 + k := ⟨j - 8, by omega⟩
      rw [hArr_o _ _ _ _ (by omega), hArr_o _ _ _ _ (by omega)]
      by_cases e : i = k
      · subst e; rw [if_pos rfl, if_pos (by rw [hArr_size]; omega), if_pos rfl]
      · rw [if_neg (by omega), if_neg (fun h => e h.symm)]
    · obtain rfl : j = 72 := by omega
      rw [if_neg (by omega), hArr_n, hArr_n]
theorem hArr_set_n (h : S8) (o : Nat → BitVec 8) (n m : Nat) : (hArr h o n).setIfInBounds 72 (.int .i64 m) = hArr h o m := by
  refine arr_ext (by simp [hArr_size]) fun j hj => ?_
  simp only [Array.size_setIfInBounds, hArr_size] at hj
  rw [Array.getElem?_setIfInBounds]
  by_cases h8 : j < 8
  · rw [if_neg (by omega), hArr_h _ _ _ _ h8, hArr_h _ _ _ _ h8]
  · by_cases h72 : j < 72
    · obtain ⟨k, rfl⟩ : ∃ k, j = 8 + k := ⟨j - 8, by omega⟩
      rw [if_neg (by omega), hArr_o _ _ _ _ (by omega), hArr_o _ _ _ _ (by omega)]
    · obtain rfl : j = 72 := by omega
      rw [if_pos rfl, if_pos (by rw [hArr_size]; omega), hArr_n]
end Go.Proofs.YtnnffibnonkocaaDoor
