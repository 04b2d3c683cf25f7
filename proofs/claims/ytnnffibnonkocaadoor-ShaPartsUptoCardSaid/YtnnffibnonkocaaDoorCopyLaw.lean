/-
  The copy into the open block. No program in sight.
-/
import Derived.Test.YtnnffibnonkocaaDoorArr
import Derived.Test.YtnnffibnonkocaaDoorPush
import Derived.Laws.CopyOwn
namespace Go.Proofs.YtnnffibnonkocaaDoor
open Go.RowKit
theorem hArr_splice (h : S8) (o : Nat → BitVec 8) (n at_ : Nat) (l : List (BitVec 8)) (hle : at_ + l.length ≤ 64) :
    ((hArr h o n).toList.take (8 + at_) ++ (l.map U8 ++ (hArr h o n).toList.drop (8 + at_ + (l.map U8).length))).toArray = hArr h (over o at_ l) n := by
  have hsz := hArr_size h o n
  have hls : (hArr h o n).toList.length = 73 := by rw [Array.length_toList]; exact hsz
  refine arr_ext (by simp [hsz, hArr_size]; omega) fun j hj => ?_
  have hj : j < 73 := by simp [hsz] at hj; omega
  simp only [List.getElem?_toArray]
  by_cases h1 : j < 8 + at_
  · rw [List.getElem?_append_left (by simp [hls]; omega), List.getElem?_take_of_lt h1, Array.getElem?_toList]
    by_cases h8 : j < 8
    · rw [hArr_h _ _ _ _ h8, hArr_h _ _ _ _ h8]
    · obtain ⟨k, rfl⟩ : ∃ k, j = 8 + k := ⟨j - 8, by omega⟩
      rw [hArr_o _ _ _ _ (by omega), hArr_o _ _ _ _ (by omega)]
      unfold over
      rw [if_neg (by omega)]
  · rw [List.getElem?_append_right (by simp [hls]; omega)]
    have hlt : ((hArr h o n).toList.take (8 + at_)).length = 8 + at_ := by simp [hls]; omega
    rw [hlt]
    by_cases h2 : j < 8 + at_ + l.length
    · rw [List.getElem?_append_left (by simp; omega)]
      obtain ⟨k, rfl⟩ : ∃ k, j = 8 + k := ⟨j - 8, by omega⟩
      rw [hArr_o _ _ _ _ (by omega), List.getElem?_map]
      have e : 8 + k - (8 + at_) = k - at_ := by omega
      have hk : k - at_ < l.length := by omega
      rw [e]
      unfold over
      rw [if_pos (by omega), List.getElem?_eq_getElem hk]
      simp [List.getD, List.getElem?_eq_getElem hk]
    · rw [List.getElem?_append_right (by simp; omega), List.getElem?_drop, Array.getElem?_toList]
      have e : 8 + at_ + (l.map U8).length + (j - (8 + at_) - (l.map U8).length) = j := by simp; omega
      rw [e]
      by_cases h3 : j < 72
      · obtain ⟨k, rfl⟩ : ∃ k, j = 8 + k := ⟨j - 8, by omega⟩
        rw [hArr_o _ _ _ _ (by omega), hArr_o _ _ _ _ (by omega)]
        unfold over
        rw [if_neg (by omega)]
      · obtain rfl : j = 72 := by omega
        rw [hArr_n, hArr_n]

theorem Ch.setRow {w : World} {B : Nat} (cs : Array Value) : Ch (· = B) w (w.setRow B cs) :=
  ⟨rfl, rfl, rfl, by simp [World.setRow], fun k _ hn => setRow_other w B k cs hn⟩

/-- 'copy(h.open[at:64:64], b)' -/
theorem wpList_copy_hash {P : Program} {w : World} {ops : Array Oper} {rest : List Oper} {o : Oper} {a : Act} {Q : Exit → Act → World → Prop} (hgd : o.guard = none) (d s : Operand) (dT sT : TypeId)
    (ho : o.op = .call { callee := .builtin .copy, args := #[d, s], argTypes := #[dT, sT] }) (elem : TypeId) (hu : P.underlying dT = some (.slice elem)) (hsz : (P.info? elem).map (·.size) = some 1)
    (B at_ dLen dCap : Nat) (ad : Addr) (sLen sCap : Nat) (hd : a.eval d = .slice (some ⟨B, 8 + at_, none⟩) dLen dCap) (hs : a.eval s = .slice (some ad) sLen sCap)
    (h : S8) (op : Nat → BitVec 8) (n : Nat) (t : TypeId) (hB : Blk w B t (hArr h op n)) (l : List (BitVec 8)) (hn : l.length = Nat.min sLen dLen)
    (hsrc : ∀ j y, l[j]? = some y → w.cell? (ad.add j) = some (U8 y)) (hle : at_ + l.length ≤ 64)
    (next : ∀ w', Blk w' B t (hArr h (over op at_ l) n) → Ch (· = B) w w' → wpList P ops Q rest (a.put o.dst (.int .i64 l.length)) w') : wpList P ops Q (o :: rest) a w := by
  have hsize := hArr_size h op n
  refine wpList_copy_own hgd d s dT sT ho elem hu hsz B (8 + at_) dLen dCap ad sLen sCap hd hs (hArr h op n) t hB (l.map U8) (by simpa using hn) ?_ (by simp [hsize]; omega) ?_ ?_
  · intro j v hv
    rw [List.getElem?_map] at hv
    cases e : l[j]? with
    | none => rw [e] at hv; cases hv
    | some y => rw [e] at hv; cases hv; exact hsrc j y e
  · intro v hv
    obtain ⟨y, _, rfl⟩ := List.mem_map.1 hv
    rfl
  · rw [hArr_splice h op n at_ l hle]
    have := next (w.setRow B (hArr h (over op at_ l) n)) (setRow_heap w B _ _ t _ hB) (Ch.setRow _)
    simpa [goInt] using this
end Go.Proofs.YtnnffibnonkocaaDoor
