/-
  copy of bytes into a block. No program in sight.
-/
import Derived.Laws.CopyOwn
import Derived.Deep.OwnRows
import Derived.Test.YtjhnkpohdlilpaaPut
import Derived.Test.YtjhnkpohdlilpaaRows
import Derived.Test.YtjhnkpohdlilpaaWords
import Derived.Test.YtjhnkpohdlilpaaMem
import Derived.Test.YtjhnkpohdlilpaaTail
import Derived.Test.YtjhnkpohdlilpaaCrc
import Derived.Test.YtjhnkpohdlilpaaArr
import Derived.RangeFuncNested
import Derived.RangeFuncBound
import Derived.RangeFuncCalls
import Derived.RangeFuncLeaves
import Derived.Shelf.Abstract
import Derived.Shelf.RegionOpen
import Derived.WalkKit
import Derived.OwnWalkIn
import Derived.TacticsInMore
import Derived.LoopNIn
import Derived.LoopIn
import Derived.WalkSpells
import Derived.WalkLawsBesides
import Derived.Lib.Hide
import Derived.BigQuiet
namespace Go.Proofs.Ytjhnkpohdlilpaa
open Go.RowKit Go.Shelf
attribute [local go_sem] Oper.semAt_some
def over (o : Nat → BitVec 8) (at_ : Nat) (l : List (BitVec 8)) : Nat → BitVec 8 := fun j => if at_ ≤ j ∧ j < at_ + l.length then l.getD (j - at_) 0 else o j
theorem over_nil (o : Nat → BitVec 8) (at_ : Nat) : over o at_ [] = o := by
  funext j; unfold over; rw [if_neg (by simp)]
theorem bArr_splice (o : Nat → BitVec 8) (n at_ : Nat) (l : List (BitVec 8)) (hle : at_ + l.length ≤ n) :
    ((bArr o n).toList.take at_ ++ (l.map U8 ++ (bArr o n).toList.drop (at_ + (l.map U8).length))).toArray = bArr (over o at_ l) n := by
  have hsz := bArr_size o n
  have hls : (bArr o n).toList.length = n := by rw [Array.length_toList]; exact hsz
  refine arr_ext (by simp [hsz, bArr_size]; omega) fun j hj => ?_
  have hj : j < n := by simp [hsz] at hj; omega
  simp only [List.getElem?_toArray]
  rw [bArr_get _ _ _ hj]
  by_cases h1 : j < at_
  · rw [List.getElem?_append_left (by simp [hls]; omega), List.getElem?_take_of_lt h1, Array.getElem?_toList, bArr_get _ _ _ hj]
    unfold over
    rw [if_neg (by omega)]
  · rw [List.getElem?_append_right (by simp [hls]; omega)]
    have hlt : ((bArr o n).toList.take at_).length = at_ := by simp [hls]; omega
    rw [hlt]
    by_cases h2 : j < at_ + l.length
    · rw [List.getElem?_append_left (by simp; omega), List.getElem?_map]
      have hk : j - at_ < l.length := by omega
      unfold over
      rw [if_pos (by omega), List.getElem?_eq_getElem hk]
      simp [List.getD, List.getElem?_eq_getElem hk]
    · rw [List.getElem?_append_right (by simp; omega), List.getElem?_drop, Array.getElem?_toList]
      have e : at_ + (l.map U8).length + (j - at_ - (l.map U8).length) = j := by simp; omega
      rw [e, bArr_get _ _ _ hj]
      unfold over
      rw [if_neg (by omega)]
theorem Ch.setRow {w : World} {B : Nat} (cs : Array Value) : Ch (· = B) w (w.setRow B cs) :=
  ⟨rfl, rfl, rfl, by simp [World.setRow], fun k _ hn => setRow_other w B k cs hn⟩
/-- 'copy(b[at:], x)' of bytes -/
theorem wpList_copy_bytes {P : Program} {w : World} {ops : Array Oper} {rest : List Oper} {o : Oper} {a : Act} {Q : Exit → Act → World → Prop} (hgd : o.guard = none) (d s : Operand) (dT sT : TypeId)
    (ho : o.op = .call { callee := .builtin .copy, args := #[d, s], argTypes := #[dT, sT] }) (elem : TypeId) (hu : P.underlying dT = some (.slice elem)) (hsz : (P.info? elem).map (·.size) = some 1)
    (B at_ dLen dCap : Nat) (a0 : Option Addr) (sLen sCap : Nat) (hd : a.eval d = .slice (some ⟨B, at_, none⟩) dLen dCap) (hs : a.eval s = .slice a0 sLen sCap)
    (f : Nat → BitVec 8) (n : Nat) (t : TypeId) (hB : Blk w B t (bArr f n)) (l : List (BitVec 8)) (hn : l.length = Nat.min sLen dLen)
    (hsrc : Src (fun _ => False) w a0 l) (hle : at_ + l.length ≤ n)
    (next : ∀ w', Blk w' B t (bArr (over f at_ l) n) → Ch (· = B) w w' → wpList P ops Q rest (a.put o.dst (.int .i64 l.length)) w') : wpList P ops Q (o :: rest) a w := by
  by_cases hl : l = []
  · subst hl
    have := next w (by rw [over_nil]; exact hB) (Ch.refl _ w)
    exact wpList_copy_nothing hgd d s dT sT ho elem hu hsz _ _ dLen dCap sLen sCap hd hs (by simpa using hn.symm) (by simpa [goInt] using this)
  · obtain ⟨ob, off, rfl, -, hc⟩ := hsrc hl
    have hsize := bArr_size f n
    refine wpList_copy_own hgd d s dT sT ho elem hu hsz B at_ dLen dCap ⟨ob, off, none⟩ sLen sCap hd hs (bArr f n) t hB (l.map U8) (by simpa using hn) ?_ (by simp [hsize]; omega) ?_ ?_
    · intro j v hv
      rw [List.getElem?_map] at hv
      cases e : l[j]? with
      | none => rw [e] at hv; cases hv
      | some y => rw [e] at hv; cases hv; rw [addr_add]; exact hc j y e
    · intro v hv
      obtain ⟨y, _, rfl⟩ := List.mem_map.1 hv
      rfl
    · rw [bArr_splice f n at_ l hle]
      have := next (w.setRow B (bArr (over f at_ l) n)) (setRow_heap w B _ _ t _ hB) (Ch.setRow _)
      simpa [goInt] using this
end Go.Proofs.Ytjhnkpohdlilpaa
