/-
  What Open does to a new disk, Append to a log: plain.
-/
import Derived.Test.YtjhnkpohdlilpaaAwake
import Derived.Test.YtjhnkpohdlilpaaSys
import Derived.Test.YtjhnkpohdlilpaaAwakePlain
import Derived.Test.YtjhnkpohdlilpaaOpen
import Derived.Test.YtjhnkpohdlilpaaOpenMain
import Derived.Test.YtjhnkpohdlilpaaOpenBad
import Derived.Test.YtjhnkpohdlilpaaReadAll
import Derived.Test.YtjhnkpohdlilpaaReadLem
import Derived.Test.YtjhnkpohdlilpaaSteps
import Derived.Maps.AppendAt
import Derived.Laws.BytesString
import Derived.Test.YtjhnkpohdlilpaaAppend
import Derived.Test.YtjhnkpohdlilpaaAppendOk
import Derived.Test.YtjhnkpohdlilpaaAppendLem
import Derived.Test.YtjhnkpohdlilpaaLogSmall
import Derived.Test.YtjhnkpohdlilpaaNewDisk
import Derived.Test.YtjhnkpohdlilpaaCrash
import Derived.Test.YtjhnkpohdlilpaaFlush
import Derived.Test.YtjhnkpohdlilpaaWrite
import Derived.Test.YtjhnkpohdlilpaaAppendPend
import Derived.Deep.AppendLies
import Derived.Great.BuildSlice
import Derived.Test.YtjhnkpohdlilpaaDiskLem
import Derived.Test.YtjhnkpohdlilpaaRead
import Derived.Test.YtjhnkpohdlilpaaOut
import Derived.Test.YtjhnkpohdlilpaaDiskSmall
import Derived.Test.YtjhnkpohdlilpaaDisk
import Derived.Test.YtjhnkpohdlilpaaAtom
import Derived.Test.YtjhnkpohdlilpaaDecode
import Derived.Test.YtjhnkpohdlilpaaEncode
import Derived.Test.YtjhnkpohdlilpaaTake
import Derived.Test.YtjhnkpohdlilpaaCopy
import Derived.Laws.CopyOwn
import Derived.Deep.OwnRows
import Derived.Deep.MidRow
import Derived.Test.YtjhnkpohdlilpaaPut
import Derived.Test.YtjhnkpohdlilpaaRows
import Derived.Test.YtjhnkpohdlilpaaWords
import Derived.Test.YtjhnkpohdlilpaaMem
import Derived.Test.YtjhnkpohdlilpaaTail
import Derived.Test.YtjhnkpohdlilpaaCrc
import Derived.Test.YtjhnkpohdlilpaaArr
import Derived.RangeFuncNested
import Derived.RangeFuncBound
import Derived.RangeFuncCalls
import Derived.RangeFuncLeaves
import Derived.Shelf.Abstract
import Derived.Shelf.RegionOpen
import Derived.WalkKit
import Derived.OwnWalkIn
import Derived.TacticsInMore
import Derived.LoopNIn
import Derived.LoopIn
import Derived.WalkSpells
import Derived.WalkLawsBesides
import Derived.Lib.Hide
import Derived.BigQuiet
import Derived.Outline
import Derived.Deep.DeepFit
namespace Go.Proofs.Ytjhnkpohdlilpaa
open Go.RowKit Go.Shelf
attribute [local go_sem] Oper.semAt_some
theorem headOf_zero : headOf (fun _ => 0) = 0 := by kernel_rfl
theorem sumOk_zero : sumOk (fun _ => 0) = false := by kernel_rfl
/-- the head's sector, as it lies -/
def headS (life : BitVec 32) : Sec := secOf (bytesOf (headSec life) 0 64)
def DM.born (n f : Nat) : DM := { n := n, now := sset (fun _ _ => 0) f (headS 1), las := sset (fun _ _ => 0) f (headS 1), pend := [], down := false, left := -1 }
theorem DM.write_new (d : DM) (k : Nat) (l : List (BitVec 8)) (hd : d.down = false) (hk : k < d.n) (hl : l.length ≤ 64) (hg : d.left < 0) : d.write k l = (0, d.put k (secOf l)) := by
  have hh : d.has (k : Int) = true := by unfold DM.has; simp [hk]
  have hgo : d.goes = (true, d) := by unfold DM.goes; rw [if_pos hg]
  unfold DM.write
  rw [if_neg (by rw [hd]; simp), if_neg (by rw [hh]; simp), if_neg (by omega), hgo]
  simp
theorem DM.flush_new (d : DM) (hd : d.down = false) (hg : d.left < 0) : d.flush = (0, d.flushed) := by
  have hgo : d.goes = (true, d) := by unfold DM.goes; rw [if_pos hg]
  unfold DM.flush
  rw [if_neg (by rw [hd]; simp), hgo]
  simp
theorem badSec_sum {f : Sec} {ep most : BitVec 32} {p : Nat} {st : RS} (h : sumOk f = false) : badSec f ep most p st = true := by
  unfold badSec
  rw [h]
  simp
theorem open_new (n f c : Nat) (ep : BitVec 32) (hc : 2 ≤ c) (hfc : f + c ≤ n) : (DM.new n).open f c ep = (0, DM.born n f, some (⟨f, c, ep, 1, 1⟩, [])) := by
  have hh : headOf ((DM.new n).now f) = 0 := headOf_zero
  have hw : (DM.new n).head f = (0, (DM.new n).put f (headS 1)) := by
    unfold DM.head
    rw [hh]
    exact DM.write_new (DM.new n) f _ rfl (show f < n by omega) (by rw [bytesOf_length]; omega) (show (-1 : Int) < 0 by omega)
  have hf : ((DM.new n).put f (headS 1)).flush = (0, DM.born n f) := by
    rw [DM.flush_new _ rfl (show (-1 : Int) < 0 by omega)]
    rfl
  have hr : openRead (DM.born n f) f c ep 0 = { recs := [], part := [], last := 0, inside := false, next := 1 } := by
    unfold openRead
    rw [show c - 1 = (c - 2) + 1 by omega, readLoop]
    rw [if_pos (badSec_sum (by
      have : (DM.born n f).now (f + 1) = fun _ => 0 := by unfold DM.born sset; simp
      rw [this]; exact sumOk_zero))]
  unfold DM.open
  rw [if_neg (show ¬ ((DM.new n).down = true) by simp [DM.new]), if_neg (by rw [hh]; decide), hw]
  simp only [ne_eq, not_true_eq_false, if_false]
  rw [hf]
  simp only [not_true_eq_false, if_false]
  rw [hh, hr]
  rfl
theorem DM.write_val (d : DM) (n : Int) (l : List (BitVec 8)) : (d.write n l).1 = 0 ∨ (d.write n l).1 = 10 ∨ (d.write n l).1 = 11 ∨ (d.write n l).1 = 2 := by
  unfold DM.write
  split
  · simp
  · split
    · simp
    · split
      · simp
      · split <;> simp
theorem LM.appLoop_facts (m : LM) (bs : List (BitVec 8)) (n : Nat) : ∀ (r i : Nat) (d : DM), ((m.appLoop bs n i r d).1 = 0 ∨ (m.appLoop bs n i r d).1 = 10 ∨ (m.appLoop bs n i r d).1 = 11 ∨ (m.appLoop bs n i r d).1 = 2) ∧ (m.appLoop bs n i r d).2.pend.length ≤ d.pend.length + r ∧ (m.appLoop bs n i r d).2.n = d.n := by
  intro r
  induction r with
  | zero => intro i d; exact ⟨Or.inl rfl, by simp [LM.appLoop], rfl⟩
  | succ r ih =>
    intro i d
    rw [LM.appLoop]
    have hv := DM.write_val d (m.first + (m.next + i) : Nat) (bytesOf (m.sec bs n i) 0 64)
    have hp := DM.write_pend d (m.first + (m.next + i) : Nat) (bytesOf (m.sec bs n i) 0 64)
    have hn := DM.write_n d (m.first + (m.next + i) : Nat) (bytesOf (m.sec bs n i) 0 64)
    split
    · have := ih (i + 1) (d.write (m.first + (m.next + i) : Nat) (bytesOf (m.sec bs n i) 0 64)).2
      exact ⟨this.1, by omega, this.2.2.trans hn⟩
    · exact ⟨hv, by omega, hn⟩
theorem secs_le {n : Nat} (h : n ≤ 2000) : secs n ≤ 42 := by unfold secs; split <;> omega
theorem secs_pos (n : Nat) : 1 ≤ secs n := by unfold secs; split <;> omega
/-- what Append does to a log and to the count of pending writes -/
theorem LM.append_facts (m : LM) (d : DM) (bs : List (BitVec 8)) :
    (((m.append d bs).1 = 0 ∧ bs.length ≤ 2000 ∧ secs bs.length ≤ m.count - m.next ∧ (m.append d bs).2.1 = { m with next := m.next + secs bs.length }) ∨ ((m.append d bs).1 ≠ 0 ∧ (m.append d bs).2.1 = m)) ∧
    ((m.append d bs).1 = 3 → m.count - m.next < secs bs.length) ∧ (m.append d bs).2.2.pend.length ≤ d.pend.length + 42 ∧ (m.append d bs).2.2.n = d.n := by
  unfold LM.append
  by_cases h1 : 2000 < bs.length
  · rw [if_pos h1]
    exact ⟨Or.inr ⟨by simp, rfl⟩, fun e => (by cases e), by simp, rfl⟩
  · rw [if_neg h1]
    by_cases h2 : m.count - m.next < secs bs.length
    · rw [if_pos h2]
      exact ⟨Or.inr ⟨by simp, rfl⟩, fun _ => h2, by simp, rfl⟩
    · rw [if_neg h2]
      have hf := m.appLoop_facts bs (secs bs.length) (secs bs.length) 0 d
      have h42 := secs_le (show bs.length ≤ 2000 by omega)
      by_cases h3 : (m.appLoop bs (secs bs.length) 0 (secs bs.length) d).1 = 0
      · rw [if_pos h3]
        exact ⟨Or.inl ⟨rfl, by omega, by omega, rfl⟩, fun e => (by cases e), by show (m.appLoop bs (secs bs.length) 0 (secs bs.length) d).2.pend.length ≤ _; omega, hf.2.2⟩
      · rw [if_neg h3]
        exact ⟨Or.inr ⟨h3, rfl⟩, fun e => by
          have e' : (m.appLoop bs (secs bs.length) 0 (secs bs.length) d).1 = 3 := e
          rcases hf.1 with h | h | h | h <;> omega, by show (m.appLoop bs (secs bs.length) 0 (secs bs.length) d).2.pend.length ≤ _; omega, hf.2.2⟩
end Go.Proofs.Ytjhnkpohdlilpaa
