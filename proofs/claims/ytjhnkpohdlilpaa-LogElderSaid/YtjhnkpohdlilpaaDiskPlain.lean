/-
  What Write, Flush, Crash and Append do to a disk: plain.
-/
import Derived.Test.YtjhnkpohdlilpaaTold
import Derived.Test.YtjhnkpohdlilpaaTheory
import Derived.Test.YtjhnkpohdlilpaaReadAll
import Derived.Test.YtjhnkpohdlilpaaReadLem
import Derived.Test.YtjhnkpohdlilpaaSteps
import Derived.Maps.AppendAt
import Derived.Laws.BytesString
import Derived.Test.YtjhnkpohdlilpaaAppend
import Derived.Test.YtjhnkpohdlilpaaAppendOk
import Derived.Test.YtjhnkpohdlilpaaAppendLem
import Derived.Test.YtjhnkpohdlilpaaLogSmall
import Derived.Test.YtjhnkpohdlilpaaNewDisk
import Derived.Test.YtjhnkpohdlilpaaCrash
import Derived.Test.YtjhnkpohdlilpaaFlush
import Derived.Test.YtjhnkpohdlilpaaWrite
import Derived.Test.YtjhnkpohdlilpaaAppendPend
import Derived.Deep.AppendLies
import Derived.Great.BuildSlice
import Derived.Test.YtjhnkpohdlilpaaDiskLem
import Derived.Test.YtjhnkpohdlilpaaRead
import Derived.Test.YtjhnkpohdlilpaaOut
import Derived.Test.YtjhnkpohdlilpaaDiskSmall
import Derived.Test.YtjhnkpohdlilpaaDisk
import Derived.Test.YtjhnkpohdlilpaaAtom
import Derived.Test.YtjhnkpohdlilpaaDecode
import Derived.Test.YtjhnkpohdlilpaaEncode
import Derived.Test.YtjhnkpohdlilpaaTake
import Derived.Test.YtjhnkpohdlilpaaCopy
import Derived.Laws.CopyOwn
import Derived.Deep.OwnRows
import Derived.Deep.MidRow
import Derived.Test.YtjhnkpohdlilpaaPut
import Derived.Test.YtjhnkpohdlilpaaRows
import Derived.Test.YtjhnkpohdlilpaaWords
import Derived.Test.YtjhnkpohdlilpaaMem
import Derived.Test.YtjhnkpohdlilpaaTail
import Derived.Test.YtjhnkpohdlilpaaCrc
import Derived.Test.YtjhnkpohdlilpaaArr
import Derived.RangeFuncNested
import Derived.RangeFuncBound
import Derived.RangeFuncCalls
import Derived.RangeFuncLeaves
import Derived.Shelf.Abstract
import Derived.Shelf.RegionOpen
import Derived.WalkKit
import Derived.OwnWalkIn
import Derived.TacticsInMore
import Derived.LoopNIn
import Derived.LoopIn
import Derived.WalkSpells
import Derived.WalkLawsBesides
import Derived.Lib.Hide
import Derived.BigQuiet
import Derived.Outline
import Derived.Deep.DeepFit
import Derived.Test.YtjhnkpohdlilpaaPlainA
namespace Go.Proofs.Ytjhnkpohdlilpaa
open Go.RowKit Go.Shelf
attribute [local go_sem] Oper.semAt_some
def foldP (las : Nat → Sec) (l : List (Nat × Sec)) : Nat → Sec := l.foldl (fun s p => sset s p.1 p.2) las
theorem foldP_snoc (las : Nat → Sec) (l : List (Nat × Sec)) (k : Nat) (b : Sec) : foldP las (l ++ [(k, b)]) = sset (foldP las l) k b := by unfold foldP; rw [List.foldl_append]; rfl
theorem foldP_cases (las : Nat → Sec) (l : List (Nat × Sec)) (x : Nat) : foldP las l x = las x ∨ ∃ y ∈ l, y.1 = x ∧ foldP las l x = y.2 := by
  induction l generalizing las with
  | nil => exact Or.inl rfl
  | cons p l ih =>
    rcases ih (sset las p.1 p.2) with h | ⟨y, hy, h⟩
    · by_cases e : x = p.1
      · refine Or.inr ⟨p, by simp, e.symm, ?_⟩
        show foldP (sset las p.1 p.2) l x = p.2
        rw [h]; unfold sset; rw [if_pos e]
      · refine Or.inl ?_
        show foldP (sset las p.1 p.2) l x = las x
        rw [h]; unfold sset; rw [if_neg e]
    · exact Or.inr ⟨y, by simp [hy], h⟩
theorem crLas_cases (pend : List (Nat × Sec)) (kb : List Bool) (las : Nat → Sec) (x : Nat) : ∀ k, crLas pend kb las k x = las x ∨ ∃ y ∈ pend, y.1 = x ∧ crLas pend kb las k x = y.2
  | 0 => Or.inl rfl
  | k + 1 => by
    unfold crLas
    split
    · cases hp : pend[k]? with
      | none => exact crLas_cases pend kb las x k
      | some p =>
        show (sset (crLas pend kb las k) p.1 p.2 x = las x ∨ ∃ y ∈ pend, y.1 = x ∧ sset (crLas pend kb las k) p.1 p.2 x = y.2)
        unfold sset
        by_cases e : x = p.1
        · rw [if_pos e]
          exact Or.inr ⟨p, List.mem_of_getElem? hp, e.symm, rfl⟩
        · rw [if_neg e]
          exact crLas_cases pend kb las x k
    · exact crLas_cases pend kb las x k
/-- what stays when the power only goes on or off -/
structure SameD (d d' : DM) : Prop where
  n : d'.n = d.n
  now : d'.now = d.now
  las : d'.las = d.las
  pend : d'.pend = d.pend
theorem SameD.refl (d : DM) : SameD d d := ⟨rfl, rfl, rfl, rfl⟩
theorem DM.goes_same (d : DM) : SameD d d.goes.2 := ⟨d.goes_n, d.goes_now, d.goes_las, d.goes_pend⟩
theorem DM.goes_off (d : DM) (h : d.goes.1 = false) : d.goes.2.down = true := by
  unfold DM.goes at h ⊢
  split at h
  · cases h
  · rename_i h0
    rw [if_neg h0]
    split at h
    · rename_i h1; rw [if_pos h1]
    · cases h
theorem DM.goes_on (d : DM) (h : d.goes.1 = true) (hd : d.down = false) : d.goes.2.down = false := by
  unfold DM.goes at h ⊢
  split at h
  · rename_i h0; rw [if_pos h0]; exact hd
  · rename_i h0
    rw [if_neg h0]
    split at h
    · cases h
    · rename_i h1; rw [if_neg h1]; exact hd
theorem DM.write_cases (d : DM) (k : Nat) (l : List (BitVec 8)) (hk : k < d.n) (hl : l.length ≤ 64) :
    ((d.write k l).1 = 0 ∧ d.down = false ∧ (d.write k l).2.down = false ∧ (d.write k l).2.n = d.n ∧ (d.write k l).2.las = d.las ∧ (d.write k l).2.now = sset d.now k (secOf l) ∧ (d.write k l).2.pend = d.pend ++ [(k, secOf l)]) ∨
    ((d.write k l).1 = 10 ∧ (d.write k l).2.down = true ∧ SameD d (d.write k l).2) := by
  have hh : d.has (k : Int) = true := by unfold DM.has; simp [hk]
  unfold DM.write
  by_cases hd : d.down = true
  · rw [if_pos hd]; exact Or.inr ⟨rfl, hd, SameD.refl d⟩
  · rw [if_neg hd, if_neg (by rw [hh]; simp), if_neg (by omega)]
    have hd' : d.down = false := by simpa using hd
    cases hg : d.goes.1
    · exact Or.inr ⟨rfl, d.goes_off hg, d.goes_same⟩
    · refine Or.inl ⟨rfl, hd', d.goes_on hg hd', d.goes_n, d.goes_las, ?_, ?_⟩
      · show sset d.goes.2.now _ _ = _; rw [d.goes_now]; simp
      · show d.goes.2.pend ++ _ = _; rw [d.goes_pend]; simp
theorem DM.write_un (d : DM) (k : Nat) (l : List (BitVec 8)) (hk : k < d.n) (hl : l.length ≤ 64) (hd : d.down = false) (hu : d.left < 0) : (d.write k l).1 = 0 ∧ (d.write k l).2.left = d.left := by
  rw [DM.write_new d k l hd hk hl hu]
  exact ⟨rfl, rfl⟩
theorem DM.flush_cases (d : DM) : (d.flush.1 = 0 ∧ d.down = false ∧ d.flush.2.down = false ∧ d.flush.2.n = d.n ∧ d.flush.2.las = foldP d.las d.pend ∧ d.flush.2.now = d.now ∧ d.flush.2.pend = []) ∨ (d.flush.1 = 10 ∧ d.flush.2.down = true ∧ SameD d d.flush.2) := by
  unfold DM.flush
  by_cases hd : d.down = true
  · rw [if_pos hd]; exact Or.inr ⟨rfl, hd, SameD.refl d⟩
  · rw [if_neg hd]
    have hd' : d.down = false := by simpa using hd
    cases hg : d.goes.1
    · exact Or.inr ⟨rfl, d.goes_off hg, d.goes_same⟩
    · refine Or.inl ⟨rfl, hd', d.goes_on hg hd', d.goes_n, ?_, d.goes_now, rfl⟩
      show List.foldl _ d.goes.2.las d.goes.2.pend = _
      rw [d.goes_las, d.goes_pend]; rfl
theorem DM.flush_un (d : DM) (hd : d.down = false) (hu : d.left < 0) : d.flush.1 = 0 ∧ d.flush.2.left = d.left := by
  rw [DM.flush_new d hd hu]
  exact ⟨rfl, rfl⟩
/-- the sectors that Append writes -/
def LM.secList (m : LM) (bs : List (BitVec 8)) (i : Nat) : Nat → List (Nat × Sec)
  | 0 => []
  | t + 1 => m.secList bs i t ++ [(m.first + (m.next + (i + t)), newSec m.epoch m.life bs (i + t) (m.next + (i + t)))]
theorem LM.secList_mem (m : LM) (bs : List (BitVec 8)) (i : Nat) : ∀ (t : Nat) (x : Nat × Sec), x ∈ m.secList bs i t → ∃ j, j < t ∧ x = (m.first + (m.next + (i + j)), newSec m.epoch m.life bs (i + j) (m.next + (i + j)))
  | 0, x, h => by cases h
  | t + 1, x, h => by
    rcases List.mem_append.1 h with h | h
    · obtain ⟨j, hj, e⟩ := m.secList_mem bs i t x h
      exact ⟨j, by omega, e⟩
    · exact ⟨t, by omega, List.mem_singleton.1 h⟩
theorem LM.secList_cons (m : LM) (bs : List (BitVec 8)) (i : Nat) : ∀ t, m.secList bs i (t + 1) = (m.first + (m.next + i), newSec m.epoch m.life bs i (m.next + i)) :: m.secList bs (i + 1) t
  | 0 => by simp [LM.secList]
  | t + 1 => by
    rw [LM.secList, m.secList_cons bs i t, LM.secList]
    rw [show i + 1 + t = i + (t + 1) by omega]
    rfl
theorem LM.sec_new (m : LM) (bs : List (BitVec 8)) (i : Nat) : secOf (bytesOf (m.sec bs (secs bs.length) i) 0 64) = newSec m.epoch m.life bs i (m.next + i) := rfl
theorem LM.appLoop_steps (m : LM) (bs : List (BitVec 8)) : ∀ (r i : Nat) (d : DM), i + r = secs bs.length → m.first + (m.next + secs bs.length) ≤ d.n → d.now = foldP d.las d.pend →
    ∃ t, t ≤ r ∧ (m.appLoop bs (secs bs.length) i r d).2.n = d.n ∧ (m.appLoop bs (secs bs.length) i r d).2.las = d.las ∧ (m.appLoop bs (secs bs.length) i r d).2.pend = d.pend ++ m.secList bs i t ∧
      (m.appLoop bs (secs bs.length) i r d).2.now = foldP (m.appLoop bs (secs bs.length) i r d).2.las (m.appLoop bs (secs bs.length) i r d).2.pend ∧
      (((m.appLoop bs (secs bs.length) i r d).1 = 0 ∧ t = r ∧ (m.appLoop bs (secs bs.length) i r d).2.down = d.down ∧ (1 ≤ r → d.down = false)) ∨ ((m.appLoop bs (secs bs.length) i r d).1 = 10 ∧ t < r ∧ (m.appLoop bs (secs bs.length) i r d).2.down = true ∧ (d.down = true → t = 0)))
  | 0, i, d, _, _, hnow => ⟨0, Nat.le_refl _, rfl, rfl, by simp [LM.appLoop, LM.secList], hnow, Or.inl ⟨rfl, rfl, rfl, fun h => by omega⟩⟩
  | r + 1, i, d, hir, hn, hnow => by
    rw [LM.appLoop]
    rcases d.write_cases (m.first + (m.next + i)) (bytesOf (m.sec bs (secs bs.length) i) 0 64) (by omega) (by rw [bytesOf_length]; omega) with ⟨h0, hd, hd2, hn2, hl2, hw2, hp2⟩ | ⟨h0, hd2, hs⟩
    · rw [if_pos h0]
      generalize d.write (m.first + (m.next + i) : Nat) (bytesOf (m.sec bs (secs bs.length) i) 0 64) = x at *
      obtain ⟨t, ht, a1, a2, a3, a4, a5⟩ := m.appLoop_steps bs r (i + 1) x.2 (by omega) (by omega) (by rw [hw2, hl2, hp2, foldP_snoc, hnow])
      refine ⟨t + 1, by omega, a1.trans hn2, a2.trans hl2, ?_, a4, ?_⟩
      · rw [a3, hp2, m.secList_cons, LM.sec_new, List.append_assoc]; rfl
      · rcases a5 with ⟨b1, b2, b3, b4⟩ | ⟨b1, b2, b3, b4⟩
        · exact Or.inl ⟨b1, by omega, by rw [b3, hd2, hd], fun _ => hd⟩
        · exact Or.inr ⟨b1, by omega, b3, fun h => by rw [hd] at h; cases h⟩
    · rw [if_neg (by rw [h0]; decide)]
      generalize d.write (m.first + (m.next + i) : Nat) (bytesOf (m.sec bs (secs bs.length) i) 0 64) = x at *
      exact ⟨0, Nat.zero_le _, hs.n, hs.las, by rw [hs.pend]; simp [LM.secList], by rw [hs.now, hs.las, hs.pend]; exact hnow, Or.inr ⟨h0, by omega, hd2, fun _ => rfl⟩⟩
theorem LM.appLoop_un (m : LM) (bs : List (BitVec 8)) : ∀ (r i : Nat) (d : DM), i + r = secs bs.length → m.first + (m.next + secs bs.length) ≤ d.n → d.down = false → d.left < 0 → (m.appLoop bs (secs bs.length) i r d).1 = 0 ∧ (m.appLoop bs (secs bs.length) i r d).2.left = d.left
  | 0, i, d, _, _, _, _ => ⟨rfl, rfl⟩
  | r + 1, i, d, hir, hn, hd, hu => by
    rw [LM.appLoop]
    have h1 := d.write_un (m.first + (m.next + i)) (bytesOf (m.sec bs (secs bs.length) i) 0 64) (by omega) (by rw [bytesOf_length]; omega) hd hu
    have h2 := DM.write_n d (m.first + (m.next + i) : Nat) (bytesOf (m.sec bs (secs bs.length) i) 0 64)
    have h3 := DM.write_down d (m.first + (m.next + i) : Nat) (bytesOf (m.sec bs (secs bs.length) i) 0 64) h1.1
    rw [if_pos h1.1]
    have := m.appLoop_un bs r (i + 1) (d.write (m.first + (m.next + i) : Nat) (bytesOf (m.sec bs (secs bs.length) i) 0 64)).2 (by omega) (by omega) h3 (by rw [h1.2]; exact hu)
    exact ⟨this.1, this.2.trans h1.2⟩
end Go.Proofs.Ytjhnkpohdlilpaa
