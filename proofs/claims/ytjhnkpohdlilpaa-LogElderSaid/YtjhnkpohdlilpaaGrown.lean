/-
  a log in its life: append, sync, crash, open, in terms of the records
-/
import Derived.Test.YtjhnkpohdlilpaaBegun
import Derived.Test.YtjhnkpohdlilpaaHist
import Derived.Test.YtjhnkpohdlilpaaDiskPlain
import Derived.Test.YtjhnkpohdlilpaaTold
import Derived.Test.YtjhnkpohdlilpaaTheory
import Derived.Test.YtjhnkpohdlilpaaReadAll
import Derived.Test.YtjhnkpohdlilpaaReadLem
import Derived.Test.YtjhnkpohdlilpaaSteps
import Derived.Maps.AppendAt
import Derived.Laws.BytesString
import Derived.Test.YtjhnkpohdlilpaaAppend
import Derived.Test.YtjhnkpohdlilpaaAppendOk
import Derived.Test.YtjhnkpohdlilpaaAppendLem
import Derived.Test.YtjhnkpohdlilpaaLogSmall
import Derived.Test.YtjhnkpohdlilpaaNewDisk
import Derived.Test.YtjhnkpohdlilpaaCrash
import Derived.Test.YtjhnkpohdlilpaaFlush
import Derived.Test.YtjhnkpohdlilpaaWrite
import Derived.Test.YtjhnkpohdlilpaaAppendPend
import Derived.Deep.AppendLies
import Derived.Great.BuildSlice
import Derived.Test.YtjhnkpohdlilpaaDiskLem
import Derived.Test.YtjhnkpohdlilpaaRead
import Derived.Test.YtjhnkpohdlilpaaOut
import Derived.Test.YtjhnkpohdlilpaaDiskSmall
import Derived.Test.YtjhnkpohdlilpaaDisk
import Derived.Test.YtjhnkpohdlilpaaAtom
import Derived.Test.YtjhnkpohdlilpaaDecode
import Derived.Test.YtjhnkpohdlilpaaEncode
import Derived.Test.YtjhnkpohdlilpaaTake
import Derived.Test.YtjhnkpohdlilpaaCopy
import Derived.Laws.CopyOwn
import Derived.Deep.OwnRows
import Derived.Deep.MidRow
import Derived.Test.YtjhnkpohdlilpaaPut
import Derived.Test.YtjhnkpohdlilpaaRows
import Derived.Test.YtjhnkpohdlilpaaWords
import Derived.Test.YtjhnkpohdlilpaaMem
import Derived.Test.YtjhnkpohdlilpaaTail
import Derived.Test.YtjhnkpohdlilpaaCrc
import Derived.Test.YtjhnkpohdlilpaaArr
import Derived.RangeFuncNested
import Derived.RangeFuncBound
import Derived.RangeFuncCalls
import Derived.RangeFuncLeaves
import Derived.Shelf.Abstract
import Derived.Shelf.RegionOpen
import Derived.WalkKit
import Derived.OwnWalkIn
import Derived.TacticsInMore
import Derived.LoopNIn
import Derived.LoopIn
import Derived.WalkSpells
import Derived.WalkLawsBesides
import Derived.Lib.Hide
import Derived.BigQuiet
import Derived.Outline
import Derived.Deep.DeepFit
import Derived.Test.YtjhnkpohdlilpaaPlainA
namespace Go.Proofs.Ytjhnkpohdlilpaa
open Go.RowKit Go.Shelf
attribute [local go_sem] Oper.semAt_some
/-- a disk whose region holds a history, whether a log is there or not -/
def Kept (d : DM) (T N : List (List (BitVec 8))) (first c : Nat) (ep : BitVec 32) (cap k : Nat) : Prop :=
  ∃ (s0 : Nat → Sec) (X : List (BitVec 8)) (q W : Nat) (l most0 la : BitVec 32), Hist d first c ep cap s0 T N X k q W l most0 la ∧ OwnS s0 first c ep
/-- a log in its life -/
def Grown (d : DM) (m : LM) (T N : List (List (BitVec 8))) (first c : Nat) (ep : BitVec 32) (cap k : Nat) : Prop :=
  ∃ (s0 : Nat → Sec) (X : List (BitVec 8)) (q W : Nat) (l most0 la : BitVec 32), Hist d first c ep cap s0 T N X k q W l most0 la ∧ OwnS s0 first c ep ∧ Cov d first ep l q W N X ∧ (d.down = false → W = q + tot N) ∧ LogOf m first c ep l q N
section
variable {d d' : DM} {m : LM} {T N : List (List (BitVec 8))} {first c cap k : Nat} {ep : BitVec 32}
theorem Grown.kept (h : Grown d m T N first c ep cap k) : Kept d T N first c ep cap k := by
  obtain ⟨s0, X, q, W, l, most0, la, h1, h2, _⟩ := h
  exact ⟨s0, X, q, W, l, most0, la, h1, h2⟩
theorem Begun.grown (h : Begun d m T first c ep cap) : Grown d m T [] first c ep cap 0 := by
  obtain ⟨s0, q, l, most0, la, h1, h2, h3, h4⟩ := h.pf
  exact ⟨s0, [], q, q, l, most0, la, h1, h4, h2, fun _ => by simp [tot], h3⟩
theorem Kept.reg (h : Kept d T N first c ep cap k) : first + c ≤ d.n ∧ 2 ≤ c ∧ c ≤ 4096 := by
  obtain ⟨s0, X, q, W, l, most0, la, h1, h2⟩ := h
  exact ⟨h1.reg, h1.hc1, h1.hc2⟩
theorem Grown.bound (h : Grown d m T N first c ep cap k) : m.first = first ∧ m.count = c ∧ m.epoch = ep ∧ m.next ≤ c := by
  obtain ⟨s0, X, q, W, l, most0, la, h1, h2, h3, h4, h5⟩ := h
  obtain ⟨a1, a2, a3, a4, a5⟩ := h5
  have := h1.hW1
  have := h1.hWc
  exact ⟨a1, a2, a3, by omega⟩
theorem Kept.crash (h : Kept d T N first c ep cap k) (kb : List Bool) : Kept (d.crash kb) T N first c ep cap k := by
  obtain ⟨s0, X, q, W, l, most0, la, h1, h2⟩ := h
  exact ⟨s0, X, q, W, l, most0, la, h1.crash kb, h2⟩
theorem Kept.same (h : Kept d T N first c ep cap k) (hs : SameD d d') : Kept d' T N first c ep cap k := by
  obtain ⟨s0, X, q, W, l, most0, la, h1, h2⟩ := h
  exact ⟨s0, X, q, W, l, most0, la, h1.same hs, h2⟩
theorem Kept.widen (h : Kept d T N first c ep cap k) {cap' : Nat} (hc : cap ≤ cap') : Kept d T N first c ep cap' k := by
  obtain ⟨s0, X, q, W, l, most0, la, h1, h2⟩ := h
  exact ⟨s0, X, q, W, l, most0, la, h1.widen hc, h2⟩
theorem Grown.same (h : Grown d m T N first c ep cap k) (hs : SameD d d') (hd : d'.down = false → d.down = false) : Grown d' m T N first c ep cap k := by
  obtain ⟨s0, X, q, W, l, most0, la, h1, h2, h3, h4, h5⟩ := h
  exact ⟨s0, X, q, W, l, most0, la, h1.same hs, h2, h3.same hs, fun e => h4 (hd e), h5⟩
theorem Grown.widen (h : Grown d m T N first c ep cap k) {cap' : Nat} (hc : cap ≤ cap') : Grown d m T N first c ep cap' k := by
  obtain ⟨s0, X, q, W, l, most0, la, h1, h2⟩ := h
  exact ⟨s0, X, q, W, l, most0, la, h1.widen hc, h2⟩
theorem DM.arm_same (d : DM) (n : Int) : SameD d (d.arm n).2 ∧ (d.arm n).2.down = d.down := by
  unfold DM.arm
  split
  · exact ⟨SameD.refl d, rfl⟩
  · split
    · exact ⟨SameD.refl d, rfl⟩
    · exact ⟨⟨rfl, rfl, rfl, rfl⟩, rfl⟩
theorem Grown.arm (h : Grown d m T N first c ep cap k) (n : Int) : Grown (d.arm n).2 m T N first c ep cap k := h.same (d.arm_same n).1 (fun e => (d.arm_same n).2 ▸ e)
theorem Grown.append (h : Grown d m T N first c ep cap k) (bs : List (BitVec 8)) :
    ((m.append d bs).1 = 0 ∧ Grown (m.append d bs).2.2 (m.append d bs).2.1 T (N ++ [bs]) first c ep cap k) ∨ ((m.append d bs).1 ≠ 0 ∧ Grown (m.append d bs).2.2 (m.append d bs).2.1 T N first c ep cap k) := by
  obtain ⟨s0, X, q, W, l, most0, la, h1, h2, h3, h4, h5⟩ := h
  rcases h1.append h5 h3 h4 bs with ⟨e, X', W', a1, a2, a3, a4⟩ | ⟨e, X', W', a1, a2, a3, a4⟩
  · exact Or.inl ⟨e, s0, X', q, W', l, most0, la, a1, h2, a2, a3, a4⟩
  · exact Or.inr ⟨e, s0, X', q, W', l, most0, la, a1, h2, a2, a3, a4⟩
theorem Grown.flush (h : Grown d m T N first c ep cap k) : (d.flush.1 = 0 ∧ d.down = false ∧ d.flush.2.down = false ∧ d.flush.2.pend = [] ∧ Grown d.flush.2 m T N first c ep cap N.length) ∨ (d.flush.1 = 10 ∧ d.flush.2.pend = d.pend ∧ Grown d.flush.2 m T N first c ep cap k) := by
  rcases d.flush_cases with ⟨f0, f1, fd, fn, fl, fw, fp⟩ | ⟨f0, fd, fs⟩
  · obtain ⟨s0, X, q, W, l, most0, la, h1, h2, h3, h4, h5⟩ := h
    obtain ⟨a1, a2⟩ := h1.flushed h3 fn fl fw fp
    exact Or.inl ⟨f0, f1, fd, fp, s0, X, q, W, l, most0, la, a1, h2, a2, fun _ => h4 f1, h5⟩
  · exact Or.inr ⟨f0, fs.pend, h.same fs (fun e => by rw [fd] at e; cases e)⟩
theorem Kept.open (h : Kept d T N first c ep cap k) (hcap : cap < 4294967295) (hd : d.down = false) :
    ((d.open first c ep).1 = 0 ∧ ∃ m recs j, (d.open first c ep).2.2 = some (m, recs) ∧ k ≤ j ∧ j ≤ N.length ∧ recs = T ++ N.take j ∧ Begun (d.open first c ep).2.1 m recs first c ep (cap + 1)) ∨
    ((d.open first c ep).1 = 10 ∧ (d.open first c ep).2.2 = none ∧ (d.open first c ep).2.1.down = true ∧ Kept (d.open first c ep).2.1 T N first c ep (cap + 1) k) := by
  obtain ⟨s0, X, q, W, l, most0, la, h1, h2⟩ := h
  rcases h1.open h2 hcap hd with a | ⟨a1, a2, a3, a4⟩
  · exact Or.inl a
  · exact Or.inr ⟨a1, a2, a3, s0, X, q, W, l, most0, la, a4, h2⟩
theorem Kept.own (h : Kept d T N first c ep cap k) : OwnS d.now first c ep ∧ d.now = foldP d.las d.pend ∧ (headOf (d.now first)).toNat ≤ cap := by
  obtain ⟨s0, X, q, W, l, most0, la, h, h2⟩ := h
  obtain ⟨h1, h2', h3, h4, h5⟩ := h.mixed (foldP d.las d.pend) (fun x => foldP_cases _ _ _)
  rw [← h.now] at h1 h2' h3 h4 h5
  exact ⟨h.own h2 d.now h1 h2', h.now, h5⟩
/-- an unarmed disk's Open -/
theorem DM.open_un (d : DM) (first c : Nat) (ep : BitVec 32) (hc : first + c ≤ d.n) (hc2 : 2 ≤ c) (hd : d.down = false) (hu : d.left < 0) (hh : (headOf (d.now first)).toNat < 4294967295) : (d.open first c ep).1 = 0 ∧ (d.open first c ep).2.1.left = d.left := by
  have hne : headOf (d.now first) ≠ 0xffffffff#32 := fun e => by rw [e] at hh; exact absurd hh (by decide)
  have hw := d.write_un first (bytesOf (headSec (headOf (d.now first) + 1)) 0 64) (by omega) (by rw [bytesOf_length]; omega) hd hu
  have hd2 := DM.write_down d (first : Nat) (bytesOf (headSec (headOf (d.now first) + 1)) 0 64) hw.1
  unfold DM.open
  rw [if_neg (by rw [hd]; decide), if_neg hne]
  unfold DM.head
  have hf := DM.flush_un (d.write (first : Nat) (bytesOf (headSec (headOf (d.now first) + 1)) 0 64)).2 hd2 (by rw [hw.2]; exact hu)
  rw [if_neg (by rw [hw.1]; decide), if_neg (by rw [hf.1]; decide)]
  exact ⟨rfl, by show (d.write (first : Nat) _).2.flush.2.left = _; rw [hf.2, hw.2]⟩
/-- a log of another epoch over the region -/
theorem Kept.open_other (h : Kept d T N first c ep cap k) (hcap : cap < 4294967295) (hd : d.down = false) (hu : d.left < 0) (other : BitVec 32) :
    (d.open first c other).1 = 0 ∧ ∃ m recs, (d.open first c other).2.2 = some (m, recs) ∧ (other ≠ ep → recs = []) := by
  obtain ⟨hr, hc1, hc2⟩ := h.reg
  obtain ⟨ho, hnow, hh⟩ := h.own
  have hun := d.open_un first c other hr hc1 hd hu (by omega)
  rcases d.open_cases first c other hr hc1 hd (by omega) hnow with ⟨a1, a2, a3, a4, a5, a6, a7⟩ | ⟨a1, _⟩
  · refine ⟨a1, _, _, a7, fun hne => ?_⟩
    rw [a5, show c - 1 = (c - 2) + 1 by omega, readLoop]
    rw [if_pos]
    · rfl
    · rw [sset_ne _ _ _ _ (Nat.le_refl _)]
      by_cases hs : sumOk (d.now (first + 1)) = true
      · have := ho 1 (Nat.le_refl _) (by omega) hs
        unfold badSec
        simp [this, Ne.symm hne]
      · exact badSec_sum (by simpa using hs)
  · rw [hun.1] at a1; cases a1
theorem LM.appLoop_down (m : LM) (bs : List (BitVec 8)) (n : Nat) : ∀ (r i : Nat) (d : DM), d.down = false → (m.appLoop bs n i r d).1 = 0 → (m.appLoop bs n i r d).2.down = false
  | 0, _, _, hd, _ => hd
  | r + 1, i, d, _, h => by
    rw [LM.appLoop] at h ⊢
    have hw := DM.write_down d (m.first + (m.next + i) : Nat) (bytesOf (m.sec bs n i) 0 64)
    generalize d.write (m.first + (m.next + i) : Nat) (bytesOf (m.sec bs n i) 0 64) = x at *
    by_cases h0 : x.1 = 0
    · rw [if_pos h0] at h ⊢
      exact m.appLoop_down bs n r (i + 1) x.2 (hw h0) h
    · rw [if_neg h0] at h ⊢
      exact absurd h h0
/-- Append to an unarmed disk -/
theorem LM.append_un (m : LM) (d : DM) (bs : List (BitVec 8)) (hd : d.down = false) (hu : d.left < 0) (hn : m.first + m.count ≤ d.n) (hnx : m.next ≤ m.count) :
    (m.append d bs).2.2.down = false ∧ (m.append d bs).2.2.left < 0 ∧ ((2000 < bs.length ∧ (m.append d bs).1 = 2) ∨ (bs.length ≤ 2000 ∧ m.count - m.next < secs bs.length ∧ (m.append d bs).1 = 3) ∨ (bs.length ≤ 2000 ∧ secs bs.length ≤ m.count - m.next ∧ (m.append d bs).1 = 0)) := by
  unfold LM.append
  by_cases h1 : 2000 < bs.length
  · rw [if_pos h1]; exact ⟨hd, hu, Or.inl ⟨h1, rfl⟩⟩
  rw [if_neg h1]
  by_cases h2 : m.count - m.next < secs bs.length
  · rw [if_pos h2]; exact ⟨hd, hu, Or.inr (Or.inl ⟨by omega, h2, rfl⟩)⟩
  rw [if_neg h2]
  have h3 := m.appLoop_un bs (secs bs.length) 0 d (by omega) (by omega) hd hu
  rw [if_pos h3.1]
  refine ⟨?_, by show (m.appLoop bs (secs bs.length) 0 (secs bs.length) d).2.left < 0; rw [h3.2]; exact hu, Or.inr (Or.inr ⟨by omega, by omega, rfl⟩)⟩
  exact m.appLoop_down bs _ _ _ d hd h3.1
end
end Go.Proofs.Ytjhnkpohdlilpaa
