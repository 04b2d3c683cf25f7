/-
  a life begins: Open over a history
-/
import Derived.Test.YtjhnkpohdlilpaaHist
import Derived.Test.YtjhnkpohdlilpaaDiskPlain
import Derived.Test.YtjhnkpohdlilpaaTold
import Derived.Test.YtjhnkpohdlilpaaTheory
import Derived.Test.YtjhnkpohdlilpaaReadAll
import Derived.Test.YtjhnkpohdlilpaaReadLem
import Derived.Test.YtjhnkpohdlilpaaSteps
import Derived.Maps.AppendAt
import Derived.Laws.BytesString
import Derived.Test.YtjhnkpohdlilpaaAppend
import Derived.Test.YtjhnkpohdlilpaaAppendOk
import Derived.Test.YtjhnkpohdlilpaaAppendLem
import Derived.Test.YtjhnkpohdlilpaaLogSmall
import Derived.Test.YtjhnkpohdlilpaaNewDisk
import Derived.Test.YtjhnkpohdlilpaaCrash
import Derived.Test.YtjhnkpohdlilpaaFlush
import Derived.Test.YtjhnkpohdlilpaaWrite
import Derived.Test.YtjhnkpohdlilpaaAppendPend
import Derived.Deep.AppendLies
import Derived.Great.BuildSlice
import Derived.Test.YtjhnkpohdlilpaaDiskLem
import Derived.Test.YtjhnkpohdlilpaaRead
import Derived.Test.YtjhnkpohdlilpaaOut
import Derived.Test.YtjhnkpohdlilpaaDiskSmall
import Derived.Test.YtjhnkpohdlilpaaDisk
import Derived.Test.YtjhnkpohdlilpaaAtom
import Derived.Test.YtjhnkpohdlilpaaDecode
import Derived.Test.YtjhnkpohdlilpaaEncode
import Derived.Test.YtjhnkpohdlilpaaTake
import Derived.Test.YtjhnkpohdlilpaaCopy
import Derived.Laws.CopyOwn
import Derived.Deep.OwnRows
import Derived.Deep.MidRow
import Derived.Test.YtjhnkpohdlilpaaPut
import Derived.Test.YtjhnkpohdlilpaaRows
import Derived.Test.YtjhnkpohdlilpaaWords
import Derived.Test.YtjhnkpohdlilpaaMem
import Derived.Test.YtjhnkpohdlilpaaTail
import Derived.Test.YtjhnkpohdlilpaaCrc
import Derived.Test.YtjhnkpohdlilpaaArr
import Derived.RangeFuncNested
import Derived.RangeFuncBound
import Derived.RangeFuncCalls
import Derived.RangeFuncLeaves
import Derived.Shelf.Abstract
import Derived.Shelf.RegionOpen
import Derived.WalkKit
import Derived.OwnWalkIn
import Derived.TacticsInMore
import Derived.LoopNIn
import Derived.LoopIn
import Derived.WalkSpells
import Derived.WalkLawsBesides
import Derived.Lib.Hide
import Derived.BigQuiet
import Derived.Outline
import Derived.Deep.DeepFit
import Derived.Test.YtjhnkpohdlilpaaPlainA
namespace Go.Proofs.Ytjhnkpohdlilpaa
open Go.RowKit Go.Shelf
attribute [local go_sem] Oper.semAt_some
section
variable {d d' : DM} {first c : Nat} {ep : BitVec 32} {cap : Nat} {s0 : Nat → Sec} {T N : List (List (BitVec 8))} {X : List (BitVec 8)} {k q W : Nat} {l most0 la : BitVec 32}
/-- every sector that says anything says the epoch -/
def OwnS (f : Nat → Sec) (first c : Nat) (ep : BitVec 32) : Prop := ∀ p, 1 ≤ p → p < c → sumOk (f (first + p)) = true → get32 (f (first + p)) 4 4 = ep
/-- where a life begins: the record of what Open found, of the new life -/
structure Begun (d : DM) (m : LM) (recs : List (List (BitVec 8))) (first c : Nat) (ep : BitVec 32) (cap : Nat) : Prop where
  pf : ∃ (s0 : Nat → Sec) (q : Nat) (l most0 la : BitVec 32), Hist d first c ep cap s0 recs [] [] 0 q q l most0 la ∧ Cov d first ep l q q [] [] ∧ LogOf m first c ep l q [] ∧ OwnS s0 first c ep
  on : d.down = false
  pend : d.pend = []
/-- what DM.open does to a disk that is on, where the head is not the last -/
theorem DM.open_cases (d : DM) (first c : Nat) (ep : BitVec 32) (hc : first + c ≤ d.n) (hc2 : 2 ≤ c) (hd : d.down = false) (hh : (headOf (d.now first)).toNat < 4294967295) (hnow : d.now = foldP d.las d.pend) :
    ((d.open first c ep).1 = 0 ∧ (d.open first c ep).2.1.n = d.n ∧ (d.open first c ep).2.1.down = false ∧ (d.open first c ep).2.1.pend = [] ∧ (d.open first c ep).2.1.now = sset d.now first (headS (headOf (d.now first) + 1)) ∧ (d.open first c ep).2.1.las = (d.open first c ep).2.1.now ∧
      (d.open first c ep).2.2 = some (⟨first, c, ep, headOf (d.now first) + 1, (readLoop (d.open first c ep).2.1.now first ep (headOf (d.now first)) 1 (c - 1) st0).next⟩, (readLoop (d.open first c ep).2.1.now first ep (headOf (d.now first)) 1 (c - 1) st0).recs)) ∨
    ((d.open first c ep).1 = 10 ∧ (d.open first c ep).2.2 = none ∧ (d.open first c ep).2.1.down = true ∧ (d.open first c ep).2.1.n = d.n ∧ (d.open first c ep).2.1.las = d.las ∧
      (((d.open first c ep).2.1.pend = d.pend ∧ (d.open first c ep).2.1.now = d.now) ∨ ((d.open first c ep).2.1.pend = d.pend ++ [(first, headS (headOf (d.now first) + 1))] ∧ (d.open first c ep).2.1.now = sset d.now first (headS (headOf (d.now first) + 1))))) := by
  have hne : headOf (d.now first) ≠ 0xffffffff#32 := fun e => by rw [e] at hh; exact absurd hh (by decide)
  have hw := d.write_cases first (bytesOf (headSec (headOf (d.now first) + 1)) 0 64) (by omega) (by rw [bytesOf_length]; omega)
  unfold DM.open
  rw [if_neg (by rw [hd]; decide), if_neg hne]
  unfold DM.head
  rcases hw with ⟨h0, _, hd2, hn2, hl2, hw2, hp2⟩ | ⟨h0, hd2, hs⟩
  · generalize d.write (first : Nat) (bytesOf (headSec (headOf (d.now first) + 1)) 0 64) = x at *
    rw [if_neg (by rw [h0]; decide)]
    rcases x.2.flush_cases with ⟨f0, _, fd, fn, fl, fw, fp⟩ | ⟨f0, fd, fs⟩
    · rw [if_neg (by rw [f0]; decide)]
      refine Or.inl ⟨rfl, fn.trans hn2, fd, fp, fw.trans hw2, ?_, rfl⟩
      show x.2.flush.2.las = x.2.flush.2.now
      rw [fl, fw, hw2, hl2, hp2, foldP_snoc, hnow]
    · rw [if_pos (by rw [f0]; decide)]
      exact Or.inr ⟨f0, rfl, fd, fs.n.trans hn2, fs.las.trans hl2, Or.inr ⟨fs.pend.trans hp2, fs.now.trans hw2⟩⟩
  · generalize d.write (first : Nat) (bytesOf (headSec (headOf (d.now first) + 1)) 0 64) = x at *
    rw [if_pos (by rw [h0]; decide)]
    exact Or.inr ⟨h0, rfl, hd2, hs.n, hs.las, Or.inl ⟨hs.pend, hs.now⟩⟩
/-- sectors other than the head -/
theorem sset_ne (f : Nat → Sec) (first p : Nat) (s : Sec) (hp : 1 ≤ p) : sset f first s (first + p) = f (first + p) := by unfold sset; rw [if_neg (by omega)]
theorem toNat_succ (h : BitVec 32) (hh : h.toNat < 4294967295) : (h + 1).toNat = h.toNat + 1 := by rw [BitVec.toNat_add]; show (h.toNat + 1) % 4294967296 = _; omega
/-- the sectors' lives are not above the head's -/
theorem Hist.low (h : Hist d first c ep cap s0 T N X k q W l most0 la) (most : BitVec 32) (hm : l.toNat ≤ most.toNat) (p : Nat) (h1 : 1 ≤ p) (h2 : p < c) (f : Nat → Sec) (hf1 : p < q → f (first + p) = s0 (first + p)) (hf2 : q ≤ p → f (first + p) = s0 (first + p) ∨ (p < W ∧ lay ep l q (N ++ [X]) p = some (f (first + p)))) :
    sumOk (f (first + p)) = true → (get32 (f (first + p)) 8 4).toNat ≤ most.toNat := by
  intro hs
  have hlt := h.lt
  have h0 : f (first + p) = s0 (first + p) → (get32 (f (first + p)) 8 4).toNat ≤ most.toNat := fun e => by
    rw [e] at hs ⊢
    have := h.op.low p h1 h2 hs
    omega
  by_cases hq : p < q
  · exact h0 (hf1 hq)
  · rcases hf2 (by omega) with e | ⟨e1, e2⟩
    · exact h0 e
    · have := h.hc2
      obtain ⟨fl, bs, hsy⟩ := lay_says ep l _ q p _ (by omega) e2
      rw [hsy.life]; exact hm
theorem Hist.own (h : Hist d first c ep cap s0 T N X k q W l most0 la) (ho : OwnS s0 first c ep) (f : Nat → Sec) (hf1 : ∀ p, 1 ≤ p → p < q → f (first + p) = s0 (first + p)) (hf2 : ∀ p, q ≤ p → p < c → f (first + p) = s0 (first + p) ∨ (p < W ∧ lay ep l q (N ++ [X]) p = some (f (first + p)))) : OwnS f first c ep := by
  intro p h1 h2 hs
  have h0 : f (first + p) = s0 (first + p) → get32 (f (first + p)) 4 4 = ep := fun e => by
    rw [e] at hs ⊢
    exact ho p h1 h2 hs
  by_cases hq : p < q
  · exact h0 (hf1 p h1 hq)
  · rcases hf2 p (by omega) h2 with e | ⟨e1, e2⟩
    · exact h0 e
    · have := h.hc2
      obtain ⟨fl, bs, hsy⟩ := lay_says ep l _ q p _ (by omega) e2
      exact hsy.ep
/-- THE OPENING of a region with a history -/
theorem Hist.open (h : Hist d first c ep cap s0 T N X k q W l most0 la) (hown : OwnS s0 first c ep) (hcap : cap < 4294967295) (hd : d.down = false) :
    ((d.open first c ep).1 = 0 ∧ ∃ m recs j, (d.open first c ep).2.2 = some (m, recs) ∧ k ≤ j ∧ j ≤ N.length ∧ recs = T ++ N.take j ∧ Begun (d.open first c ep).2.1 m recs first c ep (cap + 1)) ∨
    ((d.open first c ep).1 = 10 ∧ (d.open first c ep).2.2 = none ∧ (d.open first c ep).2.1.down = true ∧ Hist (d.open first c ep).2.1 first c ep (cap + 1) s0 T N X k q W l most0 la) := by
  obtain ⟨h1, h2, h3, h4, h5⟩ := h.mixed (foldP d.las d.pend) (fun x => foldP_cases _ _ _)
  rw [← h.now] at h1 h2 h3 h4 h5
  have hsuc := toNat_succ (headOf (d.now first)) (by omega)
  have hq := h.op.q1
  rcases d.open_cases first c ep h.reg h.hc1 hd (by omega) h.now with ⟨a1, a2, a3, a4, a5, a6, a7⟩ | ⟨a1, a2, a3, a4, a5, a6⟩
  · generalize d.open first c ep = r at *
    refine Or.inl ⟨a1, ?_⟩
    have hn1 : ∀ p, 1 ≤ p → r.2.1.now (first + p) = d.now (first + p) := fun p hp => by rw [a5, sset_ne _ _ _ _ hp]
    obtain ⟨j, hj1, hj2, hj3⟩ := told (now' := r.2.1.now) (most' := headOf (d.now first)) h.op h.hc2 h.lt h4 h.hW1 h.hW2 h.hWc (fun p x y => by rw [hn1 p x]; exact h1 p x y)
      (fun p x y => by rw [hn1 p (by omega)]; exact h2 p x y) h.hk (fun p x y => by rw [hn1 p (by omega)]; exact h3 p x y)
    have hlow : ∀ p, 1 ≤ p → p < c → sumOk (r.2.1.now (first + p)) = true → (get32 (r.2.1.now (first + p)) 8 4).toNat ≤ (headOf (d.now first)).toNat := fun p x y => by
      rw [hn1 p x]
      exact h.low (headOf (d.now first)) h4 p x y d.now (h1 p x) (fun z => h2 p z y)
    obtain ⟨la', ho⟩ := opened_of_read (first := first) (ep := ep) r.2.1.now c (by have := h.hc1; omega) (headOf (d.now first)) hlow
    rw [hj3] at ho a7
    generalize (readLoop r.2.1.now first ep (headOf (d.now first)) 1 (c - 1) st0).next = q' at *
    refine ⟨_, _, j, a7, hj1, hj2, rfl, ⟨r.2.1.now, q', headOf (d.now first) + 1, headOf (d.now first), la', ?_, ?_, ?_⟩, a3, a4⟩
    · have hfirst : headOf (r.2.1.las first) = headOf (d.now first) + 1 := by
        rw [a6, a5]
        unfold sset
        rw [if_pos rfl, headOf_headS]
      refine ⟨ho, by omega, h.hc1, h.hc2, by simp [tot], by simp [tot]; exact secs_pos' _, ho.qc, Nat.le_refl _, by rw [a2]; exact h.reg, fun p _ _ => by rw [a6], fun p _ _ => Or.inl (by rw [a6]), ?_, fun x hx => (by rw [a4] at hx; cases hx), by rw [hfirst]; exact Nat.le_refl _, by rw [hfirst]; omega, by rw [a4, a6]; rfl⟩
      intro p x y
      simp [tot] at y
      omega
    · intro p x y; omega
    · exact ⟨⟨rfl, rfl, rfl, rfl, by simp [tot]⟩, h.own hown _ (fun p x y => by rw [hn1 p x]; exact h1 p x y) (fun p x y => by rw [hn1 p (by omega)]; exact h2 p x y)⟩
  · generalize d.open first c ep = r at *
    refine Or.inr ⟨a1, a2, a3, ?_⟩
    have hw := h.widen (cap' := cap + 1) (by omega)
    rcases a6 with ⟨b1, b2⟩ | ⟨b1, b2⟩
    · exact hw.same ⟨a4, b2, a5, b1⟩
    · refine ⟨h.op, h.lt, h.hc1, h.hc2, h.hW1, h.hW2, h.hWc, h.hk, by rw [a4]; exact h.reg, by rw [a5]; exact h.las_pre, by rw [a5]; exact h.las_mix, by rw [a5]; exact h.las_last, ?_, by rw [a5]; exact h.head1, by rw [a5]; exact hw.head2, by rw [b2, b1, a5, foldP_snoc, h.now]⟩
      intro x hx
      rw [b1] at hx
      rcases List.mem_append.1 hx with hx | hx
      · exact hw.pnd x hx
      · obtain rfl := List.mem_singleton.1 hx
        exact Or.inl ⟨rfl, _, rfl, by omega, by omega⟩
/-- where a life begins on a new disk -/
theorem begun_new (n f c : Nat) (ep : BitVec 32) (hc : 2 ≤ c) (hc2 : c ≤ 4096) (hfc : f + c ≤ n) : Begun (DM.born n f) ⟨f, c, ep, 1, 1⟩ [] f c ep 1 := by
  have hz : ∀ p, 1 ≤ p → (DM.born n f).now (f + p) = fun _ => 0 := fun p hp => by show sset (fun _ _ => 0) f (headS 1) (f + p) = _; rw [sset_ne _ _ _ _ hp]
  have hr : readLoop (DM.born n f).now f ep 0 1 (c - 1) st0 = st0 := by
    rw [show c - 1 = (c - 2) + 1 by omega, readLoop]
    rw [if_pos (badSec_sum (by rw [hz 1 (Nat.le_refl _)]; exact sumOk_zero))]
  obtain ⟨la', ho⟩ := opened_of_read (first := f) (ep := ep) (DM.born n f).now c (by omega) 0 (fun p h1 h2 hs => by rw [hz p h1, sumOk_zero] at hs; cases hs)
  rw [hr] at ho
  have hfirst : headOf ((DM.born n f).las f) = 1 := by
    show headOf (sset _ f (headS 1) f) = 1
    unfold sset
    rw [if_pos rfl, headOf_headS]
  refine ⟨⟨(DM.born n f).now, 1, 1, 0, la', ?_, ?_, ⟨rfl, rfl, rfl, rfl, rfl⟩, fun p h1 h2 hs => (by rw [hz p h1, sumOk_zero] at hs; cases hs)⟩, rfl, rfl⟩
  · refine ⟨ho, by decide, hc, hc2, by simp [tot], by simp [tot]; exact secs_pos' _, by omega, Nat.le_refl _, hfc, fun p _ _ => rfl, fun p _ _ => Or.inl rfl, ?_, fun x hx => (by cases hx), by rw [hfirst]; exact Nat.le_refl _, by rw [hfirst]; exact Nat.le_refl _, rfl⟩
    intro p x y
    simp [tot] at y
    omega
  · intro p x y; omega
end
end Go.Proofs.Ytjhnkpohdlilpaa
