/-
  the history of a region: what is written, what lasts, what a crash leaves
-/
import Derived.Test.YtjhnkpohdlilpaaDiskPlain
import Derived.Test.YtjhnkpohdlilpaaTold
import Derived.Test.YtjhnkpohdlilpaaTheory
import Derived.Test.YtjhnkpohdlilpaaReadAll
import Derived.Test.YtjhnkpohdlilpaaReadLem
import Derived.Test.YtjhnkpohdlilpaaSteps
import Derived.Maps.AppendAt
import Derived.Laws.BytesString
import Derived.Test.YtjhnkpohdlilpaaAppend
import Derived.Test.YtjhnkpohdlilpaaAppendOk
import Derived.Test.YtjhnkpohdlilpaaAppendLem
import Derived.Test.YtjhnkpohdlilpaaLogSmall
import Derived.Test.YtjhnkpohdlilpaaNewDisk
import Derived.Test.YtjhnkpohdlilpaaCrash
import Derived.Test.YtjhnkpohdlilpaaFlush
import Derived.Test.YtjhnkpohdlilpaaWrite
import Derived.Test.YtjhnkpohdlilpaaAppendPend
import Derived.Deep.AppendLies
import Derived.Great.BuildSlice
import Derived.Test.YtjhnkpohdlilpaaDiskLem
import Derived.Test.YtjhnkpohdlilpaaRead
import Derived.Test.YtjhnkpohdlilpaaOut
import Derived.Test.YtjhnkpohdlilpaaDiskSmall
import Derived.Test.YtjhnkpohdlilpaaDisk
import Derived.Test.YtjhnkpohdlilpaaAtom
import Derived.Test.YtjhnkpohdlilpaaDecode
import Derived.Test.YtjhnkpohdlilpaaEncode
import Derived.Test.YtjhnkpohdlilpaaTake
import Derived.Test.YtjhnkpohdlilpaaCopy
import Derived.Laws.CopyOwn
import Derived.Deep.OwnRows
import Derived.Deep.MidRow
import Derived.Test.YtjhnkpohdlilpaaPut
import Derived.Test.YtjhnkpohdlilpaaRows
import Derived.Test.YtjhnkpohdlilpaaWords
import Derived.Test.YtjhnkpohdlilpaaMem
import Derived.Test.YtjhnkpohdlilpaaTail
import Derived.Test.YtjhnkpohdlilpaaCrc
import Derived.Test.YtjhnkpohdlilpaaArr
import Derived.RangeFuncNested
import Derived.RangeFuncBound
import Derived.RangeFuncCalls
import Derived.RangeFuncLeaves
import Derived.Shelf.Abstract
import Derived.Shelf.RegionOpen
import Derived.WalkKit
import Derived.OwnWalkIn
import Derived.TacticsInMore
import Derived.LoopNIn
import Derived.LoopIn
import Derived.WalkSpells
import Derived.WalkLawsBesides
import Derived.Lib.Hide
import Derived.BigQuiet
import Derived.Outline
import Derived.Deep.DeepFit
import Derived.Test.YtjhnkpohdlilpaaPlainA
namespace Go.Proofs.Ytjhnkpohdlilpaa
open Go.RowKit Go.Shelf
attribute [local go_sem] Oper.semAt_some
theorem headS_says (h : BitVec 32) : Says (headS h) 0 h 0 4 [] := says_sec 0 h 0 4 [] (by simp) (by omega)
theorem headOf_headS (h : BitVec 32) : headOf (headS h) = h := by
  have hs := headS_says h
  unfold headOf
  rw [hs.ok, hs.flags, hs.place, hs.life]
  rfl
/-- THE HISTORY of a region: what was told when life l began (T), what has been appended since (N; a record X of which some sectors are written), what of it has lasted for sure (the first k), and where the sectors may lie -/
structure Hist (d : DM) (first c : Nat) (ep : BitVec 32) (cap : Nat) (s0 : Nat → Sec) (T N : List (List (BitVec 8))) (X : List (BitVec 8)) (k q W : Nat) (l most0 la : BitVec 32) : Prop where
  op : Opened s0 first c ep most0 T q la
  lt : most0.toNat < l.toNat
  hc1 : 2 ≤ c
  hc2 : c ≤ 4096
  hW1 : q + tot N ≤ W
  hW2 : W < q + tot N + secs X.length
  hWc : W ≤ c
  hk : k ≤ N.length
  reg : first + c ≤ d.n
  las_pre : ∀ p, 1 ≤ p → p < q → d.las (first + p) = s0 (first + p)
  las_mix : ∀ p, q ≤ p → p < c → d.las (first + p) = s0 (first + p) ∨ (p < W ∧ lay ep l q (N ++ [X]) p = some (d.las (first + p)))
  las_last : ∀ p, q ≤ p → p < q + tot (N.take k) → lay ep l q (N ++ [X]) p = some (d.las (first + p))
  pnd : ∀ x ∈ d.pend, (x.1 = first ∧ ∃ h : BitVec 32, x.2 = headS h ∧ l.toNat ≤ h.toNat ∧ h.toNat ≤ cap) ∨ (∃ p, x.1 = first + p ∧ q ≤ p ∧ p < W ∧ lay ep l q (N ++ [X]) p = some x.2)
  head1 : l.toNat ≤ (headOf (d.las first)).toNat
  head2 : (headOf (d.las first)).toNat ≤ cap
  now : d.now = foldP d.las d.pend
section
variable {d d' : DM} {first c : Nat} {ep : BitVec 32} {cap : Nat} {s0 : Nat → Sec} {T N : List (List (BitVec 8))} {X : List (BitVec 8)} {k q W : Nat} {l most0 la : BitVec 32}
theorem Hist.same (h : Hist d first c ep cap s0 T N X k q W l most0 la) (hs : SameD d d') : Hist d' first c ep cap s0 T N X k q W l most0 la :=
  ⟨h.op, h.lt, h.hc1, h.hc2, h.hW1, h.hW2, h.hWc, h.hk, by rw [hs.n]; exact h.reg, by rw [hs.las]; exact h.las_pre, by rw [hs.las]; exact h.las_mix, by rw [hs.las]; exact h.las_last, by rw [hs.pend]; exact h.pnd, by rw [hs.las]; exact h.head1, by rw [hs.las]; exact h.head2, by rw [hs.now, hs.las, hs.pend]; exact h.now⟩
theorem Hist.widen (h : Hist d first c ep cap s0 T N X k q W l most0 la) {cap' : Nat} (hc : cap ≤ cap') : Hist d first c ep cap' s0 T N X k q W l most0 la :=
  ⟨h.op, h.lt, h.hc1, h.hc2, h.hW1, h.hW2, h.hWc, h.hk, h.reg, h.las_pre, h.las_mix, h.las_last, fun x hx => (h.pnd x hx).imp (fun ⟨a, hh, b, e, f⟩ => ⟨a, hh, b, e, by omega⟩) id, h.head1, by have := h.head2; omega, h.now⟩
/-- the sectors that would last if these of the pending writes were kept: any function that takes each place's from those or from what lasts -/
theorem Hist.mixed (h : Hist d first c ep cap s0 T N X k q W l most0 la) (f : Nat → Sec) (hf : ∀ x, f x = d.las x ∨ ∃ y ∈ d.pend, y.1 = x ∧ f x = y.2) :
    (∀ p, 1 ≤ p → p < q → f (first + p) = s0 (first + p)) ∧ (∀ p, q ≤ p → p < c → f (first + p) = s0 (first + p) ∨ (p < W ∧ lay ep l q (N ++ [X]) p = some (f (first + p)))) ∧
    (∀ p, q ≤ p → p < q + tot (N.take k) → lay ep l q (N ++ [X]) p = some (f (first + p))) ∧ l.toNat ≤ (headOf (f first)).toNat ∧ (headOf (f first)).toNat ≤ cap := by
  have hq := h.op.q1
  refine ⟨fun p h1 h2 => ?_, fun p h1 h2 => ?_, fun p h1 h2 => ?_, ?_⟩
  · rcases hf (first + p) with e | ⟨y, hy, e1, e2⟩
    · rw [e]; exact h.las_pre p h1 h2
    · rcases h.pnd y hy with ⟨a, _⟩ | ⟨p', a, b, _⟩ <;> omega
  · rcases hf (first + p) with e | ⟨y, hy, e1, e2⟩
    · rw [e]; exact h.las_mix p h1 h2
    · rcases h.pnd y hy with ⟨a, _⟩ | ⟨p', a, b, b2, e⟩
      · omega
      · obtain rfl : p' = p := by omega
        rw [e2]; exact Or.inr ⟨b2, e⟩
  · rcases hf (first + p) with e | ⟨y, hy, e1, e2⟩
    · rw [e]; exact h.las_last p h1 h2
    · rcases h.pnd y hy with ⟨a, _⟩ | ⟨p', a, b, b2, e⟩
      · omega
      · obtain rfl : p' = p := by omega
        rw [e2]; exact e
  · rcases hf first with e | ⟨y, hy, e1, e2⟩
    · rw [e]; exact ⟨h.head1, h.head2⟩
    · rcases h.pnd y hy with ⟨a, hh, b, b1, b2⟩ | ⟨p', a, b, b2, e⟩
      · rw [e2, b, headOf_headS]; exact ⟨b1, b2⟩
      · omega
/-- a crash -/
theorem Hist.crash (h : Hist d first c ep cap s0 T N X k q W l most0 la) (kb : List Bool) : Hist (d.crash kb) first c ep cap s0 T N X k q W l most0 la := by
  obtain ⟨h1, h2, h3, h4, h5⟩ := h.mixed (crLas d.pend kb d.las d.pend.length) (fun x => crLas_cases _ _ _ _ _)
  exact ⟨h.op, h.lt, h.hc1, h.hc2, h.hW1, h.hW2, h.hWc, h.hk, h.reg, h1, h2, h3, fun x hx => (by cases hx), h4, h5, rfl⟩
/-- the sectors that the log has written in this life lie as last written -/
def Cov (d : DM) (first : Nat) (ep l : BitVec 32) (q W : Nat) (N : List (List (BitVec 8))) (X : List (BitVec 8)) : Prop := ∀ p, q ≤ p → p < W → lay ep l q (N ++ [X]) p = some (d.now (first + p))
theorem Cov.same (h : Cov d first ep l q W N X) (hs : SameD d d') : Cov d' first ep l q W N X := by unfold Cov; rw [hs.now]; exact h
theorem take_all {α : Type} (N : List α) : N.take N.length = N := List.take_length
/-- what was made to last -/
theorem Hist.flushed (h : Hist d first c ep cap s0 T N X k q W l most0 la) (hcov : Cov d first ep l q W N X) (hn : d'.n = d.n) (hl : d'.las = foldP d.las d.pend) (hw : d'.now = d.now) (hp : d'.pend = []) :
    Hist d' first c ep cap s0 T N X N.length q W l most0 la ∧ Cov d' first ep l q W N X := by
  obtain ⟨h1, h2, h3, h4, h5⟩ := h.mixed (foldP d.las d.pend) (fun x => foldP_cases _ _ _)
  refine ⟨⟨h.op, h.lt, h.hc1, h.hc2, h.hW1, h.hW2, h.hWc, Nat.le_refl _, by rw [hn]; exact h.reg, by rw [hl]; exact h1, by rw [hl]; exact h2, ?_, fun x hx => (by rw [hp] at hx; cases hx), by rw [hl]; exact h4, by rw [hl]; exact h5, by rw [hw, hl, hp]; exact h.now⟩, by unfold Cov; rw [hw]; exact hcov⟩
  intro p hp1 hp2
  rw [take_all] at hp2
  rw [hl, ← h.now]
  exact hcov p hp1 (by have := h.hW1; omega)
/-- what the life's log says -/
def LogOf (m : LM) (first c : Nat) (ep l : BitVec 32) (q : Nat) (N : List (List (BitVec 8))) : Prop := m.first = first ∧ m.count = c ∧ m.epoch = ep ∧ m.life = l ∧ m.next = q + tot N
theorem foldP_append (las : Nat → Sec) (a b : List (Nat × Sec)) : foldP las (a ++ b) = foldP (foldP las a) b := by unfold foldP; rw [List.foldl_append]
theorem foldP_secList (m : LM) (bs : List (BitVec 8)) (s : Nat → Sec) : ∀ (t : Nat), (∀ j, j < t → foldP s (m.secList bs 0 t) (m.first + (m.next + j)) = newSec m.epoch m.life bs j (m.next + j)) ∧ (∀ x, (x < m.first + m.next ∨ m.first + (m.next + t) ≤ x) → foldP s (m.secList bs 0 t) x = s x)
  | 0 => ⟨fun j hj => by omega, fun _ _ => rfl⟩
  | t + 1 => by
    obtain ⟨h1, h2⟩ := foldP_secList m bs s t
    rw [LM.secList, foldP_snoc]
    refine ⟨fun j hj => ?_, fun x hx => ?_⟩
    · unfold sset
      by_cases e : j = t
      · subst e
        rw [if_pos (by omega), Nat.zero_add]
      · rw [if_neg (by omega)]
        exact h1 j (by omega)
    · unfold sset
      rw [if_neg (by omega)]
      exact h2 x (by omega)
/-- records are appended -/
theorem Hist.append (h : Hist d first c ep cap s0 T N X k q W l most0 la) {m : LM} (hm : LogOf m first c ep l q N) (hcov : Cov d first ep l q W N X) (hW : d.down = false → W = q + tot N) (bs : List (BitVec 8)) :
    ((m.append d bs).1 = 0 ∧ ∃ X' W', Hist (m.append d bs).2.2 first c ep cap s0 T (N ++ [bs]) X' k q W' l most0 la ∧ Cov (m.append d bs).2.2 first ep l q W' (N ++ [bs]) X' ∧ ((m.append d bs).2.2.down = false → W' = q + tot (N ++ [bs])) ∧ LogOf (m.append d bs).2.1 first c ep l q (N ++ [bs])) ∨
    ((m.append d bs).1 ≠ 0 ∧ ∃ X' W', Hist (m.append d bs).2.2 first c ep cap s0 T N X' k q W' l most0 la ∧ Cov (m.append d bs).2.2 first ep l q W' N X' ∧ ((m.append d bs).2.2.down = false → W' = q + tot N) ∧ LogOf (m.append d bs).2.1 first c ep l q N) := by
  obtain ⟨hm1, hm2, hm3, hm4, hm5⟩ := hm
  have hq := h.op.q1
  unfold LM.append
  by_cases h1 : 2000 < bs.length
  · rw [if_pos h1]; exact Or.inr ⟨(by show (2:Int) ≠ 0; decide), X, W, h, hcov, hW, hm1, hm2, hm3, hm4, hm5⟩
  rw [if_neg h1]
  by_cases h2 : m.count - m.next < secs bs.length
  · rw [if_pos h2]; exact Or.inr ⟨(by show (3:Int) ≠ 0; decide), X, W, h, hcov, hW, hm1, hm2, hm3, hm4, hm5⟩
  rw [if_neg h2]
  have hreg := h.reg
  have hWc := h.hWc
  have hW1 := h.hW1
  have hpos := secs_pos' bs.length
  have hroom : m.next + secs bs.length ≤ c := by omega
  obtain ⟨t, ht, a1, a2, a3, a4, a5⟩ := m.appLoop_steps bs (secs bs.length) 0 d (by omega) (by omega) h.now
  generalize m.appLoop bs (secs bs.length) 0 (secs bs.length) d = r at *
  obtain ⟨f1, f2⟩ := foldP_secList m bs d.now t
  have hnow' : r.2.now = foldP d.now (m.secList bs 0 t) := by rw [a4, a2, a3, foldP_append, ← h.now]
  -- how the layouts agree
  have key : ∀ (N' : List (List (BitVec 8))) (X' : List (BitVec 8)), d.down = false → (N' ++ [X'] = N ++ [bs] ∨ N' = N ++ [bs]) → (∀ p, p < W → lay ep l q (N' ++ [X']) p = lay ep l q (N ++ [X]) p) ∧ (∀ j, j < secs bs.length → lay ep l q (N' ++ [X']) (m.next + j) = some (newSec ep l bs j (m.next + j))) := by
    intro N' X' hd hN'
    have hWe := hW hd
    have hb : ∀ p, p < W → lay ep l q (N ++ [bs]) p = lay ep l q (N ++ [X]) p := fun p hp => by
      rw [lay_append ep l [bs] N q p (by omega), lay_append ep l [X] N q p (by omega)]
    have hnw : ∀ j, j < secs bs.length → lay ep l q (N ++ [bs]) (m.next + j) = some (newSec ep l bs j (m.next + j)) := fun j hj => by
      rw [lay_append_ge ep l [bs] N q _ (by omega), lay, if_pos (by omega), show m.next + j - (q + tot N) = j by omega]
    rcases hN' with e | e
    · rw [e]; exact ⟨hb, hnw⟩
    · subst e
      have ht1 : tot (N ++ [bs]) = tot N + secs bs.length := by rw [tot_append]; simp [tot]
      exact ⟨fun p hp => by rw [lay_append ep l [X'] (N ++ [bs]) q p (by omega)]; exact hb p hp, fun j hj => by rw [lay_append ep l [X'] (N ++ [bs]) q _ (by omega)]; exact hnw j hj⟩
  have build : ∀ (N' : List (List (BitVec 8))) (X' : List (BitVec 8)), d.down = false → (N' ++ [X'] = N ++ [bs] ∨ N' = N ++ [bs]) → q + tot N' ≤ W + t → W + t < q + tot N' + secs X'.length → k ≤ N'.length → tot (N'.take k) = tot (N.take k) →
      Hist r.2 first c ep cap s0 T N' X' k q (W + t) l most0 la ∧ Cov r.2 first ep l q (W + t) N' X' := by
    intro N' X' hd hN' b1 b2 b3 b4
    obtain ⟨k1, k2⟩ := key N' X' hd hN'
    have hWe := hW hd
    refine ⟨⟨h.op, h.lt, h.hc1, h.hc2, b1, b2, by omega, b3, by rw [a1]; exact h.reg, by rw [a2]; exact h.las_pre, ?_, ?_, ?_, by rw [a2]; exact h.head1, by rw [a2]; exact h.head2, a4⟩, ?_⟩
    · intro p hp1 hp2
      rw [a2]
      rcases h.las_mix p hp1 hp2 with e | ⟨e1, e2⟩
      · exact Or.inl e
      · exact Or.inr ⟨by omega, by rw [k1 p e1]; exact e2⟩
    · intro p hp1 hp2
      rw [a2, k1 p (by
        rw [b4] at hp2
        have : tot (N.take k) ≤ tot N := by
          have e := tot_append (N.take k) (N.drop k)
          rw [List.take_append_drop] at e
          omega
        omega)]
      exact h.las_last p hp1 (by rw [← b4]; exact hp2)
    · intro x hx
      rw [a3] at hx
      rcases List.mem_append.1 hx with hx | hx
      · rcases h.pnd x hx with e | ⟨p, e1, e2, e3, e4⟩
        · exact Or.inl e
        · exact Or.inr ⟨p, e1, e2, by omega, by rw [k1 p e3]; exact e4⟩
      · obtain ⟨j, hj, rfl⟩ := m.secList_mem bs 0 t x hx
        rw [Nat.zero_add, hm3, hm4]
        exact Or.inr ⟨m.next + j, by rw [hm1], by omega, by omega, k2 j (by omega)⟩
    · intro p hp1 hp2
      rw [hnow']
      by_cases hpW : p < W
      · rw [k1 p hpW, f2 (first + p) (Or.inl (by omega))]
        exact hcov p hp1 hpW
      · have := k2 (p - m.next) (by omega)
        rw [show m.next + (p - m.next) = p by omega] at this
        rw [this]
        have hf := f1 (p - m.next) (by omega)
        rw [show m.next + (p - m.next) = p by omega, hm1, hm3, hm4] at hf
        rw [hf]
  have hk := h.hk
  rcases a5 with ⟨b1, b2, b3, b4⟩ | ⟨b1, b2, b3, b4⟩
  · rw [if_pos b1]
    have hd := b4 (by omega)
    have hWe := hW hd
    have ht1 : tot (N ++ [bs]) = tot N + secs bs.length := by rw [tot_append]; simp [tot]
    obtain ⟨g1, g2⟩ := build (N ++ [bs]) [] hd (Or.inr rfl) (by rw [ht1]; omega) (by rw [ht1]; have := secs_pos' ([] : List (BitVec 8)).length; omega) (by simp; omega) (by rw [List.take_append_of_le_length hk])
    exact Or.inl ⟨rfl, [], W + t, g1, g2, fun _ => by rw [ht1]; omega, hm1, hm2, hm3, hm4, by show m.next + secs bs.length = _; rw [ht1]; omega⟩
  · rw [if_neg (by rw [b1]; decide)]
    by_cases hd : d.down = false
    · have hWe := hW hd
      obtain ⟨g1, g2⟩ := build N bs hd (Or.inl rfl) (by omega) (by omega) hk rfl
      exact Or.inr ⟨by rw [b1]; decide, bs, W + t, g1, g2, fun e => (by have e' : r.2.down = false := e; rw [b3] at e'; cases e'), hm1, hm2, hm3, hm4, hm5⟩
    · have hd' : d.down = true := by simpa using hd
      have ht0 := b4 hd'
      subst ht0
      have hs : SameD d r.2 := ⟨a1, by rw [hnow']; rfl, a2, by rw [a3]; simp [LM.secList]⟩
      exact Or.inr ⟨by rw [b1]; decide, X, W, h.same hs, hcov.same hs, fun e => (by have e' : r.2.down = false := e; rw [b3] at e'; cases e'), hm1, hm2, hm3, hm4, hm5⟩
end
end Go.Proofs.Ytjhnkpohdlilpaa
