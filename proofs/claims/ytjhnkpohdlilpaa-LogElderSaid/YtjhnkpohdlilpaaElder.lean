/-
  LogElder, plain: the first place lost
-/
import Derived.Test.YtjhnkpohdlilpaaGrown
import Derived.Test.YtjhnkpohdlilpaaBegun
import Derived.Test.YtjhnkpohdlilpaaHist
import Derived.Test.YtjhnkpohdlilpaaDiskPlain
import Derived.Test.YtjhnkpohdlilpaaTold
import Derived.Test.YtjhnkpohdlilpaaTheory
import Derived.Test.YtjhnkpohdlilpaaReadAll
import Derived.Test.YtjhnkpohdlilpaaReadLem
import Derived.Test.YtjhnkpohdlilpaaSteps
import Derived.Maps.AppendAt
import Derived.Laws.BytesString
import Derived.Test.YtjhnkpohdlilpaaAppend
import Derived.Test.YtjhnkpohdlilpaaAppendOk
import Derived.Test.YtjhnkpohdlilpaaAppendLem
import Derived.Test.YtjhnkpohdlilpaaLogSmall
import Derived.Test.YtjhnkpohdlilpaaNewDisk
import Derived.Test.YtjhnkpohdlilpaaCrash
import Derived.Test.YtjhnkpohdlilpaaFlush
import Derived.Test.YtjhnkpohdlilpaaWrite
import Derived.Test.YtjhnkpohdlilpaaAppendPend
import Derived.Deep.AppendLies
import Derived.Great.BuildSlice
import Derived.Test.YtjhnkpohdlilpaaDiskLem
import Derived.Test.YtjhnkpohdlilpaaRead
import Derived.Test.YtjhnkpohdlilpaaOut
import Derived.Test.YtjhnkpohdlilpaaDiskSmall
import Derived.Test.YtjhnkpohdlilpaaDisk
import Derived.Test.YtjhnkpohdlilpaaAtom
import Derived.Test.YtjhnkpohdlilpaaDecode
import Derived.Test.YtjhnkpohdlilpaaEncode
import Derived.Test.YtjhnkpohdlilpaaTake
import Derived.Test.YtjhnkpohdlilpaaCopy
import Derived.Laws.CopyOwn
import Derived.Deep.OwnRows
import Derived.Deep.MidRow
import Derived.Test.YtjhnkpohdlilpaaPut
import Derived.Test.YtjhnkpohdlilpaaRows
import Derived.Test.YtjhnkpohdlilpaaWords
import Derived.Test.YtjhnkpohdlilpaaMem
import Derived.Test.YtjhnkpohdlilpaaTail
import Derived.Test.YtjhnkpohdlilpaaCrc
import Derived.Test.YtjhnkpohdlilpaaArr
import Derived.RangeFuncNested
import Derived.RangeFuncBound
import Derived.RangeFuncCalls
import Derived.RangeFuncLeaves
import Derived.Shelf.Abstract
import Derived.Shelf.RegionOpen
import Derived.WalkKit
import Derived.OwnWalkIn
import Derived.TacticsInMore
import Derived.LoopNIn
import Derived.LoopIn
import Derived.WalkSpells
import Derived.WalkLawsBesides
import Derived.Lib.Hide
import Derived.BigQuiet
import Derived.Outline
import Derived.Deep.DeepFit
import Derived.Test.YtjhnkpohdlilpaaPlainA
namespace Go.Proofs.Ytjhnkpohdlilpaa
open Go.RowKit Go.Shelf
attribute [local go_sem] Oper.semAt_some
/-- what Append writes -/
theorem LM.append_pend (m : LM) (d : DM) (bs : List (BitVec 8)) (hn : m.first + m.count ≤ d.n) (hnow : d.now = foldP d.las d.pend) (hnx : m.next ≤ m.count) :
    (m.append d bs).2.2.las = d.las ∧ (∃ L : List (Nat × Sec), (m.append d bs).2.2.pend = d.pend ++ L ∧ ∀ x ∈ L, m.first + m.next ≤ x.1) ∧ m.next ≤ (m.append d bs).2.1.next ∧ (m.append d bs).2.1.first = m.first := by
  unfold LM.append
  by_cases h1 : 2000 < bs.length
  · rw [if_pos h1]; exact ⟨rfl, ⟨[], by simp, fun x hx => (by cases hx)⟩, Nat.le_refl _, rfl⟩
  rw [if_neg h1]
  by_cases h2 : m.count - m.next < secs bs.length
  · rw [if_pos h2]; exact ⟨rfl, ⟨[], by simp, fun x hx => (by cases hx)⟩, Nat.le_refl _, rfl⟩
  rw [if_neg h2]
  obtain ⟨t, ht, a1, a2, a3, a4, a5⟩ := m.appLoop_steps bs (secs bs.length) 0 d (by omega) (by omega) hnow
  have hL : ∀ x ∈ m.secList bs 0 t, m.first + m.next ≤ x.1 := fun x hx => by
    obtain ⟨j, hj, rfl⟩ := m.secList_mem bs 0 t x hx
    show m.first + m.next ≤ m.first + (m.next + (0 + j))
    omega
  generalize m.appLoop bs (secs bs.length) 0 (secs bs.length) d = r at *
  split
  · exact ⟨a2, ⟨_, a3, hL⟩, by show m.next ≤ m.next + secs bs.length; omega, rfl⟩
  · exact ⟨a2, ⟨_, a3, hL⟩, Nat.le_refl _, rfl⟩
/-- a place none of whose writes is kept stays as it lasted -/
theorem crLas_none (pend : List (Nat × Sec)) (kb : List Bool) (las : Nat → Sec) (x : Nat) (h : ∀ (i : Nat) (p : Nat × Sec), kb[i]? = some true → pend[i]? = some p → p.1 ≠ x) : ∀ k, crLas pend kb las k x = las x
  | 0 => rfl
  | k + 1 => by
    unfold crLas
    split
    · rename_i hk
      cases hp : pend[k]? with
      | none => exact crLas_none pend kb las x h k
      | some p =>
        show sset (crLas pend kb las k) p.1 p.2 x = las x
        have hne := h k p (by
          rw [List.getD_eq_getElem?_getD] at hk
          cases e : kb[k]? with
          | none => rw [e] at hk; cases hk
          | some b => rw [e] at hk; simpa using hk) hp
        unfold sset
        rw [if_neg (fun e => hne e.symm)]
        exact crLas_none pend kb las x h k
    · exact crLas_none pend kb las x h k
/-- Open where the first place says nothing -/
theorem Kept.open_bare {d : DM} {T N : List (List (BitVec 8))} {first c cap k : Nat} {ep : BitVec 32} (h : Kept d T N first c ep cap k) (hcap : cap < 4294967295) (hd : d.down = false) (hu : d.left < 0) (hs : sumOk (d.now (first + 1)) = false) :
    (d.open first c ep).1 = 0 ∧ (d.open first c ep).2.1.left < 0 ∧ ∃ m, (d.open first c ep).2.2 = some (m, []) ∧ m.next = 1 ∧ Begun (d.open first c ep).2.1 m [] first c ep (cap + 1) := by
  obtain ⟨hr, hc1, hc2⟩ := h.reg
  obtain ⟨ho, hnow, hh⟩ := h.own
  have hun := d.open_un first c ep hr hc1 hd hu (by omega)
  refine ⟨hun.1, by rw [hun.2]; exact hu, ?_⟩
  rcases d.open_cases first c ep hr hc1 hd (by omega) hnow with ⟨a1, a2, a3, a4, a5, a6, a7⟩ | ⟨a1, _⟩
  · have hrl : readLoop (d.open first c ep).2.1.now first ep (headOf (d.now first)) 1 (c - 1) st0 = st0 := by
      rw [a5, show c - 1 = (c - 2) + 1 by omega, readLoop]
      rw [if_pos (badSec_sum (by rw [sset_ne _ _ _ _ (Nat.le_refl _)]; exact hs))]
    rw [hrl] at a7
    refine ⟨_, a7, rfl, ?_⟩
    rcases h.open hcap hd with ⟨_, m, recs, j, b1, b2, b3, b4, b5⟩ | ⟨b1, _⟩
    · rw [a7] at b1
      obtain ⟨rfl, rfl⟩ := Prod.mk.inj (Option.some.inj b1)
      exact b5
    · rw [hun.1] at b1; cases b1
  · rw [hun.1] at a1; cases a1
/-- a first record whose sector is the first that waits, and is not to last -/
structure Elder1 (d : DM) (m : LM) : Prop where
  first : m.first = 0
  next : 2 ≤ m.next
  las : sumOk (d.las 1) = false
  one : 1 ≤ d.pend.length
  rest : ∀ (i : Nat) (p : Nat × Sec), 1 ≤ i → d.pend[i]? = some p → p.1 ≠ 1
theorem Elder1.append {d : DM} {m : LM} (h : Elder1 d m) (bs : List (BitVec 8)) (hn : m.first + m.count ≤ d.n) (hnow : d.now = foldP d.las d.pend) (hnx : m.next ≤ m.count) : Elder1 (m.append d bs).2.2 (m.append d bs).2.1 := by
  obtain ⟨a1, ⟨L, a2, a3⟩, a4, a5⟩ := m.append_pend d bs hn hnow hnx
  have h2 := h.next
  have h1 := h.first
  have h3 := h.one
  refine ⟨a5.trans h1, by omega, by rw [a1]; exact h.las, by rw [a2, List.length_append]; omega, fun i p hi hp => ?_⟩
  rw [a2] at hp
  by_cases hlt : i < d.pend.length
  · rw [List.getElem?_append_left hlt] at hp
    exact h.rest i p hi hp
  · rw [List.getElem?_append_right (by omega)] at hp
    have := a3 p (List.mem_of_getElem? hp)
    omega
theorem Elder1.begin (bs : List (BitVec 8)) (hb : bs.length ≤ 48) : Elder1 ((⟨0, 300, 1, 1, 1⟩ : LM).append (DM.born 300 0) bs).2.2 ((⟨0, 300, 1, 1, 1⟩ : LM).append (DM.born 300 0) bs).2.1 := by
  have h1 : secs bs.length = 1 := by unfold secs; rw [if_pos hb]
  have hz : (DM.born 300 0).las 1 = fun _ => 0 := by show sset (fun _ _ => 0) 0 (headS 1) 1 = fun _ => 0; unfold sset; rw [if_neg (by omega)]
  obtain ⟨a1, ⟨L, a2, a3⟩, a4, a5⟩ := (⟨0, 300, 1, 1, 1⟩ : LM).append_pend (DM.born 300 0) bs (by decide) rfl (by decide)
  have hun := (⟨0, 300, 1, 1, 1⟩ : LM).append_un (DM.born 300 0) bs rfl (by decide) (by decide) (by decide)
  have hst := (⟨0, 300, 1, 1, 1⟩ : LM).append_facts (DM.born 300 0) bs
  have hp : ((⟨0, 300, 1, 1, 1⟩ : LM).append (DM.born 300 0) bs).2.2.pend.length = 1 := by
    unfold LM.append
    rw [if_neg (by omega), if_neg (by rw [h1]; decide)]
    obtain ⟨t, ht, b1, b2, b3, b4, b5⟩ := (⟨0, 300, 1, 1, 1⟩ : LM).appLoop_steps bs (secs bs.length) 0 (DM.born 300 0) (by omega) (by rw [h1]; decide) rfl
    have hu := (⟨0, 300, 1, 1, 1⟩ : LM).appLoop_un bs (secs bs.length) 0 (DM.born 300 0) (by omega) (by rw [h1]; decide) rfl (by decide)
    rw [if_pos hu.1]
    show ((⟨0, 300, 1, 1, 1⟩ : LM).appLoop bs (secs bs.length) 0 (secs bs.length) (DM.born 300 0)).2.pend.length = 1
    rw [b3]
    rcases b5 with ⟨_, rfl, _⟩ | ⟨e, _⟩
    · rw [h1]; rfl
    · rw [hu.1] at e; cases e
  refine ⟨a5, ?_, by rw [a1, hz]; exact sumOk_zero, by omega, fun i p hi hpp => ?_⟩
  · rcases hst.1 with ⟨_, _, _, e⟩ | ⟨e, _⟩
    · rw [e]; show 2 ≤ 1 + secs bs.length; omega
    · rcases hun.2.2 with ⟨e1, _⟩ | ⟨_, e1, _⟩ | ⟨_, _, e1⟩
      · omega
      · have e2 : 300 - 1 < secs bs.length := e1; omega
      · exact absurd e1 e
  · rw [List.getElem?_eq_none (by omega)] at hpp; cases hpp
theorem Elder1.lost {d : DM} {m : LM} (h : Elder1 d m) (kb : List Bool) (h0 : kb[0]? = some false) : sumOk ((d.crash kb).now 1) = false := by
  have : (d.crash kb).now 1 = d.las 1 := crLas_none d.pend kb d.las 1 (fun i p hk hp => by
    by_cases hi : i = 0
    · rw [hi, h0] at hk; cases hk
    · exact h.rest i p (by omega) hp) _
  rw [this]; exact h.las
end Go.Proofs.Ytjhnkpohdlilpaa
