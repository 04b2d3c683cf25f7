/-
  A disk in memory, and its steps, plain.
-/
import Derived.Test.YtjhnkpohdlilpaaAtom
import Derived.Test.YtjhnkpohdlilpaaDecode
import Derived.Test.YtjhnkpohdlilpaaEncode
import Derived.Test.YtjhnkpohdlilpaaTake
import Derived.Test.YtjhnkpohdlilpaaCopy
import Derived.Laws.CopyOwn
import Derived.Deep.OwnRows
import Derived.Deep.MidRow
import Derived.Test.YtjhnkpohdlilpaaPut
import Derived.Test.YtjhnkpohdlilpaaRows
import Derived.Test.YtjhnkpohdlilpaaWords
import Derived.Test.YtjhnkpohdlilpaaMem
import Derived.Test.YtjhnkpohdlilpaaTail
import Derived.Test.YtjhnkpohdlilpaaCrc
import Derived.Test.YtjhnkpohdlilpaaArr
import Derived.RangeFuncNested
import Derived.RangeFuncBound
import Derived.RangeFuncCalls
import Derived.RangeFuncLeaves
import Derived.Shelf.Abstract
import Derived.Shelf.RegionOpen
import Derived.WalkKit
import Derived.OwnWalkIn
import Derived.TacticsInMore
import Derived.LoopNIn
import Derived.LoopIn
import Derived.WalkSpells
import Derived.WalkLawsBesides
import Derived.Lib.Hide
import Derived.BigQuiet
import Derived.Outline
import Derived.Deep.DeepFit
namespace Go.Proofs.Ytjhnkpohdlilpaa
open Go.RowKit Go.Shelf
attribute [local go_sem] Oper.semAt_some
/-- a sector's bytes; a disk's state -/
abbrev Sec : Type := Nat → BitVec 8
structure DM where
  n : Nat
  now : Nat → Sec
  las : Nat → Sec
  pend : List (Nat × Sec)
  down : Bool
  left : Int
/-- sectors as one row of bytes -/
def flat (s : Nat → Sec) : Nat → BitVec 8 := fun i => s (i / 64) (i % 64)
def wcells (p : Nat × Sec) : List Value := .int .i64 p.1 :: (bArr p.2 64).toList
def pcells (l : List (Nat × Sec)) : List Value := (l.map wcells).flatten
theorem wcells_length (p : Nat × Sec) : (wcells p).length = 65 := by simp [wcells, bArr_size]
theorem pcells_length (l : List (Nat × Sec)) : (pcells l).length = l.length * 65 := by
  unfold pcells
  induction l with
  | nil => rfl
  | cons p l ih => rw [List.map_cons, List.flatten_cons, List.length_append, wcells_length, ih, List.length_cons]; omega
theorem pcells_snoc (l : List (Nat × Sec)) (p : Nat × Sec) : pcells (l ++ [p]) = pcells l ++ wcells p := by simp [pcells]
theorem pcells_get (l : List (Nat × Sec)) (k : Nat) (hk : k < l.length) (j : Nat) (hj : j < 65) : (pcells l)[k * 65 + j]? = (wcells l[k])[j]? := by
  induction l generalizing k with
  | nil => simp at hk
  | cons p l ih =>
    have e : pcells (p :: l) = wcells p ++ pcells l := by simp [pcells]
    rw [e]
    cases k with
    | zero => rw [Nat.zero_mul, Nat.zero_add, List.getElem?_append_left (by rw [wcells_length]; exact hj)]; rfl
    | succ k =>
      rw [List.getElem?_append_right (by rw [wcells_length]; omega), wcells_length, show (k + 1) * 65 + j - 65 = k * 65 + j by omega, ih k (by simpa using hk)]
      simp
def sset (s : Nat → Sec) (k : Nat) (b : Sec) : Nat → Sec := fun j => if j = k then b else s j
structure DiskIs (w : World) (D N L : Nat) (pv : Value) (d : DM) : Prop where
  hD : Blk w D 66 #[.slice (some ⟨N, 0, none⟩) d.n d.n, .slice (some ⟨L, 0, none⟩) d.n d.n, pv, .bool d.down, .int .i64 d.left]
  hN : Blk w N 81 (bArr (flat d.now) (64 * d.n))
  hL : Blk w L 81 (bArr (flat d.las) (64 * d.n))
  hP : w.ownsRow 0 83 65 pv d.pend.length (pcells d.pend)
  nDN : D ≠ N
  nDL : D ≠ L
  nNL : N ≠ L
  nP : ∀ k, pv.ownBlock = some k → k ≠ D ∧ k ≠ N ∧ k ≠ L
  n1 : 1 ≤ d.n
  n2 : d.n ≤ 4096
  hat : ∀ p ∈ d.pend, p.1 < d.n
  l1 : -1 ≤ d.left
  l2 : d.left ≤ 9223372036854775807
/-- the blocks of a disk -/
def fpt (D N L : Nat) (pv : Value) : Nat → Prop := fun k => k = D ∨ k = N ∨ k = L ∨ pv.ownBlock = some k
def DiskAt (w : World) (F : Nat → Prop) (D : Nat) (d : DM) : Prop := ∃ N L pv, DiskIs w D N L pv d ∧ F = fpt D N L pv
/-- a step of the disk: from w with the blocks F to w' with F' -/
structure DStep (w : World) (F : Nat → Prop) (w' : World) (F' : Nat → Prop) (D : Nat) (d' : DM) : Prop where
  at_ : DiskAt w' F' D d'
  ch : Ch F w w'
  new : ∀ k, F' k → F k ∨ w.heap.size ≤ k
theorem DiskIs.lt {w : World} {D N L : Nat} {pv : Value} {d : DM} (h : DiskIs w D N L pv d) : ∀ k, fpt D N L pv k → k < w.heap.size := by
  rintro k (rfl | rfl | rfl | hk)
  · exact h.hD.lt
  · exact h.hN.lt
  · exact h.hL.lt
  · exact (h.hP.lt k hk).2
theorem DiskAt.lt {w : World} {F : Nat → Prop} {D : Nat} {d : DM} (h : DiskAt w F D d) : ∀ k, F k → k < w.heap.size := by
  obtain ⟨N, L, pv, h1, rfl⟩ := h
  exact h1.lt
theorem DiskAt.own {w : World} {F : Nat → Prop} {D : Nat} {d : DM} (h : DiskAt w F D d) : F D := by
  obtain ⟨N, L, pv, h1, rfl⟩ := h
  exact Or.inl rfl
theorem own_ch {S : Nat → Prop} {w w' : World} {base e size n : Nat} {v : Value} {xs : List Value} (h : w.ownsRow base e size v n xs) (hc : Ch S w w') (hn : ∀ k, v.ownBlock = some k → ¬ S k) : w'.ownsRow base e size v n xs := by
  refine ⟨h.1, ?_⟩
  rcases h.2 with hn' | ⟨g, cap, cur, rfl, hb, hg, rest⟩
  · exact .inl hn'
  · refine .inr ⟨g, cap, cur, rfl, hb, ?_, rest⟩
    rw [hc.block g (Array.getElem?_eq_some_iff.1 hg).1 (hn g rfl)]
    exact hg
theorem DiskIs.keep {S : Nat → Prop} {w w' : World} {D N L : Nat} {pv : Value} {d : DM} (h : DiskIs w D N L pv d) (hc : Ch S w w') (hn : ∀ k, fpt D N L pv k → ¬ S k) : DiskIs w' D N L pv d :=
  ⟨hc.blk h.hD (hn _ (Or.inl rfl)), hc.blk h.hN (hn _ (Or.inr (Or.inl rfl))), hc.blk h.hL (hn _ (Or.inr (Or.inr (Or.inl rfl)))), own_ch h.hP hc (fun k hk => hn k (Or.inr (Or.inr (Or.inr hk)))), h.nDN, h.nDL, h.nNL, h.nP, h.n1, h.n2, h.hat, h.l1, h.l2⟩
theorem DiskAt.keep {S F : Nat → Prop} {w w' : World} {D : Nat} {d : DM} (h : DiskAt w F D d) (hc : Ch S w w') (hn : ∀ k, F k → ¬ S k) : DiskAt w' F D d := by
  obtain ⟨N, L, pv, h1, rfl⟩ := h
  exact ⟨N, L, pv, h1.keep hc hn, rfl⟩
theorem DStep.refl {w : World} {F : Nat → Prop} {D : Nat} {d : DM} (h : DiskAt w F D d) : DStep w F w F D d := ⟨h, Ch.refl _ _, fun _ h => Or.inl h⟩
theorem DStep.trans {w w1 w2 : World} {F F1 F2 : Nat → Prop} {D : Nat} {d1 d2 : DM} (h : DStep w F w1 F1 D d1) (k : DStep w1 F1 w2 F2 D d2) : DStep w F w2 F2 D d2 :=
  ⟨k.at_, h.ch.trans k.ch (fun i hi h1 => (h.new i h1).elim id (fun h2 => by omega)), fun i hi => (k.new i hi).elim (fun h1 => h.new i h1) (fun h1 => Or.inr (Nat.le_trans h.ch.size h1))⟩
/-- new blocks ahead of a step, and behind it -/
theorem DStep.ahead {w w1 w2 : World} {F F2 : Nat → Prop} {D : Nat} {d2 : DM} (hc : Ch (fun _ => False) w w1) (k : DStep w1 F w2 F2 D d2) : DStep w F w2 F2 D d2 :=
  ⟨k.at_, (hc.mono (fun _ _ e => e.elim)).trans k.ch (fun _ _ h => h), fun i hi => (k.new i hi).elim Or.inl (fun h1 => Or.inr (Nat.le_trans hc.size h1))⟩
theorem DStep.behind {w w1 w2 : World} {F F1 : Nat → Prop} {D : Nat} {d1 : DM} (h : DStep w F w1 F1 D d1) (hc : Ch (fun _ => False) w1 w2) : DStep w F w2 F1 D d1 :=
  ⟨h.at_.keep hc (fun _ _ e => e), h.ch.trans hc (fun _ _ e => e.elim), h.new⟩

/-- the disk's steps, plain -/
def DM.has (d : DM) (n : Int) : Bool := decide (0 ≤ n) && decide (n < d.n)
def DM.goes (d : DM) : Bool × DM := if d.left < 0 then (true, d) else if d.left = 0 then (false, { d with down := true }) else (true, { d with left := d.left - 1 })
def secOf (l : List (BitVec 8)) : Sec := over (fun _ => 0) 0 l
def DM.put (d : DM) (n : Nat) (b : Sec) : DM := { d with now := sset d.now n b, pend := d.pend ++ [(n, b)] }
def DM.write (d : DM) (n : Int) (l : List (BitVec 8)) : Int × DM :=
  if d.down then (10, d) else if d.has n = false then (11, d) else if 64 < l.length then (2, d) else if d.goes.1 then (0, d.goes.2.put n.toNat (secOf l)) else (10, d.goes.2)
def DM.flushed (d : DM) : DM := { d with las := d.pend.foldl (fun s p => sset s p.1 p.2) d.las, pend := [] }
def DM.flush (d : DM) : Int × DM := if d.down then (10, d) else if d.goes.1 then (0, d.goes.2.flushed) else (10, d.goes.2)
def DM.arm (d : DM) (n : Int) : Int × DM := if n < 0 then (1, d) else if d.down then (10, d) else (0, { d with left := n })
end Go.Proofs.Ytjhnkpohdlilpaa
