/-
  Pending writes in memory; sectors stored.
-/
import Derived.Test.YtjhnkpohdlilpaaRead
import Derived.Test.YtjhnkpohdlilpaaOut
import Derived.Test.YtjhnkpohdlilpaaDiskSmall
import Derived.Test.YtjhnkpohdlilpaaDisk
import Derived.Test.YtjhnkpohdlilpaaAtom
import Derived.Test.YtjhnkpohdlilpaaDecode
import Derived.Test.YtjhnkpohdlilpaaEncode
import Derived.Test.YtjhnkpohdlilpaaTake
import Derived.Test.YtjhnkpohdlilpaaCopy
import Derived.Laws.CopyOwn
import Derived.Deep.OwnRows
import Derived.Deep.MidRow
import Derived.Test.YtjhnkpohdlilpaaPut
import Derived.Test.YtjhnkpohdlilpaaRows
import Derived.Test.YtjhnkpohdlilpaaWords
import Derived.Test.YtjhnkpohdlilpaaMem
import Derived.Test.YtjhnkpohdlilpaaTail
import Derived.Test.YtjhnkpohdlilpaaCrc
import Derived.Test.YtjhnkpohdlilpaaArr
import Derived.RangeFuncNested
import Derived.RangeFuncBound
import Derived.RangeFuncCalls
import Derived.RangeFuncLeaves
import Derived.Shelf.Abstract
import Derived.Shelf.RegionOpen
import Derived.WalkKit
import Derived.OwnWalkIn
import Derived.TacticsInMore
import Derived.LoopNIn
import Derived.LoopIn
import Derived.WalkSpells
import Derived.WalkLawsBesides
import Derived.Lib.Hide
import Derived.BigQuiet
import Derived.Outline
import Derived.Deep.DeepFit
namespace Go.Proofs.Ytjhnkpohdlilpaa
open Go.RowKit Go.Shelf
attribute [local go_sem] Oper.semAt_some
theorem inf83 : (Try.prog.info? 83).map (·.size) = some 65 := by kernel_rfl
/-- a pending write's cells -/
def warr (n : Int) (b : Sec) : Array Value := #[Value.int .i64 n] ++ bArr b 64
theorem warr_size (n : Int) (b : Sec) : (warr n b).size = 65 := by simp [warr, bArr_size]
theorem warr_zero (n : Int) : Try.zeroCells83.setIfInBounds 0 (Value.int .i64 n) = warr n (fun _ => 0) := by kernel_rfl
theorem warr_get0 (n : Int) (b : Sec) : (warr n b)[0]? = some (.int .i64 n) := by
  unfold warr
  rw [Array.getElem?_append_left (by simp)]
  rfl
theorem warr_get (n : Int) (b : Sec) (j : Nat) (h : j < 64) : (warr n b)[1 + j]? = some (U8 (b j)) := by
  unfold warr
  rw [Array.getElem?_append_right (by simp)]
  simp only [List.size_toArray, List.length_cons, List.length_nil]
  rw [show 1 + j - (0 + 1) = j by omega, bArr_get _ _ _ h]
theorem warr_one (n : Int) (b : Sec) : (warr n b).all (·.oneCell') = true := by
  unfold warr
  rw [Array.all_append, oneCell_bArr]
  simp [Value.oneCell']
theorem warr_wcells (n : Nat) (b : Sec) : (warr n b).toList = wcells (n, b) := by simp [warr, wcells]
theorem warr_splice (n : Int) (o : Sec) (l : List (BitVec 8)) (h : l.length ≤ 64) : ((warr n o).toList.take 1 ++ (l.map U8 ++ (warr n o).toList.drop (1 + (l.map U8).length))).toArray = warr n (over o 0 l) := by
  have e := bArr_splice o 64 0 l (by omega)
  rw [List.take_zero, List.nil_append, Nat.zero_add] at e
  unfold warr
  rw [Array.toList_append, ← e]
  simp only [List.cons_append, List.nil_append, List.take_succ_cons, List.take_zero]
  rw [Nat.add_comm 1, List.drop_succ_cons]
  simp
/-- 'copy(w.b[:], x)' of bytes into a pending write -/
theorem wpList_copy_warr {P : Program} {w : World} {ops : Array Oper} {rest : List Oper} {o : Oper} {a : Act} {Q : Exit → Act → World → Prop} (hgd : o.guard = none) (d s : Operand) (dT sT : TypeId)
    (ho : o.op = .call { callee := .builtin .copy, args := #[d, s], argTypes := #[dT, sT] }) (elem : TypeId) (hu : P.underlying dT = some (.slice elem)) (hsz : (P.info? elem).map (·.size) = some 1)
    (B dLen dCap : Nat) (a0 : Option Addr) (sLen sCap : Nat) (hd : a.eval d = .slice (some ⟨B, 1, none⟩) dLen dCap) (hs : a.eval s = .slice a0 sLen sCap)
    (n : Int) (f : Sec) (t : TypeId) (hB : Blk w B t (warr n f)) (l : List (BitVec 8)) (hn : l.length = Nat.min sLen dLen)
    (hsrc : Src (fun _ => False) w a0 l) (hle : l.length ≤ 64)
    (next : ∀ w', Blk w' B t (warr n (over f 0 l)) → Ch (· = B) w w' → wpList P ops Q rest (a.put o.dst (.int .i64 l.length)) w') : wpList P ops Q (o :: rest) a w := by
  by_cases hl : l = []
  · subst hl
    have := next w (by rw [over_nil]; exact hB) (Ch.refl _ w)
    exact wpList_copy_nothing hgd d s dT sT ho elem hu hsz _ _ dLen dCap sLen sCap hd hs (by simpa using hn.symm) (by simpa [goInt] using this)
  · obtain ⟨ob, off, rfl, -, hc⟩ := hsrc hl
    have hsize := warr_size n f
    refine wpList_copy_own hgd d s dT sT ho elem hu hsz B 1 dLen dCap ⟨ob, off, none⟩ sLen sCap hd hs (warr n f) t hB (l.map U8) (by simpa using hn) ?_ (by simp [hsize]; omega) ?_ ?_
    · intro j v hv
      rw [List.getElem?_map] at hv
      cases e : l[j]? with
      | none => rw [e] at hv; cases hv
      | some y => rw [e] at hv; cases hv; rw [addr_add]; exact hc j y e
    · intro v hv
      obtain ⟨y, _, rfl⟩ := List.mem_map.1 hv
      rfl
    · rw [warr_splice n f l hle]
      have := next (w.setRow B (warr n (over f 0 l))) (setRow_heap w B _ _ t _ hB) (Ch.setRow _)
      simpa [goInt] using this
theorem range_warr {w : World} {B t : Nat} {n : Int} {b : Sec} (h : Blk w B t (warr n b)) : w.rangeAt B 1 (bArr b 64).toList := fun j v hv => by
  have hj : j < 64 := by
    have := (List.getElem?_eq_some_iff.1 hv).1
    rwa [Array.length_toList, bArr_size] at this
  rw [Array.getElem?_toList, bArr_get _ _ _ hj] at hv
  rw [← hv]
  exact h.cell (warr_get n b j hj)
theorem bArr_list (f : Nat → BitVec 8) (n : Nat) : (bArr f n).toList = (bytesOf f 0 n).map U8 := by
  simp [bArr, bytesOf]
theorem Blk.setCells {B : Nat} {t : TypeId} {n : Nat} (l : List (BitVec 8)) : ∀ (o : Nat) (w : World) (f : Nat → BitVec 8), Blk w B t (bArr f n) → Blk (w.setCells B o (l.map U8)) B t (bArr (over f o l) n) ∧ Ch (· = B) w (w.setCells B o (l.map U8)) := by
  induction l with
  | nil => intro o w f h; rw [over_nil]; exact ⟨h, Ch.refl _ _⟩
  | cons y l ih =>
    intro o w f h
    have h1 := h.set o (U8 y)
    rw [bArr_set] at h1
    obtain ⟨h2, h3⟩ := ih (o + 1) _ _ h1
    rw [List.map_cons, World.setCells]
    refine ⟨?_, (Ch.set (S := (· = B)) (Ch.refl _ w) (Or.inr rfl) _).trans h3 (fun _ _ e => e)⟩
    rw [bArr_congr (g := over (fun j => if j = o then y else f j) (o + 1) l)]
    · exact h2
    · intro i _
      unfold over
      simp only [List.length_cons]
      by_cases e : i = o
      · subst e
        rw [if_pos (by omega), if_neg (by omega), if_pos rfl]
        simp
      · by_cases e2 : o ≤ i ∧ i < o + (l.length + 1)
        · rw [if_pos e2, if_pos (by omega), show i - o = (i - (o + 1)) + 1 by omega, List.getD_cons_succ]
        · rw [if_neg e2, if_neg (by omega), if_neg e]
theorem flat_sset (s : Nat → Sec) (k n : Nat) (b : Sec) : bArr (over (flat s) (k * 64) (bytesOf b 0 64)) n = bArr (flat (sset s k b)) n := bArr_congr fun i _ => by
  unfold over flat sset
  rw [bytesOf_length]
  by_cases e : i / 64 = k
  · rw [if_pos (by omega), if_pos e]
    have hj : i - k * 64 < 64 := by omega
    simp only [bytesOf, List.getD_eq_getElem?_getD, List.getElem?_map, List.getElem?_range hj, Option.map_some, Option.getD_some, Nat.zero_add]
    rw [show i - k * 64 = i % 64 by omega]
  · rw [if_neg (by omega), if_neg e]
theorem there_blk {w : World} {B : Nat} {t : TypeId} {f : Nat → BitVec 8} {n : Nat} (h : Blk w B t (bArr f n)) (o m : Nat) (hm : o + m ≤ n) : w.there B o m := fun j hj => ⟨by rw [h.cell (bArr_get f n (o + j) (by omega))]; rfl, h.free _⟩
/-- a sector stored into the row of sectors -/
theorem store_sec {w : World} {N t n : Nat} {s : Nat → Sec} (h : Blk w N t (bArr (flat s) (64 * n))) (k : Nat) (hk : k < n) (b : Sec) :
    w.there N (k * 64) (bArr b 64).size ∧ Blk (w.setCells N (k * 64) (bArr b 64).toList) N t (bArr (flat (sset s k b)) (64 * n)) ∧ Ch (· = N) w (w.setCells N (k * 64) (bArr b 64).toList) := by
  refine ⟨there_blk h _ _ (by rw [bArr_size]; omega), ?_⟩
  rw [bArr_list, ← flat_sset]
  exact Blk.setCells _ _ _ _ h
theorem DM.goes_n (d : DM) : d.goes.2.n = d.n := by unfold DM.goes; split <;> (try split) <;> rfl
theorem DM.goes_now (d : DM) : d.goes.2.now = d.now := by unfold DM.goes; split <;> (try split) <;> rfl
theorem DM.goes_las (d : DM) : d.goes.2.las = d.las := by unfold DM.goes; split <;> (try split) <;> rfl
theorem DM.goes_pend (d : DM) : d.goes.2.pend = d.pend := by unfold DM.goes; split <;> (try split) <;> rfl
end Go.Proofs.Ytjhnkpohdlilpaa
