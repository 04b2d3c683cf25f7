/-
  Append, plain; a text's bytes in memory.
-/
import Derived.Test.YtjhnkpohdlilpaaLogSmall
import Derived.Test.YtjhnkpohdlilpaaNewDisk
import Derived.Test.YtjhnkpohdlilpaaCrash
import Derived.Test.YtjhnkpohdlilpaaFlush
import Derived.Test.YtjhnkpohdlilpaaWrite
import Derived.Test.YtjhnkpohdlilpaaAppendPend
import Derived.Deep.AppendLies
import Derived.Great.BuildSlice
import Derived.Test.YtjhnkpohdlilpaaDiskLem
import Derived.Test.YtjhnkpohdlilpaaRead
import Derived.Test.YtjhnkpohdlilpaaOut
import Derived.Test.YtjhnkpohdlilpaaDiskSmall
import Derived.Test.YtjhnkpohdlilpaaDisk
import Derived.Test.YtjhnkpohdlilpaaAtom
import Derived.Test.YtjhnkpohdlilpaaDecode
import Derived.Test.YtjhnkpohdlilpaaEncode
import Derived.Test.YtjhnkpohdlilpaaTake
import Derived.Test.YtjhnkpohdlilpaaCopy
import Derived.Laws.CopyOwn
import Derived.Deep.OwnRows
import Derived.Deep.MidRow
import Derived.Test.YtjhnkpohdlilpaaPut
import Derived.Test.YtjhnkpohdlilpaaRows
import Derived.Test.YtjhnkpohdlilpaaWords
import Derived.Test.YtjhnkpohdlilpaaMem
import Derived.Test.YtjhnkpohdlilpaaTail
import Derived.Test.YtjhnkpohdlilpaaCrc
import Derived.Test.YtjhnkpohdlilpaaArr
import Derived.RangeFuncNested
import Derived.RangeFuncBound
import Derived.RangeFuncCalls
import Derived.RangeFuncLeaves
import Derived.Shelf.Abstract
import Derived.Shelf.RegionOpen
import Derived.WalkKit
import Derived.OwnWalkIn
import Derived.TacticsInMore
import Derived.LoopNIn
import Derived.LoopIn
import Derived.WalkSpells
import Derived.WalkLawsBesides
import Derived.Lib.Hide
import Derived.BigQuiet
import Derived.Outline
import Derived.Deep.DeepFit
namespace Go.Proofs.Ytjhnkpohdlilpaa
open Go.RowKit Go.Shelf
attribute [local go_sem] Oper.semAt_some
def strBytes (s : ByteArray) : List (BitVec 8) := s.data.toList.map UInt8.toBitVec
theorem strBytes_length (s : ByteArray) : (strBytes s).length = s.size := by simp [strBytes]
def chunk (bs : List (BitVec 8)) (i : Nat) : List (BitVec 8) := (bs.drop (48 * i)).take 48
theorem chunk_le (bs : List (BitVec 8)) (i : Nat) : (chunk bs i).length ≤ 48 := by unfold chunk; simp; omega
def flagOf (i n : Nat) : BitVec 8 := if i = 0 then (if i + 1 = n then 3 else 1) else (if i + 1 = n then 2 else 0)
def LM.sec (m : LM) (bs : List (BitVec 8)) (n i : Nat) : Sec := encF m.epoch m.life (m.next + i) (flagOf i n) (chunk bs i)
def LM.appLoop (m : LM) (bs : List (BitVec 8)) (n : Nat) : Nat → Nat → DM → Int × DM
  | _, 0, d => (0, d)
  | i, r + 1, d => if (d.write (m.first + (m.next + i) : Nat) (bytesOf (m.sec bs n i) 0 64)).1 = 0 then m.appLoop bs n (i + 1) r (d.write (m.first + (m.next + i) : Nat) (bytesOf (m.sec bs n i) 0 64)).2 else d.write (m.first + (m.next + i) : Nat) (bytesOf (m.sec bs n i) 0 64)
def LM.append (m : LM) (d : DM) (bs : List (BitVec 8)) : Int × LM × DM :=
  if 2000 < bs.length then (2, m, d) else if m.count - m.next < secs bs.length then (3, m, d)
  else if (m.appLoop bs (secs bs.length) 0 (secs bs.length) d).1 = 0 then (0, { m with next := m.next + secs bs.length }, (m.appLoop bs (secs bs.length) 0 (secs bs.length) d).2)
  else ((m.appLoop bs (secs bs.length) 0 (secs bs.length) d).1, m, (m.appLoop bs (secs bs.length) 0 (secs bs.length) d).2)
theorem DM.write_pend (d : DM) (n : Int) (l : List (BitVec 8)) : (d.write n l).2.pend.length ≤ d.pend.length + 1 := by
  unfold DM.write
  split
  · simp
  · split
    · simp
    · split
      · simp
      · split
        · simp [DM.put, DM.goes_pend]
        · simp [DM.goes_pend]
theorem DM.write_n (d : DM) (n : Int) (l : List (BitVec 8)) : (d.write n l).2.n = d.n := by
  unfold DM.write
  split
  · rfl
  · split
    · rfl
    · split
      · rfl
      · split
        · simp [DM.put, DM.goes_n]
        · simp [DM.goes_n]
theorem secs_lt {k n : Nat} (h : k < secs n) : 48 * k ≤ n := by unfold secs at h; split at h <;> omega
theorem secs_lt' {k n : Nat} (h : k + 1 < secs n) : 48 * (k + 1) < n := by unfold secs at h; split at h <;> omega
theorem secs_last {k n : Nat} (h : k + 1 = secs n) : n ≤ 48 * (k + 1) := by unfold secs at h; split at h <;> omega
@[go_sem] theorem or8_01 : bits .or .u8 0 1 = 1 := by decide
@[go_sem] theorem or8_12 : bits .or .u8 1 2 = 3 := by decide
@[go_sem] theorem or8_02 : bits .or .u8 0 2 = 2 := by decide
theorem strBytes_extract (s : ByteArray) (k : Nat) (hi : Nat) (h1 : k * 48 ≤ s.size) (hh : (hi = s.size ∧ s.size ≤ (k + 1) * 48) ∨ (hi = (k + 1) * 48 ∧ (k + 1) * 48 ≤ s.size)) : strBytes (s.extract (k * 48) hi) = chunk (strBytes s) k := by
  unfold strBytes chunk
  rw [← List.map_drop, ← List.map_take]
  congr 1
  rw [ByteArray.data_extract, Array.toList_extract]
  rw [List.extract_eq_take_drop]
  rcases hh with ⟨rfl, h2⟩ | ⟨rfl, h2⟩
  · rw [Nat.mul_comm k 48, List.take_of_length_le, List.take_of_length_le]
    · simp; omega
    · simp
  · rw [Nat.mul_comm k 48, show (k + 1) * 48 - 48 * k = 48 by omega]
/-- '[]byte(x)' of a string x -/
theorem wpList_str_bytes {ops : Array Oper} {rest : List Oper} {o : Oper} {a : Act} {w : World} {Q : Exit → Act → World → Prop} (hgd : o.guard = none) (x : Operand) (ho : o.op = .convert 9 56 x) (s : ByteArray) (hx : a.eval x = .string s)
    (next : ∀ cap w', (∀ j y, (strBytes s)[j]? = some y → w'.cell? ⟨w.heap.size, j, none⟩ = some (U8 y)) → Ch (fun _ => False) w w' → wpList Try.prog ops Q rest (a.put o.dst (.slice (some ⟨w.heap.size, 0, none⟩) s.size cap)) w') : wpList Try.prog ops Q (o :: rest) a w := by
  have hr := run_bytes_of_string (P := Try.prog) w 9 56 5 s Try.underlying9 Try.underlying56 Try.underlying5
  refine wpList_run hgd _ (w' := w.drew.alloc (.cells (bytesRow s (grownCap w s.size 0 5)) 5 ((bytesRow s (grownCap w s.size 0 5)).size, (bytesRow s (grownCap w s.size 0 5)).size + 1))) ?_ (next (grownCap w s.size 0 5) _ ?_ ?_)
  · unfold execOp
    simp only [ho, hx, Sem.run_bind, hr, Result.andThen_ok, Sem.run_pure]
  · intro j y hy
    have hj : j < s.data.size := by
      have := (List.getElem?_eq_some_iff.1 hy).1
      rw [strBytes_length] at this
      exact this
    rw [cell_of_row _ w.heap.size j _ 5 _ (heap_alloc_new w.drew _), bytesRow_at s _ j hj]
    unfold strBytes at hy
    rw [List.getElem?_map, Array.getElem?_toList, Array.getElem?_eq_getElem hj] at hy
    have hy' : s.data[j].toBitVec = y := by simpa using hy
    rw [← hy']
    unfold U8
    rw [UInt8.toNat_toBitVec]
  · exact ((Ch.refl _ w).drew).alloc _
end Go.Proofs.Ytjhnkpohdlilpaa
