/-
  A log in memory; the walks of its small functions.
-/
import Derived.Test.YtjhnkpohdlilpaaNewDisk
import Derived.Test.YtjhnkpohdlilpaaCrash
import Derived.Test.YtjhnkpohdlilpaaFlush
import Derived.Test.YtjhnkpohdlilpaaWrite
import Derived.Test.YtjhnkpohdlilpaaAppendPend
import Derived.Deep.AppendLies
import Derived.Great.BuildSlice
import Derived.Test.YtjhnkpohdlilpaaDiskLem
import Derived.Test.YtjhnkpohdlilpaaRead
import Derived.Test.YtjhnkpohdlilpaaOut
import Derived.Test.YtjhnkpohdlilpaaDiskSmall
import Derived.Test.YtjhnkpohdlilpaaDisk
import Derived.Test.YtjhnkpohdlilpaaAtom
import Derived.Test.YtjhnkpohdlilpaaDecode
import Derived.Test.YtjhnkpohdlilpaaEncode
import Derived.Test.YtjhnkpohdlilpaaTake
import Derived.Test.YtjhnkpohdlilpaaCopy
import Derived.Laws.CopyOwn
import Derived.Deep.OwnRows
import Derived.Deep.MidRow
import Derived.Test.YtjhnkpohdlilpaaPut
import Derived.Test.YtjhnkpohdlilpaaRows
import Derived.Test.YtjhnkpohdlilpaaWords
import Derived.Test.YtjhnkpohdlilpaaMem
import Derived.Test.YtjhnkpohdlilpaaTail
import Derived.Test.YtjhnkpohdlilpaaCrc
import Derived.Test.YtjhnkpohdlilpaaArr
import Derived.RangeFuncNested
import Derived.RangeFuncBound
import Derived.RangeFuncCalls
import Derived.RangeFuncLeaves
import Derived.Shelf.Abstract
import Derived.Shelf.RegionOpen
import Derived.WalkKit
import Derived.OwnWalkIn
import Derived.TacticsInMore
import Derived.LoopNIn
import Derived.LoopIn
import Derived.WalkSpells
import Derived.WalkLawsBesides
import Derived.Lib.Hide
import Derived.BigQuiet
import Derived.Outline
import Derived.Deep.DeepFit
namespace Go.Proofs.Ytjhnkpohdlilpaa
open Go.RowKit Go.Shelf
attribute [local go_sem] Oper.semAt_some
/-- a log's state -/
structure LM where
  first : Nat
  count : Nat
  epoch : BitVec 32
  life : BitVec 32
  next : Nat
def LogAt (w : World) (B D : Nat) (m : LM) : Prop := Blk w B 71 #[.pointer (some ⟨D, 0, none⟩), .int .i64 m.first, .int .i64 m.count, U32 m.epoch, U32 m.life, .int .i64 m.next]
def secs (n : Nat) : Nat := if n ≤ 48 then 1 else (n - 1) / 48 + 1
theorem sectors18 (n : Nat) (w : World) (h : n ≤ 140737488355328) : Calls Try.prog 18 #[.int .i64 n] w fun e w' => e = .returned (.int .i64 (secs n)) ∧ w' = w := by
  unfold secs
  by_cases h0 : n ≤ 48
  · have g0 : (n : Int) ≤ 48 := by omega
    rw [if_pos h0]
    go_enter Try.func18, Try.ntmps18
    go_wp2
    go_ret
    exact ⟨rfl, rfl⟩
  · have g0 : ¬ (n : Int) ≤ 48 := by omega
    have g1 : (n : Int) ≤ 140737488355328 := by omega
    rw [if_neg h0]
    go_enter Try.func18, Try.ntmps18
    go_wp2
    go_ret
    refine ⟨?_, rfl⟩
    show Ending.returned (Value.int .i64 (((n : Int) - 1) / 48 + 1)) = _
    congr 2
    omega
theorem room_any (B D : Nat) (m : LM) (w : World) (h : LogAt w B D m) (h1 : m.count ≤ 4096) (h2 : m.next ≤ m.count) : Calls Try.prog 11 #[.pointer (some ⟨B, 0, none⟩)] w fun e w' => e = .returned (.int .i64 (m.count - m.next : Nat)) ∧ ∃ k, w' = w.drewN k := by
  have c2 : w.cell? ⟨B, 2, none⟩ = some (.int .i64 m.count) := Blk.cell h (j := 2) rfl
  have c5 : w.cell? ⟨B, 5, none⟩ = some (.int .i64 m.next) := Blk.cell h (j := 5) rfl
  have g1 : (m.count : Int) ≤ 4096 := by omega
  have g2 : (m.next : Int) ≤ m.count := by omega
  have e1 : IntKind.i64.wrap ((m.count : Int) - m.next) = (m.count : Int) - m.next := IntWalk.i64_in _ (by omega)
  have e2 : (m.count : Int) - m.next = (m.count - m.next : Nat) := by omega
  have HE := Lib.hid e2
  clear e2
  go_enter Try.func11, Try.ntmps11
  go_wp2_with fail
  go_quiet (fail)
  go_wp2
  go_ret
  exact ⟨by rw [← HE.out]; rfl, nq, rfl⟩
theorem next_any (B D : Nat) (m : LM) (w : World) (h : LogAt w B D m) : Calls Try.prog 17 #[.pointer (some ⟨B, 0, none⟩)] w fun e w' => e = .returned (.int .i64 m.next) ∧ w' = w := by
  have c5 : w.cell? ⟨B, 5, none⟩ = some (.int .i64 m.next) := Blk.cell h (j := 5) rfl
  go_enter Try.func17, Try.ntmps17
  go_wp2
  go_ret
  exact ⟨rfl, rfl⟩
theorem life_any (B D : Nat) (m : LM) (w : World) (h : LogAt w B D m) : Calls Try.prog 25 #[.pointer (some ⟨B, 0, none⟩)] w fun e w' => e = .returned (U32 m.life) ∧ w' = w := by
  have c5 : w.cell? ⟨B, 4, none⟩ = some (U32 m.life) := Blk.cell h (j := 4) rfl
  go_enter Try.func25, Try.ntmps25
  go_wp2
  go_ret
  exact ⟨rfl, rfl⟩
theorem sync_any (B : Nat) (m : LM) (F : Nat → Prop) (D : Nat) (d : DM) (w : World) (hl : LogAt w B D m) (h : DiskAt w F D d) (hp : d.pend.length ≤ 1099511627776) :
    Calls Try.prog 14 #[.pointer (some ⟨B, 0, none⟩)] w fun e w' => ∃ F', e = .returned (.int .i64 d.flush.1) ∧ DStep w F w' F' D d.flush.2 := by
  have c0 : w.cell? ⟨B, 0, none⟩ = some (.pointer (some ⟨D, 0, none⟩)) := Blk.cell hl (j := 0) rfl
  go_enter Try.func14, Try.ntmps14
  go_wp2_with fail
  refine (flush_any F D d w h hp).mono ?_
  rintro e w' ⟨F', rfl, hst⟩
  go_wp2
  go_ret
  exact ⟨F', rfl, hst⟩
end Go.Proofs.Ytjhnkpohdlilpaa
