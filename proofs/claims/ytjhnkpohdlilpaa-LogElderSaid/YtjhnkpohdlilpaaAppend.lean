/-
  The walk of log.Append.
-/
import Derived.Test.YtjhnkpohdlilpaaAppendOk
import Derived.Test.YtjhnkpohdlilpaaAppendLem
import Derived.Test.YtjhnkpohdlilpaaLogSmall
import Derived.Test.YtjhnkpohdlilpaaNewDisk
import Derived.Test.YtjhnkpohdlilpaaCrash
import Derived.Test.YtjhnkpohdlilpaaFlush
import Derived.Test.YtjhnkpohdlilpaaWrite
import Derived.Test.YtjhnkpohdlilpaaAppendPend
import Derived.Deep.AppendLies
import Derived.Great.BuildSlice
import Derived.Test.YtjhnkpohdlilpaaDiskLem
import Derived.Test.YtjhnkpohdlilpaaRead
import Derived.Test.YtjhnkpohdlilpaaOut
import Derived.Test.YtjhnkpohdlilpaaDiskSmall
import Derived.Test.YtjhnkpohdlilpaaDisk
import Derived.Test.YtjhnkpohdlilpaaAtom
import Derived.Test.YtjhnkpohdlilpaaDecode
import Derived.Test.YtjhnkpohdlilpaaEncode
import Derived.Test.YtjhnkpohdlilpaaTake
import Derived.Test.YtjhnkpohdlilpaaCopy
import Derived.Laws.CopyOwn
import Derived.Deep.OwnRows
import Derived.Deep.MidRow
import Derived.Test.YtjhnkpohdlilpaaPut
import Derived.Test.YtjhnkpohdlilpaaRows
import Derived.Test.YtjhnkpohdlilpaaWords
import Derived.Test.YtjhnkpohdlilpaaMem
import Derived.Test.YtjhnkpohdlilpaaTail
import Derived.Test.YtjhnkpohdlilpaaCrc
import Derived.Test.YtjhnkpohdlilpaaArr
import Derived.RangeFuncNested
import Derived.RangeFuncBound
import Derived.RangeFuncCalls
import Derived.RangeFuncLeaves
import Derived.Shelf.Abstract
import Derived.Shelf.RegionOpen
import Derived.WalkKit
import Derived.OwnWalkIn
import Derived.TacticsInMore
import Derived.LoopNIn
import Derived.LoopIn
import Derived.WalkSpells
import Derived.WalkLawsBesides
import Derived.Lib.Hide
import Derived.BigQuiet
import Derived.Outline
import Derived.Deep.DeepFit
namespace Go.Proofs.Ytjhnkpohdlilpaa
open Go.RowKit Go.Shelf
attribute [local go_sem] Oper.semAt_some
theorem append_long (B : Nat) (m : LM) (s : ByteArray) (F : Nat → Prop) (D : Nat) (d : DM) (w : World) (hl : LogAt w B D m) (h : DiskAt w F D d) (hs : 2000 < s.size) (hs2 : s.size ≤ 140737488355328) :
    Calls Try.prog 12 #[.pointer (some ⟨B, 0, none⟩), .string s] w (LPost w F B D 2 m d) := by
  have gs : (2000 : Int) < s.size := by omega
  have gs2 : (s.size : Int) ≤ 140737488355328 := by omega
  go_enter Try.func12, Try.ntmps12
  go_wp2_with fail
  refine (sectors18 s.size w (by omega)).mono ?_
  rintro e w1 ⟨rfl, rfl⟩
  go_wp2
  go_ret
  exact ⟨rfl, F, h, hl, Ch.refl _ _, fun _ e => Or.inl e⟩
theorem append_full (B : Nat) (m : LM) (s : ByteArray) (F : Nat → Prop) (D : Nat) (d : DM) (w : World) (hl : LogAt w B D m) (h : DiskAt w F D d) (h1 : m.count ≤ 4096) (h2 : m.next ≤ m.count) (hs : s.size ≤ 2000) (hn : m.count - m.next < secs s.size) :
    Calls Try.prog 12 #[.pointer (some ⟨B, 0, none⟩), .string s] w (LPost w F B D 3 m d) := by
  have gs : (s.size : Int) ≤ 2000 := by omega
  have hb0 : decide ((2000 : Int) < s.size) = false := by rw [decide_eq_false_iff_not]; omega
  have hb1 : decide (m.count - m.next < secs s.size) = true := by rw [decide_eq_true_iff]; omega
  go_enter Try.func12, Try.ntmps12
  go_wp2_with fail
  refine (sectors18 s.size w (by omega)).mono ?_
  rintro e w1 ⟨rfl, rfl⟩
  go_wp2_with fail
  refine (room_any B D m w1 hl h1 h2).mono ?_
  rintro e w2 ⟨rfl, kq, rfl⟩
  go_wp2
  go_ret
  exact ⟨rfl, F, h.keep ((Ch.refl (fun _ => False) w1).drewN kq) (fun _ _ e => e), hl, ((Ch.refl _ w1).drewN kq), fun _ e => Or.inl e⟩
/-- THE WALK OF Append. -/
theorem append_any (B : Nat) (m : LM) (s : ByteArray) (F : Nat → Prop) (D : Nat) (d : DM) (w : World) (hl : LogAt w B D m) (h : DiskAt w F D d) (hB : ¬ F B) (hp : d.pend.length ≤ 1099511627000) (h1 : m.first + m.count ≤ 4096) (h2 : m.next ≤ m.count) (hs : s.size ≤ 140737488355328) :
    Calls Try.prog 12 #[.pointer (some ⟨B, 0, none⟩), .string s] w (LPost w F B D (m.append d (strBytes s)).1 (m.append d (strBytes s)).2.1 (m.append d (strBytes s)).2.2) := by
  by_cases h0 : 2000 < s.size
  · have e : m.append d (strBytes s) = (2, m, d) := by unfold LM.append; rw [strBytes_length, if_pos h0]
    rw [e]
    exact append_long B m s F D d w hl h h0 hs
  · by_cases h3 : m.count - m.next < secs s.size
    · have e : m.append d (strBytes s) = (3, m, d) := by unfold LM.append; rw [strBytes_length, if_neg h0, if_pos h3]
      rw [e]
      exact append_full B m s F D d w hl h (by omega) h2 (by omega) h3
    · exact append_ok B m s F D d w hl h hB hp h1 h2 (by omega) (by omega)
end Go.Proofs.Ytjhnkpohdlilpaa
