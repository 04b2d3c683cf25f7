/-
  The chapter's examples, plain.
-/
import Derived.Test.YtjhnkpohdlilpaaOpen
import Derived.Test.YtjhnkpohdlilpaaOpenMain
import Derived.Test.YtjhnkpohdlilpaaOpenBad
import Derived.Test.YtjhnkpohdlilpaaReadAll
import Derived.Test.YtjhnkpohdlilpaaReadLem
import Derived.Test.YtjhnkpohdlilpaaSteps
import Derived.Maps.AppendAt
import Derived.Laws.BytesString
import Derived.Test.YtjhnkpohdlilpaaAppend
import Derived.Test.YtjhnkpohdlilpaaAppendOk
import Derived.Test.YtjhnkpohdlilpaaAppendLem
import Derived.Test.YtjhnkpohdlilpaaLogSmall
import Derived.Test.YtjhnkpohdlilpaaNewDisk
import Derived.Test.YtjhnkpohdlilpaaCrash
import Derived.Test.YtjhnkpohdlilpaaFlush
import Derived.Test.YtjhnkpohdlilpaaWrite
import Derived.Test.YtjhnkpohdlilpaaAppendPend
import Derived.Deep.AppendLies
import Derived.Great.BuildSlice
import Derived.Test.YtjhnkpohdlilpaaDiskLem
import Derived.Test.YtjhnkpohdlilpaaRead
import Derived.Test.YtjhnkpohdlilpaaOut
import Derived.Test.YtjhnkpohdlilpaaDiskSmall
import Derived.Test.YtjhnkpohdlilpaaDisk
import Derived.Test.YtjhnkpohdlilpaaAtom
import Derived.Test.YtjhnkpohdlilpaaDecode
import Derived.Test.YtjhnkpohdlilpaaEncode
import Derived.Test.YtjhnkpohdlilpaaTake
import Derived.Test.YtjhnkpohdlilpaaCopy
import Derived.Laws.CopyOwn
import Derived.Deep.OwnRows
import Derived.Deep.MidRow
import Derived.Test.YtjhnkpohdlilpaaPut
import Derived.Test.YtjhnkpohdlilpaaRows
import Derived.Test.YtjhnkpohdlilpaaWords
import Derived.Test.YtjhnkpohdlilpaaMem
import Derived.Test.YtjhnkpohdlilpaaTail
import Derived.Test.YtjhnkpohdlilpaaCrc
import Derived.Test.YtjhnkpohdlilpaaArr
import Derived.RangeFuncNested
import Derived.RangeFuncBound
import Derived.RangeFuncCalls
import Derived.RangeFuncLeaves
import Derived.Shelf.Abstract
import Derived.Shelf.RegionOpen
import Derived.WalkKit
import Derived.OwnWalkIn
import Derived.TacticsInMore
import Derived.LoopNIn
import Derived.LoopIn
import Derived.WalkSpells
import Derived.WalkLawsBesides
import Derived.Lib.Hide
import Derived.BigQuiet
import Derived.Outline
import Derived.Deep.DeepFit
namespace Go.Proofs.Ytjhnkpohdlilpaa
open Go.RowKit Go.Shelf
attribute [local go_sem] Oper.semAt_some
theorem strBytes_ab : strBytes ⟨#[97, 98]⟩ = [97#8, 98#8] := by kernel_rfl
/-- the chapter's examples, plain -/
def ow1 : Int × DM × Option (LM × List (List (BitVec 8))) := (DM.new 8).open 0 8 1
theorem ow1_1 : ow1.1 = 0 := by kernel_rfl
theorem ow1_2 : ow1.2.2 = some (⟨0, 8, 1, 1, 1⟩, []) := by kernel_rfl
def ow2 : Int × LM × DM := (⟨0, 8, 1, 1, 1⟩ : LM).append ow1.2.1 [97#8, 98#8]
theorem ow2_1 : ow2.1 = 0 := by kernel_rfl
theorem ow2_2 : ow2.2.1 = ⟨0, 8, 1, 1, 2⟩ := by kernel_rfl
def ow3 : Int × LM × DM := (⟨0, 8, 1, 1, 2⟩ : LM).append ow2.2.2 (List.replicate 100 0#8)
theorem ow3_1 : ow3.1 = 0 := by kernel_rfl
theorem ow3_2 : ow3.2.1 = ⟨0, 8, 1, 1, 5⟩ := by kernel_rfl
def ow4 : Int × DM := ow3.2.2.flush
theorem ow4_1 : ow4.1 = 0 := by kernel_rfl
def ow5 : Int × LM × DM := (⟨0, 8, 1, 1, 5⟩ : LM).append ow4.2 [99#8]
theorem ow5_1 : ow5.1 = 0 := by kernel_rfl
theorem ow5_2 : ow5.2.1 = ⟨0, 8, 1, 1, 6⟩ := by kernel_rfl
def ow6 : DM := ow5.2.2.crash []
def ow7 : Int × DM × Option (LM × List (List (BitVec 8))) := ow6.open 0 8 1
theorem ow7_1 : ow7.1 = 0 := by kernel_rfl
theorem ow7_2 : ow7.2.2 = some (⟨0, 8, 1, 2, 5⟩, [[97#8, 98#8], List.replicate 100 0#8]) := by kernel_rfl
def ow8 : Int × LM × DM := (⟨0, 8, 1, 2, 5⟩ : LM).append ow7.2.1 [100#8]
theorem ow8_1 : ow8.1 = 0 := by kernel_rfl
theorem ow8_2 : ow8.2.1 = ⟨0, 8, 1, 2, 6⟩ := by kernel_rfl
def ow9 : Int × LM × DM := (⟨0, 8, 1, 2, 6⟩ : LM).append ow8.2.2 [101#8]
theorem ow9_1 : ow9.1 = 0 := by kernel_rfl
theorem ow9_2 : ow9.2.1 = ⟨0, 8, 1, 2, 7⟩ := by kernel_rfl
def ow10 : DM := ow9.2.2.crash [false, true]
def ow11 : Int × DM × Option (LM × List (List (BitVec 8))) := ow10.open 0 8 1
theorem ow11_1 : ow11.1 = 0 := by kernel_rfl
theorem ow11_2 : ow11.2.2 = some (⟨0, 8, 1, 3, 5⟩, [[97#8, 98#8], List.replicate 100 0#8]) := by kernel_rfl
def ow12 : Int × DM × Option (LM × List (List (BitVec 8))) := ow11.2.1.open 0 8 2
theorem ow12_1 : ow12.1 = 0 := by kernel_rfl
theorem ow12_2 : ow12.2.2 = some (⟨0, 8, 2, 4, 1⟩, []) := by kernel_rfl
end Go.Proofs.Ytjhnkpohdlilpaa
