/-
  Open, plain; the walks of log.Open that end at once.
-/
import Derived.Test.YtjhnkpohdlilpaaReadAll
import Derived.Test.YtjhnkpohdlilpaaReadLem
import Derived.Test.YtjhnkpohdlilpaaSteps
import Derived.Maps.AppendAt
import Derived.Laws.BytesString
import Derived.Test.YtjhnkpohdlilpaaAppend
import Derived.Test.YtjhnkpohdlilpaaAppendOk
import Derived.Test.YtjhnkpohdlilpaaAppendLem
import Derived.Test.YtjhnkpohdlilpaaLogSmall
import Derived.Test.YtjhnkpohdlilpaaNewDisk
import Derived.Test.YtjhnkpohdlilpaaCrash
import Derived.Test.YtjhnkpohdlilpaaFlush
import Derived.Test.YtjhnkpohdlilpaaWrite
import Derived.Test.YtjhnkpohdlilpaaAppendPend
import Derived.Deep.AppendLies
import Derived.Great.BuildSlice
import Derived.Test.YtjhnkpohdlilpaaDiskLem
import Derived.Test.YtjhnkpohdlilpaaRead
import Derived.Test.YtjhnkpohdlilpaaOut
import Derived.Test.YtjhnkpohdlilpaaDiskSmall
import Derived.Test.YtjhnkpohdlilpaaDisk
import Derived.Test.YtjhnkpohdlilpaaAtom
import Derived.Test.YtjhnkpohdlilpaaDecode
import Derived.Test.YtjhnkpohdlilpaaEncode
import Derived.Test.YtjhnkpohdlilpaaTake
import Derived.Test.YtjhnkpohdlilpaaCopy
import Derived.Laws.CopyOwn
import Derived.Deep.OwnRows
import Derived.Deep.MidRow
import Derived.Test.YtjhnkpohdlilpaaPut
import Derived.Test.YtjhnkpohdlilpaaRows
import Derived.Test.YtjhnkpohdlilpaaWords
import Derived.Test.YtjhnkpohdlilpaaMem
import Derived.Test.YtjhnkpohdlilpaaTail
import Derived.Test.YtjhnkpohdlilpaaCrc
import Derived.Test.YtjhnkpohdlilpaaArr
import Derived.RangeFuncNested
import Derived.RangeFuncBound
import Derived.RangeFuncCalls
import Derived.RangeFuncLeaves
import Derived.Shelf.Abstract
import Derived.Shelf.RegionOpen
import Derived.WalkKit
import Derived.OwnWalkIn
import Derived.TacticsInMore
import Derived.LoopNIn
import Derived.LoopIn
import Derived.WalkSpells
import Derived.WalkLawsBesides
import Derived.Lib.Hide
import Derived.BigQuiet
import Derived.Outline
import Derived.Deep.DeepFit
namespace Go.Proofs.Ytjhnkpohdlilpaa
open Go.RowKit Go.Shelf
attribute [local go_sem] Oper.semAt_some
@[go_sem] theorem b32_add_one (t : TypeId) (x : BitVec 32) : binOp .add t (U32 x) (.int .u32 1) = pure (U32 (x + 1#32)) := b32_add t x 1#32
@[go_sem] theorem b32_eql_max (t : TypeId) (x : BitVec 32) : binOp .eql t (U32 x) (.int .u32 4294967295) = pure (.bool (x == 0xffffffff#32)) := b32_eql t x 0xffffffff#32
@[go_sem] theorem b8_eql4 (t : TypeId) (u : BitVec 8) : binOp .eql t (U8 u) (.int .u8 4) = pure (.bool (u == 4#8)) := by
  unfold U8
  rw [binOp_eql]
  congr 2
  rw [Bool.eq_iff_iff]
  simp only [beq_iff_eq]
  constructor
  · intro h; exact BitVec.eq_of_toNat_eq (by simp; omega)
  · intro h; rw [h]; rfl
def headOf (s : Sec) : BitVec 32 := if sumOk s && (s 14 == 4#8) && ((get32 s 12 2).toNat == 0) then get32 s 8 4 else 0
def headSec (life : BitVec 32) : Sec := encF 0 life 0 4 []
def openRead (d : DM) (f c : Nat) (ep h : BitVec 32) : RS := readLoop d.now f ep h 1 (c - 1) { recs := [], part := [], last := 0, inside := false, next := 1 }
def DM.head (d : DM) (f : Nat) : Int × DM := d.write f (bytesOf (headSec (headOf (d.now f) + 1)) 0 64)
def DM.open (d : DM) (f c : Nat) (ep : BitVec 32) : Int × DM × Option (LM × List (List (BitVec 8))) :=
  if d.down then (10, d, none) else if headOf (d.now f) = 0xffffffff#32 then (3, d, none)
  else if (d.head f).1 ≠ 0 then ((d.head f).1, (d.head f).2, none)
  else if (d.head f).2.flush.1 ≠ 0 then ((d.head f).2.flush.1, (d.head f).2.flush.2, none)
  else (0, (d.head f).2.flush.2, some (⟨f, c, ep, headOf (d.now f) + 1, (openRead (d.head f).2.flush.2 f c ep (headOf (d.now f))).next⟩, (openRead (d.head f).2.flush.2 f c ep (headOf (d.now f))).recs))
/-- what Open leaves -/
def OPost (w : World) (F : Nat → Prop) (D : Nat) (r : Int × DM × Option (LM × List (List (BitVec 8)))) (e : Ending) (w' : World) : Prop :=
  match r.2.2 with
  | none => e = .returned (.tuple #[.pointer none, .slice none 0 0, .int .i64 r.1]) ∧ ∃ F', DStep w F w' F' D r.2.1
  | some (m, recs) => ∃ B rv F', e = .returned (.tuple #[.pointer (some ⟨B, 0, none⟩), rv, .int .i64 r.1]) ∧ DStep w F w' F' D r.2.1 ∧ LogAt w' B D m ∧ ¬ F' B ∧ w.heap.size ≤ B ∧
      w'.ownsRow w.heap.size 9 1 rv recs.length ((recs.map strOf).map Value.string) ∧ ∀ i, rv.ownBlock = some i → ¬ F' i ∧ i ≠ B
theorem OPost.bad {w w' : World} {F F' : Nat → Prop} {D : Nat} {v : Int} {d' : DM} {e : Ending} {r : Int × DM × Option (LM × List (List (BitVec 8)))} (hr : r = (v, d', none)) (he : e = .returned (.tuple #[.pointer none, .slice none 0 0, .int .i64 v])) (h : DStep w F w' F' D d') : OPost w F D r e w' := by
  subst hr
  exact ⟨he, F', h⟩
theorem open_args (D : Nat) (F : Nat → Prop) (d : DM) (f c : Int) (ep : BitVec 32) (w : World) (h : DiskAt w F D d) (hb : f < 0 ∨ c < 2 ∨ (d.n : Int) < f ∨ (d.n : Int) - f < c) :
    Calls Try.prog 10 #[.pointer (some ⟨D, 0, none⟩), .int .i64 f, .int .i64 c, U32 ep] w fun e w' => e = .returned (.tuple #[.pointer none, .slice none 0 0, .int .i64 1]) ∧ w' = w := by
  obtain ⟨N, L, pv, h, rfl⟩ := h
  have hn := h.n2
  by_cases h1 : f < 0
  · go_enter Try.func10, Try.ntmps10
    go_wp2
    go_ret3
    exact ⟨rfl, rfl⟩
  by_cases h2 : c < 2
  · have e1 : 0 ≤ f := by omega
    have b1 : decide (f < 0) = false := by simp; omega
    go_enter Try.func10, Try.ntmps10
    go_wp2
    go_ret3
    exact ⟨rfl, rfl⟩
  by_cases h3 : (d.n : Int) < f
  · have b1 : decide (f < 0) = false := by simp; omega
    have b2 : decide (c < 2) = false := by simp; omega
    go_enter Try.func10, Try.ntmps10
    go_wp2_with fail
    refine (sectors_any D N L pv d w h).mono ?_
    rintro e w1 ⟨rfl, rfl⟩
    go_wp2
    go_ret3
    exact ⟨rfl, rfl⟩
  have h4 : (d.n : Int) - f < c := by omega
  have b1 : decide (f < 0) = false := by simp; omega
  have b2 : decide (c < 2) = false := by simp; omega
  have b3 : decide ((d.n : Int) < f) = false := by simp; omega
  have i1 : IntKind.i64.wrap ((d.n : Int) - f) = (d.n : Int) - f := IntWalk.i64_in _ (by omega)
  have h3' : f ≤ (d.n : Int) := by omega
  have h1' : 0 ≤ f := by omega
  clear hb h1 h2 h3
  go_enter Try.func10, Try.ntmps10
  go_wp2_with fail
  refine (sectors_any D N L pv d w h).mono ?_
  rintro e w1 ⟨rfl, rfl⟩
  go_wp2_with fail
  refine (sectors_any D N L pv d _ h).mono ?_
  rintro e w1 ⟨rfl, rfl⟩
  go_wp2
  go_ret3
  exact ⟨rfl, rfl⟩
theorem open_down (D : Nat) (F : Nat → Prop) (d : DM) (f c : Nat) (ep : BitVec 32) (w : World) (h : DiskAt w F D d) (hc : 2 ≤ c) (hfc : f + c ≤ d.n) (hd : d.down = true) :
    Calls Try.prog 10 #[.pointer (some ⟨D, 0, none⟩), .int .i64 f, .int .i64 c, U32 ep] w (OPost w F D (d.open f c ep)) := by
  have hr : d.open f c ep = (10, d, none) := by unfold DM.open; rw [if_pos hd]
  have HR := Lib.hid hr
  clear hr
  have hst := DStep.refl h
  obtain ⟨N, L, pv, h, rfl⟩ := h
  have hn := h.n2
  have b1 : decide ((f : Int) < 0) = false := by simp
  have b2 : decide ((c : Int) < 2) = false := by simp; omega
  have b3 : decide (d.n < f) = false := by simp; omega
  have b4 : decide ((d.n : Int) - f < c) = false := by simp; omega
  have i1 : IntKind.i64.wrap ((d.n : Int) - f) = (d.n : Int) - f := IntWalk.i64_in _ (by omega)
  go_enter Try.func10, Try.ntmps10
  go_wp2_with fail
  refine (sectors_any D N L pv d w h).mono ?_
  rintro e w1 ⟨rfl, rfl⟩
  go_wp2_with fail
  refine (sectors_any D N L pv d _ h).mono ?_
  rintro e w1 ⟨rfl, rfl⟩
  go_wp2_with fail
  refine (read_down D N L pv d _ _ h hd).mono ?_
  rintro e w1 ⟨rfl, rfl⟩
  go_wp2
  go_ret3
  exact OPost.bad HR.out rfl hst
end Go.Proofs.Ytjhnkpohdlilpaa
