/-
  A disk and a log of the call's own; a slice of noughts as a text.
-/
import Derived.Test.YtjhnkpohdlilpaaAwakePlain
import Derived.Test.YtjhnkpohdlilpaaOpen
import Derived.Test.YtjhnkpohdlilpaaOpenMain
import Derived.Test.YtjhnkpohdlilpaaOpenBad
import Derived.Test.YtjhnkpohdlilpaaReadAll
import Derived.Test.YtjhnkpohdlilpaaReadLem
import Derived.Test.YtjhnkpohdlilpaaSteps
import Derived.Maps.AppendAt
import Derived.Laws.BytesString
import Derived.Test.YtjhnkpohdlilpaaAppend
import Derived.Test.YtjhnkpohdlilpaaAppendOk
import Derived.Test.YtjhnkpohdlilpaaAppendLem
import Derived.Test.YtjhnkpohdlilpaaLogSmall
import Derived.Test.YtjhnkpohdlilpaaNewDisk
import Derived.Test.YtjhnkpohdlilpaaCrash
import Derived.Test.YtjhnkpohdlilpaaFlush
import Derived.Test.YtjhnkpohdlilpaaWrite
import Derived.Test.YtjhnkpohdlilpaaAppendPend
import Derived.Deep.AppendLies
import Derived.Great.BuildSlice
import Derived.Test.YtjhnkpohdlilpaaDiskLem
import Derived.Test.YtjhnkpohdlilpaaRead
import Derived.Test.YtjhnkpohdlilpaaOut
import Derived.Test.YtjhnkpohdlilpaaDiskSmall
import Derived.Test.YtjhnkpohdlilpaaDisk
import Derived.Test.YtjhnkpohdlilpaaAtom
import Derived.Test.YtjhnkpohdlilpaaDecode
import Derived.Test.YtjhnkpohdlilpaaEncode
import Derived.Test.YtjhnkpohdlilpaaTake
import Derived.Test.YtjhnkpohdlilpaaCopy
import Derived.Laws.CopyOwn
import Derived.Deep.OwnRows
import Derived.Deep.MidRow
import Derived.Test.YtjhnkpohdlilpaaPut
import Derived.Test.YtjhnkpohdlilpaaRows
import Derived.Test.YtjhnkpohdlilpaaWords
import Derived.Test.YtjhnkpohdlilpaaMem
import Derived.Test.YtjhnkpohdlilpaaTail
import Derived.Test.YtjhnkpohdlilpaaCrc
import Derived.Test.YtjhnkpohdlilpaaArr
import Derived.RangeFuncNested
import Derived.RangeFuncBound
import Derived.RangeFuncCalls
import Derived.RangeFuncLeaves
import Derived.Shelf.Abstract
import Derived.Shelf.RegionOpen
import Derived.WalkKit
import Derived.OwnWalkIn
import Derived.TacticsInMore
import Derived.LoopNIn
import Derived.LoopIn
import Derived.WalkSpells
import Derived.WalkLawsBesides
import Derived.Lib.Hide
import Derived.BigQuiet
import Derived.Outline
import Derived.Deep.DeepFit
namespace Go.Proofs.Ytjhnkpohdlilpaa
open Go.RowKit Go.Shelf
attribute [local go_sem] Oper.semAt_some
/-- a disk of the call's own -/
structure DS (w0 w : World) (F : Nat → Prop) (D : Nat) (d : DM) : Prop where
  dk : DiskAt w F D d
  ch : Ch (fun _ => False) w0 w
  old : ∀ k, F k → w0.heap.size ≤ k
theorem DS.step {w0 w w' : World} {F F' : Nat → Prop} {D : Nat} {d d' : DM} (h : DS w0 w F D d) (hs : DStep w F w' F' D d') : DS w0 w' F' D d' :=
  ⟨hs.at_, h.ch.trans hs.ch (fun i hi e => by have := h.old i e; omega), fun k hk => (hs.new k hk).elim (h.old k) (fun e => Nat.le_trans h.ch.size e)⟩
/-- from w to w' the blocks of F, block B and new ones may have changed; F' is what is left of F, and new ones -/
structure Mv (F : Nat → Prop) (B : Nat) (w w' : World) (F' : Nat → Prop) : Prop where
  ch : Ch (fun k => F k ∨ k = B) w w'
  new : ∀ k, F' k → F k ∨ w.heap.size ≤ k
theorem DStep.mv {w w' : World} {F F' : Nat → Prop} {D : Nat} {d' : DM} (h : DStep w F w' F' D d') (B : Nat) : Mv F B w w' F' := ⟨h.ch.mono (fun _ _ e => Or.inl e), h.new⟩
theorem Mv.own {F F' : Nat → Prop} {B : Nat} {w w' : World} {base e size n : Nat} {v : Value} {xs : List Value} (hm : Mv F B w w' F') (h : w.ownsRow base e size v n xs) (hk : ∀ i, v.ownBlock = some i → ¬ F i ∧ i ≠ B) :
    w'.ownsRow base e size v n xs ∧ ∀ i, v.ownBlock = some i → ¬ F' i ∧ i ≠ B :=
  ⟨own_ch h hm.ch (fun i hi e => e.elim (hk i hi).1 (hk i hi).2), fun i hi => ⟨fun e => (hm.new i e).elim (hk i hi).1 (fun h2 => by have := (h.lt i hi).2; omega), (hk i hi).2⟩⟩
theorem Mv.log {F F' : Nat → Prop} {B A D : Nat} {w w' : World} {m : LM} (hm : Mv F B w w' F') (h : LogAt w A D m) (hF : ¬ F A) (hA : A ≠ B) : LogAt w' A D m ∧ ¬ F' A :=
  ⟨hm.ch.blk h (fun e => e.elim hF hA), fun e => (hm.new A e).elim hF (fun h2 => by have := Blk.lt h; omega)⟩
theorem DS.lpost {w0 w w' : World} {F : Nat → Prop} {B D : Nat} {d d' : DM} {v : Int} {m' : LM} {e : Ending} (h : DS w0 w F D d) (hB : w0.heap.size ≤ B) (hFB : ¬ F B) (hBw : B < w.heap.size) (hl : LPost w F B D v m' d' e w') : e = .returned (.int .i64 v) ∧ ∃ F', DS w0 w' F' D d' ∧ LogAt w' B D m' ∧ ¬ F' B ∧ Mv F B w w' F' := by
  obtain ⟨he, F', h1, h2, h3, h4⟩ := hl
  exact ⟨he, F', ⟨h1, h.ch.trans h3 (fun i hi e => e.elim (fun e => by have := h.old i e; omega) (fun e => by omega)), fun k hk => (h4 k hk).elim (h.old k) (fun e => Nat.le_trans h.ch.size e)⟩, h2, fun e => (h4 B e).elim hFB (fun e2 => by omega), ⟨h3, h4⟩⟩
/-- Append on a disk of the call's own -/
theorem app_ds {w0 w : World} {F : Nat → Prop} {B D : Nat} {d : DM} {m : LM} (h : DS w0 w F D d) (hl : LogAt w B D m) (hB : w0.heap.size ≤ B) (hFB : ¬ F B) (s : ByteArray) (hp : d.pend.length ≤ 1099511627000) (h1 : m.first + m.count ≤ 4096) (h2 : m.next ≤ m.count) (hs : s.size ≤ 140737488355328) :
    Calls Try.prog 12 #[.pointer (some ⟨B, 0, none⟩), .string s] w fun e w' => e = .returned (.int .i64 (m.append d (strBytes s)).1) ∧ ∃ F', DS w0 w' F' D (m.append d (strBytes s)).2.2 ∧ LogAt w' B D (m.append d (strBytes s)).2.1 ∧ ¬ F' B ∧ Mv F B w w' F' :=
  (append_any B m s F D d w hl h.dk hFB hp h1 h2 hs).mono fun _ _ hh => h.lpost hB hFB (Blk.lt hl) hh
/-- Open, where it comes to a log -/
theorem open_ds {w0 w : World} {F : Nat → Prop} {D : Nat} {d : DM} {m : LM} {recs : List (List (BitVec 8))} (h : DS w0 w F D d) (f c : Nat) (ep : BitVec 32) (hc : 2 ≤ c) (hfc : f + c ≤ d.n) (hp : d.pend.length ≤ 1099511627000) (h1 : (d.open f c ep).1 = 0) (h2 : (d.open f c ep).2.2 = some (m, recs)) :
    Calls Try.prog 10 #[.pointer (some ⟨D, 0, none⟩), .int .i64 f, .int .i64 c, U32 ep] w fun e w' => ∃ B rv c0, e = .returned (.tuple #[.pointer (some ⟨B, 0, none⟩), .slice rv recs.length c0, .int .i64 0]) ∧ ∃ F', DS w0 w' F' D (d.open f c ep).2.1 ∧ LogAt w' B D m ∧ w0.heap.size ≤ B ∧ w.heap.size ≤ B ∧ ¬ F' B ∧ Mv F B w w' F' ∧
      w'.ownsRow w.heap.size 9 1 (.slice rv recs.length c0) recs.length ((recs.map strOf).map Value.string) ∧ ∀ i, (Value.slice rv recs.length c0).ownBlock = some i → ¬ F' i ∧ i ≠ B :=
  (open_ok D F d f c ep w h.dk hc hfc hp).mono fun e w' hh => by
    unfold OPost at hh
    rw [h2] at hh
    obtain ⟨B, rv, F', he, hst, hl, hFB, hBw, hown, hne⟩ := hh
    obtain ⟨a, c0, rfl⟩ := own_len hown
    rw [h1] at he
    exact ⟨B, a, c0, he, F', h.step hst, hl, Nat.le_trans h.ch.size hBw, hBw, hFB, hst.mv B, hown, hne⟩
theorem mk100 (w : World) : (Instr.makeSlice 56 (.int .i64 100) (.int .i64 100)).run Try.prog w = .ok (.slice (some ⟨w.heap.size, 0, none⟩) 100 100) (w.alloc (.cells (bArr (fun _ => 0) 100) 5)) := by
  have h := run_make_row' (P := Try.prog) 56 5 (.int .u8 0) 1 Try.underlying56 info5 rfl .i64 .i64 100 (by decide) (by decide) w
  have e : madeCells #[Value.int .u8 0] 100 = bArr (fun _ => 0) 100 := by kernel_rfl
  rw [e] at h
  exact h
theorem conv100 (w : World) : (convert 56 9 (.slice (some ⟨w.heap.size, 0, none⟩) 100 100)).run Try.prog (w.alloc (.cells (bArr (fun _ => 0) 100) 5)) = .ok (.string (strOf (List.replicate 100 0))) (w.alloc (.cells (bArr (fun _ => 0) 100) 5)) := by
  have hb := Blk.new w 5 (bArr (fun _ => 0) 100)
  have h : (w.alloc (.cells (bArr (fun _ => 0) 100) 5)).ownsRow 0 5 1 (.slice (some ⟨w.heap.size, 0, none⟩) 100 100) (List.replicate 100 (0 : BitVec 8)).length ((List.replicate 100 (0 : BitVec 8)).map U8) :=
    ⟨by simp, .inr ⟨w.heap.size, 100, bArr (fun _ => 0) 100, by simp, Nat.zero_le _, hb, by simp, by decide, by rw [bArr_size], by kernel_rfl⟩⟩
  exact run_str_of h
end Go.Proofs.Ytjhnkpohdlilpaa
