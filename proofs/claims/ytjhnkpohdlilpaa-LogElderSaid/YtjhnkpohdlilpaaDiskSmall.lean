/-
  The walks of the disk's small functions.
-/
import Derived.Test.YtjhnkpohdlilpaaDisk
import Derived.Test.YtjhnkpohdlilpaaAtom
import Derived.Test.YtjhnkpohdlilpaaDecode
import Derived.Test.YtjhnkpohdlilpaaEncode
import Derived.Test.YtjhnkpohdlilpaaTake
import Derived.Test.YtjhnkpohdlilpaaCopy
import Derived.Laws.CopyOwn
import Derived.Deep.OwnRows
import Derived.Deep.MidRow
import Derived.Test.YtjhnkpohdlilpaaPut
import Derived.Test.YtjhnkpohdlilpaaRows
import Derived.Test.YtjhnkpohdlilpaaWords
import Derived.Test.YtjhnkpohdlilpaaMem
import Derived.Test.YtjhnkpohdlilpaaTail
import Derived.Test.YtjhnkpohdlilpaaCrc
import Derived.Test.YtjhnkpohdlilpaaArr
import Derived.RangeFuncNested
import Derived.RangeFuncBound
import Derived.RangeFuncCalls
import Derived.RangeFuncLeaves
import Derived.Shelf.Abstract
import Derived.Shelf.RegionOpen
import Derived.WalkKit
import Derived.OwnWalkIn
import Derived.TacticsInMore
import Derived.LoopNIn
import Derived.LoopIn
import Derived.WalkSpells
import Derived.WalkLawsBesides
import Derived.Lib.Hide
import Derived.BigQuiet
import Derived.Outline
import Derived.Deep.DeepFit
namespace Go.Proofs.Ytjhnkpohdlilpaa
open Go.RowKit Go.Shelf
attribute [local go_sem] Oper.semAt_some
theorem has_any (D N L : Nat) (pv : Value) (d : DM) (n : Int) (w : World) (h : DiskIs w D N L pv d) : Calls Try.prog 44 #[.pointer (some ⟨D, 0, none⟩), .int .i64 n] w fun e w' => e = .returned (.bool (d.has n)) ∧ w' = w := by
  have c0 := h.hD.cell (j := 0) rfl
  unfold DM.has
  by_cases h0 : 0 ≤ n
  · have e0 : decide (0 ≤ n) = true := by simp [h0]
    go_enter Try.func44, Try.ntmps44
    go_wp2
    go_ret
    exact ⟨by rw [e0, Bool.true_and]; rfl, rfl⟩
  · have e0 : decide (0 ≤ n) = false := by simp [h0]
    go_enter Try.func44, Try.ntmps44
    go_wp2
    go_ret
    exact ⟨rfl, rfl⟩
theorem sectors_any (D N L : Nat) (pv : Value) (d : DM) (w : World) (h : DiskIs w D N L pv d) : Calls Try.prog 27 #[.pointer (some ⟨D, 0, none⟩)] w fun e w' => e = .returned (.int .i64 d.n) ∧ w' = w := by
  have c0 := h.hD.cell (j := 0) rfl
  go_enter Try.func27, Try.ntmps27
  go_wp2
  go_ret
  exact ⟨rfl, rfl⟩
theorem up_any (D N L : Nat) (pv : Value) (d : DM) (w : World) (h : DiskIs w D N L pv d) : Calls Try.prog 42 #[.pointer (some ⟨D, 0, none⟩)] w fun e w' => e = .returned (.bool (!d.down)) ∧ w' = w := by
  have c0 := h.hD.cell (j := 3) rfl
  go_enter Try.func42, Try.ntmps42
  go_wp2
  go_ret
  exact ⟨rfl, rfl⟩
theorem own_len {w : World} {base e size n : Nat} {v : Value} {xs : List Value} (h : w.ownsRow base e size v n xs) : ∃ a c, v = .slice a n c := by
  rcases h.2 with ⟨rfl, rfl⟩ | ⟨g, cap, cur, rfl, _⟩
  · exact ⟨_, _, rfl⟩
  · exact ⟨_, _, rfl⟩
theorem pending_any (D N L : Nat) (pv : Value) (d : DM) (w : World) (h : DiskIs w D N L pv d) : Calls Try.prog 41 #[.pointer (some ⟨D, 0, none⟩)] w fun e w' => e = .returned (.int .i64 d.pend.length) ∧ w' = w := by
  obtain ⟨a, c, rfl⟩ := own_len h.hP
  have c0 := h.hD.cell (j := 2) rfl
  go_enter Try.func41, Try.ntmps41
  go_wp2
  go_ret
  exact ⟨rfl, rfl⟩
theorem DiskIs.setDown {w : World} {D N L : Nat} {pv : Value} {d : DM} (h : DiskIs w D N L pv d) (b : Bool) : DiskIs (w.setCell ⟨D, 3, none⟩ (.bool b)) D N L pv { d with down := b } :=
  ⟨by have := h.hD.set 3 (.bool b); simpa using this, h.hN.set_other (by exact h.nDN) _, h.hL.set_other (by exact h.nDL) _, own_ch h.hP (Ch.set (S := (· = D)) (Ch.refl _ _) (Or.inr rfl) _) (fun k hk => (h.nP k hk).1), h.nDN, h.nDL, h.nNL, h.nP, h.n1, h.n2, h.hat, h.l1, h.l2⟩
theorem DiskIs.setLeft {w : World} {D N L : Nat} {pv : Value} {d : DM} (h : DiskIs w D N L pv d) (v : Int) (h1 : -1 ≤ v) (h2 : v ≤ 9223372036854775807) : DiskIs (w.setCell ⟨D, 4, none⟩ (.int .i64 v)) D N L pv { d with left := v } :=
  ⟨by have := h.hD.set 4 (.int .i64 v); simpa using this, h.hN.set_other (by exact h.nDN) _, h.hL.set_other (by exact h.nDL) _, own_ch h.hP (Ch.set (S := (· = D)) (Ch.refl _ _) (Or.inr rfl) _) (fun k hk => (h.nP k hk).1), h.nDN, h.nDL, h.nNL, h.nP, h.n1, h.n2, h.hat, h1, h2⟩
set_option maxHeartbeats 400000 in
theorem goes_any (D N L : Nat) (pv : Value) (d : DM) (w : World) (h : DiskIs w D N L pv d) : Calls Try.prog 48 #[.pointer (some ⟨D, 0, none⟩)] w fun e w' => e = .returned (.bool d.goes.1) ∧ DiskIs w' D N L pv d.goes.2 ∧ Ch (· = D) w w' := by
  have c3 := h.hD.cell (j := 3) rfl
  have f3 := h.hD.free 3
  have f4 := h.hD.free 4
  have c4 : w.cell? ⟨D, 4, none⟩ = some (.int .i64 d.left) := h.hD.cell (j := 4) rfl
  have g1 := h.l1
  have g2 := h.l2
  unfold DM.goes
  by_cases h0 : d.left < 0
  · rw [if_pos h0]
    go_enter Try.func48, Try.ntmps48
    go_wp2_with fail
    refine (aload_any D 4 d.left w c4).mono ?_
    rintro e w' ⟨rfl, rfl⟩
    go_wp2
    go_ret
    exact ⟨rfl, h, Ch.refl _ _⟩
  · rw [if_neg h0]
    by_cases h1 : d.left = 0
    · rw [if_pos h1]
      go_enter Try.func48, Try.ntmps48
      go_wp2_with fail
      refine (aload_any D 4 d.left w c4).mono ?_
      rintro e w' ⟨rfl, rfl⟩
      have e0 : (d.left == 0) = true := by simp [h1]
      clear h1
      go_wp2
      go_ret
      exact ⟨rfl, h.setDown true, Ch.set (S := (· = D)) (Ch.refl _ _) (Or.inr rfl) _⟩
    · rw [if_neg h1]
      go_enter Try.func48, Try.ntmps48
      go_wp2_with fail
      refine (aload_any D 4 d.left w c4).mono ?_
      rintro e w' ⟨rfl, rfl⟩
      have e0 : (d.left == 0) = false := by simp [h1]
      go_wp2_with fail
      refine (aadd_any D 4 d.left _ c4 f4 (by omega) g2).mono ?_
      rintro e w' ⟨rfl, rfl⟩
      go_wp2
      go_ret
      exact ⟨rfl, h.setLeft _ (by omega) (by omega), Ch.set (S := (· = D)) (Ch.refl _ _) (Or.inr rfl) _⟩
end Go.Proofs.Ytjhnkpohdlilpaa
