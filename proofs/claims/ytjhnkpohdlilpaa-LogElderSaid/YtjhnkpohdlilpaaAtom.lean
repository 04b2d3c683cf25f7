/-
  The walks of atomic Load, Store, Add.
-/
import Derived.Laws.LoneSync
import Derived.Test.YtjhnkpohdlilpaaDecode
import Derived.Test.YtjhnkpohdlilpaaEncode
import Derived.Test.YtjhnkpohdlilpaaTake
import Derived.Test.YtjhnkpohdlilpaaCopy
import Derived.Laws.CopyOwn
import Derived.Deep.OwnRows
import Derived.Deep.MidRow
import Derived.Test.YtjhnkpohdlilpaaPut
import Derived.Test.YtjhnkpohdlilpaaRows
import Derived.Test.YtjhnkpohdlilpaaWords
import Derived.Test.YtjhnkpohdlilpaaMem
import Derived.Test.YtjhnkpohdlilpaaTail
import Derived.Test.YtjhnkpohdlilpaaCrc
import Derived.Test.YtjhnkpohdlilpaaArr
import Derived.RangeFuncNested
import Derived.RangeFuncBound
import Derived.RangeFuncCalls
import Derived.RangeFuncLeaves
import Derived.Shelf.Abstract
import Derived.Shelf.RegionOpen
import Derived.WalkKit
import Derived.OwnWalkIn
import Derived.TacticsInMore
import Derived.LoopNIn
import Derived.LoopIn
import Derived.WalkSpells
import Derived.WalkLawsBesides
import Derived.Lib.Hide
import Derived.BigQuiet
import Derived.Outline
import Derived.Deep.DeepFit
namespace Go.Proofs.Ytjhnkpohdlilpaa
open Go.RowKit Go.Shelf
attribute [local go_sem] Oper.semAt_some
theorem aload_any (D : Nat) (j : Nat) (v : Int) (w : World) (h : w.cell? ⟨D, j, none⟩ = some (.int .i64 v)) : Calls Try.prog 57 #[.pointer (some ⟨D, j, none⟩)] w fun e w' => e = .returned (.int .i64 v) ∧ w' = w := by
  have hl := run_call_load (P := Try.prog) Try.func64 (by kernel_rfl) (by kernel_rfl) (by kernel_rfl) .i64 (by kernel_rfl) h
  go_enter Try.func57, Try.ntmps57
  go_wp2
  go_ret
  exact ⟨rfl, rfl⟩
theorem astore_any (D : Nat) (j : Nat) (v u : Int) (w : World) (h : w.cell? ⟨D, j, none⟩ = some (.int .i64 v)) (hf : w.frozen? ⟨D, j, none⟩ = false) : Calls Try.prog 26 #[.pointer (some ⟨D, j, none⟩), .int .i64 u] w fun e w' => e = .returned (.tuple #[]) ∧ w' = w.setCell ⟨D, j, none⟩ (.int .i64 u) := by
  have hl := run_call_store (P := Try.prog) Try.func43 (by kernel_rfl) (by kernel_rfl) (by kernel_rfl) (by kernel_rfl) (k := .i64) (y := u) h hf
  go_enter Try.func26, Try.ntmps26
  go_wp2
  go_end0
  exact ⟨rfl, rfl⟩
theorem aadd_any (D : Nat) (j : Nat) (v : Int) (w : World) (h : w.cell? ⟨D, j, none⟩ = some (.int .i64 v)) (hf : w.frozen? ⟨D, j, none⟩ = false) (h1 : 0 < v) (h2 : v ≤ 9223372036854775807) : Calls Try.prog 58 #[.pointer (some ⟨D, j, none⟩), .int .i64 (-1)] w fun e w' => e = .returned (.int .i64 (v - 1)) ∧ w' = w.setCell ⟨D, j, none⟩ (.int .i64 (v - 1)) := by
  have e1 : IntKind.i64.wrap (v + -1) = v - 1 := by rw [IntWalk.i64_in _ (by omega)]; omega
  have hl := run_call_add (P := Try.prog) Try.func65 (by kernel_rfl) (by kernel_rfl) (by kernel_rfl) .i64 (by kernel_rfl) (y := -1) (s := v - 1) h hf (by simp [go_sem]; rw [e1])
  go_enter Try.func58, Try.ntmps58
  go_wp2
  go_ret
  exact ⟨rfl, rfl⟩
end Go.Proofs.Ytjhnkpohdlilpaa
