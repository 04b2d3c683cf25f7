/-
  The walk of the disk's Read.
-/
import Derived.Test.YtjhnkpohdlilpaaOut
import Derived.Test.YtjhnkpohdlilpaaDiskSmall
import Derived.Test.YtjhnkpohdlilpaaDisk
import Derived.Test.YtjhnkpohdlilpaaAtom
import Derived.Test.YtjhnkpohdlilpaaDecode
import Derived.Test.YtjhnkpohdlilpaaEncode
import Derived.Test.YtjhnkpohdlilpaaTake
import Derived.Test.YtjhnkpohdlilpaaCopy
import Derived.Laws.CopyOwn
import Derived.Deep.OwnRows
import Derived.Deep.MidRow
import Derived.Test.YtjhnkpohdlilpaaPut
import Derived.Test.YtjhnkpohdlilpaaRows
import Derived.Test.YtjhnkpohdlilpaaWords
import Derived.Test.YtjhnkpohdlilpaaMem
import Derived.Test.YtjhnkpohdlilpaaTail
import Derived.Test.YtjhnkpohdlilpaaCrc
import Derived.Test.YtjhnkpohdlilpaaArr
import Derived.RangeFuncNested
import Derived.RangeFuncBound
import Derived.RangeFuncCalls
import Derived.RangeFuncLeaves
import Derived.Shelf.Abstract
import Derived.Shelf.RegionOpen
import Derived.WalkKit
import Derived.OwnWalkIn
import Derived.TacticsInMore
import Derived.LoopNIn
import Derived.LoopIn
import Derived.WalkSpells
import Derived.WalkLawsBesides
import Derived.Lib.Hide
import Derived.BigQuiet
import Derived.Outline
import Derived.Deep.DeepFit
namespace Go.Proofs.Ytjhnkpohdlilpaa
open Go.RowKit Go.Shelf
attribute [local go_sem] Oper.semAt_some
theorem read_down (D N L : Nat) (pv : Value) (d : DM) (n : Int) (w : World) (h : DiskIs w D N L pv d) (hd : d.down = true) : Calls Try.prog 28 #[.pointer (some ⟨D, 0, none⟩), .int .i64 n] w fun e w' => e = .returned (.tuple #[.slice none 0 0, .int .i64 10]) ∧ w' = w := by
  have c3 : w.cell? ⟨D, 3, none⟩ = some (.bool true) := by rw [← hd]; exact h.hD.cell (j := 3) rfl
  clear hd
  go_enter Try.func28, Try.ntmps28
  go_wp2
  go_ret2
  exact ⟨rfl, rfl⟩
theorem read_ok (D N L : Nat) (pv : Value) (d : DM) (k : Nat) (w : World) (h : DiskIs w D N L pv d) (hd : d.down = false) (hk : k < d.n) : Calls Try.prog 28 #[.pointer (some ⟨D, 0, none⟩), .int .i64 k] w fun e w' => ∃ B, e = .returned (.tuple #[.slice (some ⟨B, 0, none⟩) 64 64, .int .i64 0]) ∧ w.heap.size ≤ B ∧ Blk w' B 5 (bArr (d.now k) 64) ∧ Ch (fun _ => False) w w' := by
  have c3 : w.cell? ⟨D, 3, none⟩ = some (.bool false) := by rw [← hd]; exact h.hD.cell (j := 3) rfl
  have c0 : w.cell? ⟨D, 0, none⟩ = some (.slice (some ⟨N, 0, none⟩) d.n d.n) := h.hD.cell (j := 0) rfl
  have hh : d.has k = true := by unfold DM.has; simp [hk]
  have HH := Lib.hid hh
  clear hd hh
  have gk : (k : Int) < d.n := by omega
  go_enter Try.func28, Try.ntmps28
  go_wp2_with fail
  refine (has_any D N L pv d k _ h).mono ?_
  rw [HH.out]
  rintro e w' ⟨rfl, rfl⟩
  go_wp2_with ((refine wpList_load_mid rfl 81 (.tmp 21) rfl N _ rfl (bArr (d.now k) 64).toList _ (range_flat h.hN k hk) Try.underlying81 rfl (by rw [Array.length_toList, bArr_size]; exact inf81) ?_; rw [Array.toArray_toList]))
  refine (out_any (d.now k) _).mono ?_
  rintro e w1 ⟨B, rfl, hBw, hB1, hc1⟩
  go_wp2
  go_ret2
  exact ⟨B, rfl, hBw, hB1, hc1⟩
theorem read_not (D N L : Nat) (pv : Value) (d : DM) (n : Int) (w : World) (h : DiskIs w D N L pv d) (hd : d.down = false) (hk : d.has n = false) : Calls Try.prog 28 #[.pointer (some ⟨D, 0, none⟩), .int .i64 n] w fun e w' => e = .returned (.tuple #[.slice none 0 0, .int .i64 11]) ∧ w' = w := by
  have c3 : w.cell? ⟨D, 3, none⟩ = some (.bool false) := by rw [← hd]; exact h.hD.cell (j := 3) rfl
  have HH := Lib.hid hk
  clear hd hk
  go_enter Try.func28, Try.ntmps28
  go_wp2_with fail
  refine (has_any D N L pv d n _ h).mono ?_
  rw [HH.out]
  rintro e w' ⟨rfl, rfl⟩
  go_wp2
  go_ret2
  exact ⟨rfl, rfl⟩
end Go.Proofs.Ytjhnkpohdlilpaa
