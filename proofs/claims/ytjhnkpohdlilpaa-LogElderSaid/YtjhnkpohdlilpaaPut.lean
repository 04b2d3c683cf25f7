/-
  Numbers put into bytes and got out of them: the walks of encode's and decode's inner functions.
-/
import Derived.Test.YtjhnkpohdlilpaaRows
import Derived.Test.YtjhnkpohdlilpaaWords
import Derived.Test.YtjhnkpohdlilpaaMem
import Derived.Test.YtjhnkpohdlilpaaTail
import Derived.Test.YtjhnkpohdlilpaaCrc
import Derived.Test.YtjhnkpohdlilpaaArr
import Derived.RangeFuncNested
import Derived.RangeFuncBound
import Derived.RangeFuncCalls
import Derived.RangeFuncLeaves
import Derived.Shelf.Abstract
import Derived.Shelf.RegionOpen
import Derived.WalkKit
import Derived.OwnWalkIn
import Derived.TacticsInMore
import Derived.LoopNIn
import Derived.LoopIn
import Derived.WalkSpells
import Derived.WalkLawsBesides
import Derived.Lib.Hide
import Derived.BigQuiet
namespace Go.Proofs.Ytjhnkpohdlilpaa
open Go.RowKit Go.Shelf
attribute [local go_sem] Oper.semAt_some
def put32 (f : Nat → BitVec 8) (at_ : Nat) (x : BitVec 32) (many : Nat) : Nat → BitVec 8 := fun j => if at_ ≤ j ∧ j < at_ + many then (x >>> (8 * (j - at_))).setWidth 8 else f j
set_option maxHeartbeats 400000 in
theorem put_any (V B : Nat) (f : Nat → BitVec 8) (at_ many : Nat) (x : BitVec 32) (w : World) (hV : w.cell? ⟨V, 0, none⟩ = some (.slice (some ⟨B, 0, none⟩) 64 64)) (hVB : V ≠ B) (hB : Blk w B 5 (bArr f 64)) (h1 : at_ + many ≤ 64) (h2 : many ≤ 4) :
    Calls Try.prog 49 #[.int .i64 at_, U32 x, .int .i64 many, .pointer (some ⟨V, 0, none⟩)] w fun e w' => e = .returned (.tuple #[]) ∧ Blk w' B 5 (bArr (put32 f at_ x many) 64) ∧ Ch (· = B) w w' := by
  go_enter Try.func49, Try.ntmps49
  go_wp2
  go_loopw [9] (fun i wr => ∃ k : Nat, k ≤ many ∧ i = .int .i64 k ∧ Blk wr B 5 (bArr (put32 f at_ x k) 64) ∧ Ch (· = B) w wr) (fun i _ => many - (intOf i).toNat)
  case atStart => exact ⟨0, by omega, rfl, by rw [bArr_congr (g := f)]; exact hB; intro i hi; unfold put32; rw [if_neg (by omega)], Ch.refl _ _⟩
  case round =>
    obtain ⟨k, hk, rfl, hA, hch⟩ := hrel
    by_cases hlt : k < many
    · have l1 : (k : Int) < many := by omega
      have cV := hch.cell hV hVB
      have fA := hA.free (at_ + k)
      have cA := hA.cell (bArr_get (put32 f at_ x k) 64 (at_ + k) (by omega))
      have g0 : (at_ : Int) + k < 64 := by omega
      have g1 : 8 * (k : Int) ≤ 32 := by omega
      have g2 : (0 : Int) ≤ (at_ : Int) + k := by omega
      have g3 : (0 : Int) ≤ 8 * (k : Int) := by omega
      have t0 : ((at_ : Int) + k).toNat = at_ + k := by omega
      have t1 : (8 * (k : Int)).toNat = 8 * k := by omega
      have i0 : IntKind.i64.wrap ((at_ : Int) + k) = (at_ : Int) + k := IntWalk.i64_in _ (by omega)
      have i1 : IntKind.i64.wrap (8 * (k : Int)) = 8 * (k : Int) := IntWalk.i64_in _ (by omega)
      go_wp2_with fail
      refine wp_region_quiet_tail 10 (by kernel_rfl) (by kernel_rfl) ?_
      simp only [List.take_succ_cons, List.take_zero, List.drop_succ_cons, List.drop_zero]
      repeat (go_big_quiet_step (fail))
      refine wpQuiet_nil ?_
      intro _ hw'
      obtain ⟨nq, hw''⟩ := hw'
      subst hw''
      go_wp2
      go_roundw
      case rel =>
        refine ⟨k + 1, by omega, by go_num, ?_, (hch.drewN nq).set (Or.inr rfl) _⟩
        have := (hA.drewN nq).set (at_ + k) (U8 ((x >>> (8 * k)).setWidth 8))
        rw [bArr_set] at this
        rw [bArr_congr (f := put32 f at_ x (k + 1)) (g := fun j => if j = at_ + k then (x >>> (8 * k)).setWidth 8 else put32 f at_ x k j)]
        · exact this
        · intro i hi
          unfold put32
          by_cases e : i = at_ + k
          · subst e; simp
          · rw [if_neg e]
            by_cases e2 : at_ ≤ i ∧ i < at_ + k
            · rw [if_pos e2, if_pos (by omega)]
            · rw [if_neg e2, if_neg (by omega)]
      case measure => simp [intOf]; omega
    · obtain rfl : k = many := by omega
      go_wp2
      go_end0
      exact ⟨rfl, hA, hch⟩
def get32 (f : Nat → BitVec 8) (at_ : Nat) : Nat → BitVec 32
  | 0 => 0
  | k + 1 => get32 f at_ k ||| (f (at_ + k)).setWidth 32 <<< (8 * k)
set_option maxHeartbeats 400000 in
theorem get_any (V B : Nat) (f : Nat → BitVec 8) (at_ many : Nat) (w : World) (hV : w.cell? ⟨V, 0, none⟩ = some (.slice (some ⟨B, 0, none⟩) 64 64)) (hB : Blk w B 5 (bArr f 64)) (h1 : at_ + many ≤ 64) (h2 : many ≤ 4) :
    Calls Try.prog 46 #[.int .i64 at_, .int .i64 many, .pointer (some ⟨V, 0, none⟩)] w fun e w' => e = .returned (U32 (get32 f at_ many)) ∧ w' = w := by
  go_enter Try.func46, Try.ntmps46
  go_wp2
  go_loopw [6, 9] (fun v i wr => ∃ k : Nat, k ≤ many ∧ v = U32 (get32 f at_ k) ∧ i = .int .i64 k ∧ wr = w) (fun _ i _ => many - (intOf i).toNat)
  case atStart => exact ⟨0, by omega, rfl, rfl, rfl⟩
  case round =>
    obtain ⟨k, hk, rfl, rfl, rfl⟩ := hrel
    by_cases hlt : k < many
    · have l1 : (k : Int) < many := by omega
      have cA := hB.cell (bArr_get f 64 (at_ + k) (by omega))
      have g0 : (at_ : Int) + k < 64 := by omega
      have g1 : 8 * (k : Int) ≤ 32 := by omega
      have g2 : (0 : Int) ≤ (at_ : Int) + k := by omega
      have g3 : (0 : Int) ≤ 8 * (k : Int) := by omega
      have t0 : ((at_ : Int) + k).toNat = at_ + k := by omega
      have t1 : (8 * (k : Int)).toNat = 8 * k := by omega
      have i0 : IntKind.i64.wrap ((at_ : Int) + k) = (at_ : Int) + k := IntWalk.i64_in _ (by omega)
      have i1 : IntKind.i64.wrap (8 * (k : Int)) = 8 * (k : Int) := IntWalk.i64_in _ (by omega)
      go_wp2
      go_roundw
      case rel => exact ⟨k + 1, by omega, rfl, by go_num, trivial⟩
      case measure => simp [intOf]; omega
    · obtain rfl : k = many := by omega
      go_wp2
      go_ret
      exact ⟨rfl, rfl⟩
end Go.Proofs.Ytjhnkpohdlilpaa
