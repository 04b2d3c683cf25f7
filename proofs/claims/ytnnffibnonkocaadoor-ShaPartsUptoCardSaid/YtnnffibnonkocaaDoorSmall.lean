/-
  The small functions' walks.
-/
import Derived.Test.YtnnffibnonkocaaDoorRows
import Derived.Test.YtnnffibnonkocaaDoorArr
import Derived.Test.YtnnffibnonkocaaDoorTail
import Derived.WalkKit
import Derived.WalkSpells
import Derived.WalkLawsBesides
import Derived.Lib.Hide
import Derived.Deep.QuietTactic
import Derived.BigQuiet
namespace Go.Proofs.YtnnffibnonkocaaDoor
open Go.RowKit
theorem rot_mask (n : Nat) (h : n < 32) : bits BinOp.and IntKind.u64 (IntKind.u64.wrap (-(n : Int))) 31 = (((32 - n) % 32 : Nat) : Int) := by
  have : ∀ m : Fin 32, bits BinOp.and IntKind.u64 (IntKind.u64.wrap (-((m : Nat) : Int))) 31 = (((32 - (m : Nat)) % 32 : Nat) : Int) := by decide
  exact this ⟨n, h⟩

set_option maxHeartbeats 400000 in
theorem rotl_any (x : BitVec 32) (n : Int) (k : Nat) (hk : k < 32) (hm : bits BinOp.and IntKind.u64 (IntKind.u64.wrap n) 31 = (k : Int)) (w : World) :
    Calls Tryd.prog 26 #[U32 x, .int .i64 n] w fun e w' => e = .returned (U32 (x <<< k ||| x >>> (32 - k))) ∧ w = w' := by
  have h1 : (k : Int) ≤ 32 := by omega
  have h2 : (0 : Int) ≤ 32 - k := by omega
  have h3 : (32 : Int) - k ≤ 32 := by omega
  have h4 : ((32 : Int) - k).toNat = 32 - k := by omega
  have h5 : IntKind.u64.wrap (32 - (k : Int)) = 32 - k := by simp [IntKind.wrap, IntKind.bits, IntKind.signed]; omega
  go_enter Tryd.func26, Tryd.ntmps26
  go_wp2
  go_ret
  exact ⟨rfl, rfl⟩

set_option maxHeartbeats 400000 in
theorem right_any (x : BitVec 32) (n : Nat) (hn : 0 < n) (hn2 : n < 32) (w : World) :
    Calls Tryd.prog 25 #[U32 x, .int .i64 n] w fun e w' => e = .returned (U32 (x.rotateRight n)) ∧ w = w' := by
  have hm : bits BinOp.and IntKind.u64 (IntKind.u64.wrap (-(n : Int))) 31 = ((32 - n : Nat) : Int) := by rw [rot_mask n hn2]; congr 1; omega
  have e : x.rotateRight n = x <<< (32 - n) ||| x >>> (32 - (32 - n)) := by
    rw [BitVec.rotateRight_def, Nat.mod_eq_of_lt hn2, BitVec.or_comm]
    congr 2; omega
  rw [e]
  have HM := Lib.hid hm
  clear hm e
  go_enter Tryd.func25, Tryd.ntmps25
  go_wp2_with (go_at_call 26; (with_reducible refine (rotl_any x (-(n : Int)) (32 - n) (by omega) HM.out _).mono ?_); rintro e w' ⟨rfl, rfl⟩)
  go_ret
  exact ⟨rfl, rfl⟩

/-- the turns that the rounds take, each at its own numeral -/
theorem right_at (n : Nat) (hn : 0 < n) (hn2 : n < 32) (z : Int) (hz : z = n) (x : BitVec 32) (w : World) :
    Calls Tryd.prog 25 #[U32 x, .int .i64 z] w fun e w' => e = .returned (U32 (x.rotateRight n)) ∧ w = w' := by
  subst hz; exact right_any x n hn hn2 w

set_option maxHeartbeats 400000 in
theorem R_any (x : BitVec 32) (n : Nat) (hn : 0 < n) (hn2 : n < 32) (w : World) :
    Calls Tryd.prog 19 #[U32 x, .int .i64 n] w fun e w' => e = .returned (U32 (x.rotateRight n)) ∧ ∃ n, w' = w.drewN n := by
  have e : x.rotateRight n = x >>> n ||| x <<< (32 - n) := by
    rw [BitVec.rotateRight_def, Nat.mod_eq_of_lt hn2]
  rw [e]
  clear e
  have h1 : (n : Int) ≤ 32 := by omega
  have h2 : (0 : Int) ≤ 32 - n := by omega
  have h3 : (32 : Int) - n ≤ 32 := by omega
  have h4 : ((32 : Int) - n).toNat = 32 - n := by omega
  go_enter Tryd.func19, Tryd.ntmps19
  go_wp2
  go_quiet (fail)
  go_wp2
  go_ret
  exact ⟨rfl, _, rfl⟩
theorem R_at (n : Nat) (hn : 0 < n) (hn2 : n < 32) (z : Int) (hz : z = n) (x : BitVec 32) (w : World) :
    Calls Tryd.prog 19 #[U32 x, .int .i64 z] w fun e w' => e = .returned (U32 (x.rotateRight n)) ∧ ∃ n, w' = w.drewN n := by
  subst hz; exact R_any x n hn hn2 w

set_option maxHeartbeats 400000 in
theorem word_any (B o l c : Nat) (b0 b1 b2 b3 : BitVec 8) (w : World) (hl : 4 ≤ l) (h0 : w.cell? ⟨B, o, none⟩ = some (U8 b0)) (h1 : w.cell? ⟨B, o + 1, none⟩ = some (U8 b1))
   (h2 : w.cell? ⟨B, o + 2, none⟩ = some (U8 b2)) (h3 : w.cell? ⟨B, o + 3, none⟩ = some (U8 b3)) :
    Calls Tryd.prog 24 #[.slice (some ⟨B, o, none⟩) l c] w fun e w' => e = .returned (U32 (word4 b0 b1 b2 b3)) ∧ ∃ n, w' = w.drewN n := by
  have g0 : (0 : Int) < l := by omega
  have g1 : (1 : Int) < l := by omega
  have g2 : (2 : Int) < l := by omega
  have g3 : (3 : Int) < l := by omega
  go_enter Tryd.func24, Tryd.ntmps24
  go_wp2
  go_quiet (fail)
  go_wp2
  go_ret
  exact ⟨rfl, _, rfl⟩
/-- a turn within a region that draws its order -/
theorem right_q (z : Int) (h0 : 0 < z) (h1 : z < 32) (x : BitVec 32) (w : World) (m : Nat) :
    Calls Tryd.prog 25 #[U32 x, .int .i64 z] (w.drewN m) fun e w' => e = .returned (U32 (x.rotateRight z.toNat)) ∧ ∃ k, w' = w.drewN k :=
  (right_at z.toNat (by omega) (by omega) z (by omega) x _).mono fun _ _ ⟨he, hw⟩ => ⟨he, m, hw.symm⟩
theorem R_q (z : Int) (h0 : 0 < z) (h1 : z < 32) (x : BitVec 32) (w : World) (m : Nat) :
    Calls Tryd.prog 19 #[U32 x, .int .i64 z] (w.drewN m) fun e w' => e = .returned (U32 (x.rotateRight z.toNat)) ∧ ∃ k, w' = w.drewN k :=
  Calls.quiet_of (R_at z.toNat (by omega) (by omega) z (by omega) x _)
end Go.Proofs.YtnnffibnonkocaaDoor
