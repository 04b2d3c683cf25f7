/-
  Check sums: the walks of byteOf, Add, Sum of package sum.
-/
import Derived.Test.YtjhnkpohdlilpaaRows
import Derived.Test.YtjhnkpohdlilpaaWords
import Derived.Test.YtjhnkpohdlilpaaMem
import Derived.Test.YtjhnkpohdlilpaaTail
import Derived.RangeFuncNested
import Derived.RangeFuncBound
import Derived.RangeFuncCalls
import Derived.RangeFuncLeaves
import Derived.Shelf.Abstract
import Derived.Shelf.RegionOpen
import Derived.WalkKit
import Derived.OwnWalkIn
import Derived.TacticsInMore
import Derived.LoopNIn
import Derived.LoopIn
import Derived.WalkSpells
import Derived.WalkLawsBesides
import Derived.Lib.Hide
import Derived.BigQuiet
namespace Go.Proofs.Ytjhnkpohdlilpaa
open Go.RowKit Go.Shelf
attribute [local go_sem] Oper.semAt_some
@[go_sem] theorem b32_and_one (t : TypeId) (x : BitVec 32) : binOp .and t (U32 x) (.int .u32 1) = pure (U32 (x &&& 1)) := b32_and t x 1
@[go_sem] theorem b32_xor_poly (t : TypeId) (x : BitVec 32) : binOp .xor t (U32 x) (.int .u32 3988292384) = pure (U32 (x ^^^ 0xedb88320)) := b32_xor t x 0xedb88320
@[go_sem] theorem b32_eql (t : TypeId) (x y : BitVec 32) : binOp .eql t (U32 x) (U32 y) = pure (.bool (x == y)) := by
  unfold U32
  rw [binOp_eql]
  congr 2
  rw [Bool.eq_iff_iff]
  simp only [beq_iff_eq]
  constructor
  · intro h; exact BitVec.eq_of_toNat_eq (by omega)
  · intro h; rw [h]
@[go_sem] theorem b32_eql_one (t : TypeId) (x : BitVec 32) : binOp .eql t (U32 x) (.int .u32 1) = pure (.bool (x == 1)) := b32_eql t x 1
@[go_sem] theorem eqGuard_U32 (t : TypeId) (a b : Operand) (x y : BitVec 32) : eqGuard .eql t a b (U32 x) (U32 y) = pure () := rfl
@[go_sem] theorem eqGuard_U32i (t : TypeId) (a b : Operand) (x : BitVec 32) (z : Int) : eqGuard .eql t a b (U32 x) (.int .u32 z) = pure () := rfl
/-- one bit of a check sum -/
def crcBit (r : BitVec 32) : BitVec 32 := if r &&& 1#32 == 1#32 then (r >>> 1) ^^^ 0xedb88320 else r >>> 1
def crcBits : Nat → BitVec 32 → BitVec 32
  | 0, r => r
  | n + 1, r => crcBit (crcBits n r)
def crcByte (r : BitVec 32) (b : BitVec 8) : BitVec 32 := crcBits 8 (r ^^^ b.setWidth 32)
def crcAdd (s : BitVec 32) (l : List (BitVec 8)) : BitVec 32 := ~~~ (l.foldl crcByte (~~~ s))
def crc (l : List (BitVec 8)) : BitVec 32 := crcAdd 0 l
set_option maxHeartbeats 400000 in
theorem byteOf_any (r : BitVec 32) (b : BitVec 8) (w : World) : Calls Try.prog 63 #[U32 r, U8 b] w fun e w' => e = .returned (U32 (crcByte r b)) ∧ w' = w := by
  go_enter Try.func63, Try.ntmps63
  go_wp2
  go_loopw [0, 10] (fun v i wr => ∃ k : Nat, k ≤ 8 ∧ v = U32 (crcBits k (r ^^^ b.setWidth 32)) ∧ i = .int .i64 k ∧ wr = w) (fun _ i _ => 8 - (intOf i).toNat)
  case atStart => exact ⟨0, by omega, rfl, rfl, rfl⟩
  case round =>
    obtain ⟨k, hk, rfl, rfl, rfl⟩ := hrel
    by_cases hlt : k < 8
    · have l8 : (k : Int) < 8 := by omega
      by_cases hb : (crcBits k (r ^^^ b.setWidth 32) &&& 1#32 == 1#32) = true
      · go_wp2
        go_roundw
        case rel => exact ⟨k + 1, by omega, by rw [crcBits, crcBit, if_pos hb]; rfl, by go_num, trivial⟩
        case measure => simp [intOf]; omega
      · have hb' : (crcBits k (r ^^^ b.setWidth 32) &&& 1#32 == 1#32) = false := by simpa using hb
        go_wp2
        go_roundw
        case rel => exact ⟨k + 1, by omega, by rw [crcBits, crcBit, if_neg hb], by go_num, trivial⟩
        case measure => simp [intOf]; omega
    · obtain rfl : k = 8 := by omega
      go_wp2
      go_ret
      exact ⟨rfl, rfl⟩
/-- bytes behind a slice: whatever block they lie in (not one of X) -/
def Src (X : Nat → Prop) (w : World) (a : Option Addr) (ys : List (BitVec 8)) : Prop :=
  ys ≠ [] → ∃ ob off, a = some ⟨ob, off, none⟩ ∧ ¬ X ob ∧ ∀ j y, ys[j]? = some y → w.cell? ⟨ob, off + j, none⟩ = some (U8 y)
theorem Src.ch {X S : Nat → Prop} {w w' : World} {a : Option Addr} {ys : List (BitVec 8)} (h : Src X w a ys) (hch : Ch S w w') (hs : ∀ i, S i → X i) : Src X w' a ys := fun hne => by
  obtain ⟨ob, off, rfl, hx, hc⟩ := h hne
  exact ⟨ob, off, rfl, hx, fun j y hy => hch.cell (hc j y hy) (fun e => hx (hs _ e))⟩
theorem Src.mono {w : World} {X Y : Nat → Prop} {a : Option Addr} {ys : List (BitVec 8)} (h : Src X w a ys) (hXY : ∀ i, Y i → X i) : Src Y w a ys := fun hne => by
  obtain ⟨ob, off, rfl, hx, hy⟩ := h hne
  exact ⟨ob, off, rfl, fun e => hx (hXY _ e), hy⟩
set_option maxHeartbeats 400000 in
theorem add_any (s : BitVec 32) (xs : List (BitVec 8)) (a0 : Option Addr) (c0 : Nat) (w : World) (hs : Src (fun _ => False) w a0 xs) (hn : xs.length ≤ 4611686018427387904) :
    Calls Try.prog 56 #[U32 s, .slice a0 xs.length c0] w fun e w' => e = .returned (U32 (crcAdd s xs)) ∧ w' = w := by
  have gn : (xs.length : Int) ≤ 4611686018427387904 := by omega
  go_enter Try.func56, Try.ntmps56
  go_wp2
  go_loopw [5, 12] (fun v i wr => ∃ k : Nat, k ≤ xs.length ∧ v = U32 ((xs.take k).foldl crcByte (~~~ s)) ∧ i = .int .i64 k ∧ wr = w) (fun _ i _ => xs.length - (intOf i).toNat)
  case atStart => exact ⟨0, by omega, rfl, rfl, rfl⟩
  case round =>
    obtain ⟨k, hk, rfl, rfl, rfl⟩ := hrel
    by_cases hlt : k < xs.length
    · have l8 : (k : Int) < xs.length := by omega
      obtain ⟨ob, off, rfl, -, hc⟩ := hs (by intro e; rw [e] at hlt; simp at hlt)
      have ck := hc k xs[k] (List.getElem?_eq_getElem hlt)
      have ht : xs.take (k + 1) = xs.take k ++ [xs[k]] := by rw [List.take_add_one, List.getElem?_eq_getElem hlt]; rfl
      have HT := Lib.hid ht
      clear ht
      go_wp2_with fail
      refine (byteOf_any _ _ _).mono ?_
      rintro e w' ⟨rfl, rfl⟩
      go_wp2
      go_roundw
      case rel => exact ⟨k + 1, by omega, by rw [HT.out, List.foldl_append]; rfl, by go_num, trivial⟩
      case measure => simp [intOf]; omega
    · obtain rfl : k = xs.length := by omega
      go_wp2
      go_ret
      rw [List.take_length]
      exact ⟨rfl, rfl⟩
theorem sum_any (xs : List (BitVec 8)) (a0 : Option Addr) (c0 : Nat) (w : World) (hs : Src (fun _ => False) w a0 xs) (hn : xs.length ≤ 4611686018427387904) :
    Calls Try.prog 47 #[.slice a0 xs.length c0] w fun e w' => e = .returned (U32 (crc xs)) ∧ w' = w := by
  go_enter Try.func47, Try.ntmps47
  go_wp2_with fail
  have e0 : (Value.int .u32 0) = U32 0 := rfl
  rw [e0]
  refine (add_any 0 xs a0 c0 w hs hn).mono ?_
  rintro e w' ⟨rfl, rfl⟩
  go_wp2
  go_ret
  exact ⟨rfl, rfl⟩
end Go.Proofs.Ytjhnkpohdlilpaa
