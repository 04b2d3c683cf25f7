/-
  Words and bytes as values: the walk's laws on them. No program in sight.
-/
import Derived.WalkKit
namespace Go.Proofs.Ytjhnkpohdlilpaa
open Go.RowKit

/-- words and bytes as values -/
def U32 (x : BitVec 32) : Value := .int .u32 x.toNat
def U8 (x : BitVec 8) : Value := .int .u8 x.toNat
def U64 (x : BitVec 64) : Value := .int .u64 x.toNat

theorem wrap_u32_nat (n : Nat) : IntKind.u32.wrap (n : Int) = ((BitVec.ofNat 32 n).toNat : Int) := by
  rw [IntKind.wrap_u32', BitVec.toNat_ofNat]; omega
theorem wrap_u8_nat (n : Nat) : IntKind.u8.wrap (n : Int) = ((BitVec.ofNat 8 n).toNat : Int) := by
  rw [IntKind.wrap_u8', BitVec.toNat_ofNat]; omega
theorem wrap_u64_nat (n : Nat) : IntKind.u64.wrap (n : Int) = ((BitVec.ofNat 64 n).toNat : Int) := by
  rw [BitVec.toNat_ofNat]; simp [IntKind.wrap, IntKind.bits, IntKind.signed]
theorem ofInt_toNat (n : Nat) (x : BitVec n) : BitVec.ofInt n (x.toNat : Int) = x := by
  rw [BitVec.ofInt_natCast, BitVec.ofNat_toNat, BitVec.setWidth_eq]
theorem ofNat_toNat' (n : Nat) (x : BitVec n) : BitVec.ofNat n x.toNat = x := by
  rw [BitVec.ofNat_toNat, BitVec.setWidth_eq]

section
variable (t : TypeId) (x y : BitVec 32)
@[go_sem] theorem b32_add : binOp .add t (U32 x) (U32 y) = pure (U32 (x + y)) := by
  unfold U32
  rw [binOp_add]
  simp only [Op.intArith]
  congr 2
@[go_sem] theorem b32_xor : binOp .xor t (U32 x) (U32 y) = pure (U32 (x ^^^ y)) := by
  unfold U32
  rw [binOp_xor, intBits_xor]
  simp only [bits, IntKind.bits, ofInt_toNat, wrap_u32_nat, ofNat_toNat']
  rfl
@[go_sem] theorem b32_and : binOp .and t (U32 x) (U32 y) = pure (U32 (x &&& y)) := by
  unfold U32
  rw [binOp_and, intBits_and]
  simp only [bits, IntKind.bits, ofInt_toNat, wrap_u32_nat, ofNat_toNat']
  rfl
@[go_sem] theorem b32_or : binOp .or t (U32 x) (U32 y) = pure (U32 (x ||| y)) := by
  unfold U32
  rw [binOp_or, intBits_or]
  simp only [bits, IntKind.bits, ofInt_toNat, wrap_u32_nat, ofNat_toNat']
  rfl
@[go_sem] theorem b32_sub : binOp .sub t (U32 x) (U32 y) = pure (U32 (x - y)) := by
  unfold U32
  rw [binOp_sub]
  simp only [Op.intArith]
  congr 2
  rw [IntKind.wrap_u32', BitVec.toNat_sub]
  have := x.isLt; have := y.isLt
  omega
@[go_sem] theorem b32_shr (yk : IntKind) (n : Int) (h0 : 0 ≤ n) (h1 : n ≤ 32) : binOp .shr t (U32 x) (.int yk n) = pure (U32 (x >>> n.toNat)) := by
  unfold U32
  rw [binOp_shr, shift_shr (k := .u32) (h₀ := h0) (h₁ := h1)]
  congr 2
  rw [BitVec.toNat_ushiftRight, Nat.shiftRight_eq_div_pow]
  simp
@[go_sem] theorem b32_shl (yk : IntKind) (n : Int) (h0 : 0 ≤ n) (h1 : n ≤ 32) : binOp .shl t (U32 x) (.int yk n) = pure (U32 (x <<< n.toNat)) := by
  unfold U32
  rw [binOp_shl, shift_shl (k := .u32) (h₀ := h0) (h₁ := h1)]
  congr 2
  rw [IntKind.wrap_u32', BitVec.toNat_shiftLeft, Nat.shiftLeft_eq]
  simp
@[go_sem] theorem u32_not : Op.unary .xor (U32 x) = pure (U32 (~~~ x)) := by
  unfold U32
  show Op.intBits .xor .u32 (if IntKind.u32.signed = true then -1 else IntKind.u32.max) _ = _
  rw [intBits_xor]
  congr 2
  have h : BitVec.ofInt 32 (if IntKind.u32.signed = true then -1 else IntKind.u32.max) = BitVec.allOnes 32 := by decide
  simp only [bits, IntKind.bits, ofInt_toNat, h, wrap_u32_nat, ofNat_toNat']
  show ((BitVec.allOnes 32 ^^^ x : BitVec 32).toNat : Int) = _
  rw [BitVec.allOnes_xor]
end

section
variable (t : TypeId) (x y : BitVec 8)
@[go_sem] theorem b8_xor : binOp .xor t (U8 x) (U8 y) = pure (U8 (x ^^^ y)) := by
  unfold U8
  rw [binOp_xor, intBits_xor]
  simp only [bits, IntKind.bits, ofInt_toNat, wrap_u8_nat, ofNat_toNat']
  rfl
variable {P : Program} (w : World) (src dst : TypeId)
@[go_sem] theorem conv_8_32 (hs : (P.underlying src).isSome = true) (hd : P.underlying dst = some (.int (P.intKind dst))) (hk : P.intKind dst = .u32) : (convert src dst (U8 x)).run P w = .ok (U32 (x.setWidth 32)) w := by
  unfold U8 U32
  rw [run_convert_int (hs := hs) (hd := hd), hk]
  congr 2
  rw [IntKind.wrap_u32', BitVec.toNat_setWidth]
  have := x.isLt; omega
end
section
variable {P : Program} (w : World) (src dst : TypeId)
@[go_sem] theorem conv_32_8 (x : BitVec 32) (hs : (P.underlying src).isSome = true) (hd : P.underlying dst = some (.int (P.intKind dst))) (hk : P.intKind dst = .u8) : (convert src dst (U32 x)).run P w = .ok (U8 (x.setWidth 8)) w := by
  unfold U8 U32
  rw [run_convert_int (hs := hs) (hd := hd), hk]
  congr 2
@[go_sem] theorem conv_64_8 (x : BitVec 64) (hs : (P.underlying src).isSome = true) (hd : P.underlying dst = some (.int (P.intKind dst))) (hk : P.intKind dst = .u8) : (convert src dst (U64 x)).run P w = .ok (U8 (x.setWidth 8)) w := by
  unfold U8 U64
  rw [run_convert_int (hs := hs) (hd := hd), hk]
  congr 2
theorem b64_shr (t : TypeId) (x : BitVec 64) (yk : IntKind) (n : Int) (h0 : 0 ≤ n) (h1 : n ≤ 64) : binOp .shr t (U64 x) (.int yk n) = pure (U64 (x >>> n.toNat)) := by
  unfold U64
  rw [binOp_shr, shift_shr (k := .u64) (h₀ := h0) (h₁ := h1)]
  congr 2
  rw [BitVec.toNat_ushiftRight, Nat.shiftRight_eq_div_pow]
  simp
end
section
variable (P : Program) (w : World) (a : Addr) (m : Mode)
@[go_sem] theorem run_store_U32 (x : BitVec 32) : (store a (U32 x) m).run P w = stored P w a (U32 x) m := run_store P w a _ m rfl
@[go_sem] theorem run_store_U8 (x : BitVec 8) : (store a (U8 x) m).run P w = stored P w a (U8 x) m := run_store P w a _ m rfl
@[go_sem] theorem run_store_U64 (x : BitVec 64) : (store a (U64 x) m).run P w = stored P w a (U64 x) m := run_store P w a _ m rfl
end
@[go_sem] theorem cells_U32 (x : BitVec 32) : (U32 x).cells = #[U32 x] := rfl
@[go_sem] theorem cells_U8 (x : BitVec 8) : (U8 x).cells = #[U8 x] := rfl
@[go_sem] theorem cells_U64 (x : BitVec 64) : (U64 x).cells = #[U64 x] := rfl
@[go_sem] theorem cellsm_U32.{u} (x : BitVec 32) (m : Value → Sort u) (h1 : ∀ cs, m (.agg cs)) (h2 : ∀ v, m v) : Value.cells.match_1 m (U32 x) h1 h2 = h2 (U32 x) := rfl
@[go_sem] theorem cellsm_U8.{u} (x : BitVec 8) (m : Value → Sort u) (h1 : ∀ cs, m (.agg cs)) (h2 : ∀ v, m v) : Value.cells.match_1 m (U8 x) h1 h2 = h2 (U8 x) := rfl
@[go_sem] theorem cellsm_U64.{u} (x : BitVec 64) (m : Value → Sort u) (h1 : ∀ cs, m (.agg cs)) (h2 : ∀ v, m v) : Value.cells.match_1 m (U64 x) h1 h2 = h2 (U64 x) := rfl
end Go.Proofs.Ytjhnkpohdlilpaa
