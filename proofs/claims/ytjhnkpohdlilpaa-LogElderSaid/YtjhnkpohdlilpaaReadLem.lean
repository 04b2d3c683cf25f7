/-
  Reading a region, plain; laws for the walk of log.read.
-/
import Derived.Test.YtjhnkpohdlilpaaSteps
import Derived.Maps.AppendAt
import Derived.Laws.BytesString
import Derived.Test.YtjhnkpohdlilpaaAppend
import Derived.Test.YtjhnkpohdlilpaaAppendOk
import Derived.Test.YtjhnkpohdlilpaaAppendLem
import Derived.Test.YtjhnkpohdlilpaaLogSmall
import Derived.Test.YtjhnkpohdlilpaaNewDisk
import Derived.Test.YtjhnkpohdlilpaaCrash
import Derived.Test.YtjhnkpohdlilpaaFlush
import Derived.Test.YtjhnkpohdlilpaaWrite
import Derived.Test.YtjhnkpohdlilpaaAppendPend
import Derived.Deep.AppendLies
import Derived.Great.BuildSlice
import Derived.Test.YtjhnkpohdlilpaaDiskLem
import Derived.Test.YtjhnkpohdlilpaaRead
import Derived.Test.YtjhnkpohdlilpaaOut
import Derived.Test.YtjhnkpohdlilpaaDiskSmall
import Derived.Test.YtjhnkpohdlilpaaDisk
import Derived.Test.YtjhnkpohdlilpaaAtom
import Derived.Test.YtjhnkpohdlilpaaDecode
import Derived.Test.YtjhnkpohdlilpaaEncode
import Derived.Test.YtjhnkpohdlilpaaTake
import Derived.Test.YtjhnkpohdlilpaaCopy
import Derived.Laws.CopyOwn
import Derived.Deep.OwnRows
import Derived.Deep.MidRow
import Derived.Test.YtjhnkpohdlilpaaPut
import Derived.Test.YtjhnkpohdlilpaaRows
import Derived.Test.YtjhnkpohdlilpaaWords
import Derived.Test.YtjhnkpohdlilpaaMem
import Derived.Test.YtjhnkpohdlilpaaTail
import Derived.Test.YtjhnkpohdlilpaaCrc
import Derived.Test.YtjhnkpohdlilpaaArr
import Derived.RangeFuncNested
import Derived.RangeFuncBound
import Derived.RangeFuncCalls
import Derived.RangeFuncLeaves
import Derived.Shelf.Abstract
import Derived.Shelf.RegionOpen
import Derived.WalkKit
import Derived.OwnWalkIn
import Derived.TacticsInMore
import Derived.LoopNIn
import Derived.LoopIn
import Derived.WalkSpells
import Derived.WalkLawsBesides
import Derived.Lib.Hide
import Derived.BigQuiet
import Derived.Outline
import Derived.Deep.DeepFit
namespace Go.Proofs.Ytjhnkpohdlilpaa
open Go.RowKit Go.Shelf
attribute [local go_sem] Oper.semAt_some
section
variable (t : TypeId) (x y : BitVec 32) (u : BitVec 8)
@[go_sem] theorem b32_neq : binOp .neq t (U32 x) (U32 y) = pure (.bool (x != y)) := by
  unfold U32
  rw [binOp_neq]
  congr 2
  rw [Bool.eq_iff_iff]
  simp only [bne_iff_ne, ne_eq]
  constructor
  · intro h e; exact h (by rw [e])
  · intro h e; exact h (BitVec.eq_of_toNat_eq (by omega))
@[go_sem] theorem b32_gtr : binOp .gtr t (U32 x) (U32 y) = pure (.bool (decide (y.toNat < x.toNat))) := by
  unfold U32
  rw [binOp_gtr]
  congr 2
  rw [Bool.eq_iff_iff]
  simp only [decide_eq_true_eq]
  omega
@[go_sem] theorem b32_lss : binOp .lss t (U32 x) (U32 y) = pure (.bool (decide (x.toNat < y.toNat))) := by
  unfold U32
  rw [binOp_lss]
  congr 2
  rw [Bool.eq_iff_iff]
  simp only [decide_eq_true_eq]
  omega
@[go_sem] theorem b8_gtr (c : Int) : binOp .gtr t (U8 u) (.int .u8 c) = pure (.bool (decide (c < u.toNat))) := by
  unfold U8
  rw [binOp_gtr]
theorem b8_and (v : BitVec 8) : binOp .and t (U8 u) (U8 v) = pure (U8 (u &&& v)) := by
  unfold U8
  rw [binOp_and, intBits_and]
  simp only [bits, IntKind.bits, ofInt_toNat, wrap_u8_nat, ofNat_toNat']
  rfl
@[go_sem] theorem b8_and1 : binOp .and t (U8 u) (.int .u8 1) = pure (U8 (u &&& 1)) := b8_and t u 1
@[go_sem] theorem b8_and2 : binOp .and t (U8 u) (.int .u8 2) = pure (U8 (u &&& 2)) := b8_and t u 2
@[go_sem] theorem b8_eql0 : binOp .eql t (U8 u) (.int .u8 0) = pure (.bool (u == 0)) := by
  unfold U8
  rw [binOp_eql]
  congr 2
  rw [Bool.eq_iff_iff]
  simp only [beq_iff_eq]
  constructor
  · intro h; exact BitVec.eq_of_toNat_eq (by simp; omega)
  · intro h; rw [h]; rfl
@[go_sem] theorem b8_neq0 : binOp .neq t (U8 u) (.int .u8 0) = pure (.bool (u != 0)) := by
  unfold U8
  rw [binOp_neq]
  congr 2
  rw [Bool.eq_iff_iff]
  simp only [bne_iff_ne, ne_eq]
  constructor
  · intro h e; exact h (by rw [e]; rfl)
  · intro h e; exact h (BitVec.eq_of_toNat_eq (by simp; omega))
end
@[go_sem] theorem eqGuard_U32n (t : TypeId) (a b : Operand) (x y : BitVec 32) : eqGuard .neq t a b (U32 x) (U32 y) = pure () := rfl
@[go_sem] theorem eqGuard_U32g (t : TypeId) (a b : Operand) (x y : BitVec 32) : eqGuard .gtr t a b (U32 x) (U32 y) = pure () := rfl
@[go_sem] theorem eqGuard_U32l (t : TypeId) (a b : Operand) (x y : BitVec 32) : eqGuard .lss t a b (U32 x) (U32 y) = pure () := rfl
@[go_sem] theorem eqGuard_U8g (t : TypeId) (a b : Operand) (x : BitVec 8) (z : Int) : eqGuard .gtr t a b (U8 x) (.int .u8 z) = pure () := rfl
@[go_sem] theorem eqGuard_U8e (t : TypeId) (a b : Operand) (x : BitVec 8) (z : Int) : eqGuard .eql t a b (U8 x) (.int .u8 z) = pure () := rfl
@[go_sem] theorem eqGuard_U8n (t : TypeId) (a b : Operand) (x : BitVec 8) (z : Int) : eqGuard .neq t a b (U8 x) (.int .u8 z) = pure () := rfl
@[go_sem] theorem eqGuard_U8a (t : TypeId) (a b : Operand) (x : BitVec 8) (z : Int) : eqGuard .and t a b (U8 x) (.int .u8 z) = pure () := rfl
/-- a text of bytes -/
def strOf (l : List (BitVec 8)) : ByteArray := ⟨(l.map UInt8.ofBitVec).toArray⟩
theorem strBytes_strOf (l : List (BitVec 8)) : strBytes (strOf l) = l := by
  unfold strBytes strOf
  simp only [List.map_map]
  exact (List.map_congr_left (g := id) (fun x _ => rfl)).trans (List.map_id l)
theorem strOf_strBytes (s : ByteArray) : strOf (strBytes s) = s := by
  unfold strBytes strOf
  simp only [List.map_map]
  have : s.data.toList.map (UInt8.ofBitVec ∘ UInt8.toBitVec) = s.data.toList := (List.map_congr_left (g := id) (fun x _ => rfl)).trans (List.map_id _)
  rw [this]
theorem strOf_size (l : List (BitVec 8)) : (strOf l).size = l.length := by
  unfold strOf
  show (l.map UInt8.ofBitVec).toArray.size = _
  simp
/-- 'string(part)' of an own row of bytes -/
theorem run_str_of {w : World} {base : Nat} {pv : Value} {l : List (BitVec 8)} (h : w.ownsRow base 5 1 pv l.length (l.map U8)) : (convert 56 9 pv).run Try.prog w = .ok (.string (strOf l)) w := by
  rcases h.2 with ⟨rfl, h0⟩ | ⟨g, cap, cur, rfl, _, _⟩
  · have : l = [] := List.eq_nil_of_length_eq_zero h0
    subst this
    exact run_convert_bytes_nil (P := Try.prog) w 56 5 Try.underlying56 Try.underlying5 0 0 9 Try.underlying9
  · have hc := h.cells (g := g) rfl
    have := run_convert_bytes_back (P := Try.prog) w 56 9 5 ⟨g, 0, none⟩ cap (l.map UInt8.ofBitVec) Try.underlying56 Try.underlying5 Try.underlying9 (fun j hj => by
      have hj' : j < l.length := by simpa using hj
      have h1 := hc j (U8 l[j]) (by rw [List.getElem?_map, List.getElem?_eq_getElem hj']; rfl)
      rw [h1]
      simp [U8])
    rw [List.length_map] at this
    exact this
/-- 'append(part, x...)' of bytes -/
theorem wpList_append_bytes {ops : Array Oper} {rest : List Oper} {o : Oper} {a : Act} {w : World} {Q : Exit → Act → World → Prop} (hgd : o.guard = none) (s x : Operand) (ho : o.op = .call { callee := .builtin .append, args := #[s, x], argTypes := #[56, 56] })
    (base : Nat) (v : Value) (l : List (BitVec 8)) (hs : a.eval s = v) (hown : w.ownsRow base 5 1 v l.length (l.map U8)) (ob off m c : Nat) (y : List (BitVec 8)) (hy : y.length = m) (hx : a.eval x = .slice (some ⟨ob, off, none⟩) m c)
    (hcell : ∀ j z, y[j]? = some z → w.cell? ⟨ob, off + j, none⟩ = some (U8 z)) (hn : l.length + y.length ≤ 1099511627776) (hbase : base ≤ w.heap.size)
    (next : ∀ v' w', w'.ownsRow base 5 1 v' (l ++ y).length ((l ++ y).map U8) → Ch (fun i => v.ownBlock = some i) w w' → (∀ i, v'.ownBlock = some i → v.ownBlock = some i ∨ w.heap.size = i) → wpList Try.prog ops Q rest (a.put o.dst v') w') : wpList Try.prog ops Q (o :: rest) a w := by
  obtain ⟨i0, hi, hz0, hz1, hz2⟩ := info_parts info5
  subst hy
  refine wpList_append_own_at _ hgd s x 56 ho base 5 i0 _ 1 1 Try.underlying56 hi hz0 hz1 hz2 rfl (by omega) v l.length (l.map U8) hs hown ⟨ob, off, none⟩ y.length c (y.map U8) hx (by simp) ?_ ?_ (by unfold maxLen; omega) (by omega) hbase ?_
  · intro j u hu
    rw [List.getElem?_map] at hu
    cases e : y[j]? with
    | none => rw [e] at hu; cases hu
    | some z => rw [e] at hu; cases hu; rw [addr_add]; exact hcell j z e
  · intro u hu
    obtain ⟨z, _, rfl⟩ := List.mem_map.1 hu
    rfl
  · intro v' w' h1 h2 _ h4
    refine next v' w' (by simpa using h1) ⟨h2.os, h2.tape, h2.output, h2.size, fun k hk hn => h2.block k hk (fun e => hn e.symm)⟩ ?_
    intro i hi'
    rcases h4 with h4 | h4
    · exact Or.inl (h4 ▸ hi')
    · exact Or.inr (Option.some.inj (h4.symm.trans hi'))
theorem info9 : (Try.prog.info? 9).map (fun i => (i.zero, i.size, i.bytes)) = some (some (.string ByteArray.empty), 1, 16) := by kernel_rfl
/-- 'append(list, x)' of a text -/
theorem wpList_append_str {ops : Array Oper} {rest : List Oper} {o : Oper} {a : Act} {w : World} {Q : Exit → Act → World → Prop} (hgd : o.guard = none) (s x : Operand) (ho : o.op = .call { callee := .builtin .append, args := #[s, x], argTypes := #[22, 22] })
    (base : Nat) (v : Value) (l : List ByteArray) (hs : a.eval s = v) (hown : w.ownsRow base 9 1 v l.length (l.map Value.string)) (A : Nat) (y : ByteArray) (hA : Blk w A 9 #[.string y]) (hx : a.eval x = .slice (some ⟨A, 0, none⟩) 1 1) (hn : l.length ≤ 1099511627776) (hbase : base ≤ w.heap.size)
    (next : ∀ v' w', w'.ownsRow base 9 1 v' (l ++ [y]).length ((l ++ [y]).map Value.string) → Ch (fun i => v.ownBlock = some i) w w' → (∀ i, v'.ownBlock = some i → v.ownBlock = some i ∨ w.heap.size = i) → wpList Try.prog ops Q rest (a.put o.dst v') w') : wpList Try.prog ops Q (o :: rest) a w := by
  obtain ⟨i0, hi, hz0, hz1, hz2⟩ := info_parts info9
  refine wpList_append_own_at _ hgd s x 22 ho base 9 i0 _ 1 16 Try.underlying22 hi hz0 hz1 hz2 rfl (by omega) v l.length (l.map Value.string) hs hown ⟨A, 0, none⟩ 1 1 [.string y] hx rfl ?_ ?_ (by unfold maxLen; omega) (by omega) hbase ?_
  · intro j u hu
    rw [addr_add, Nat.zero_add]
    exact hA.cell (by simpa using hu)
  · intro u hu
    rw [List.mem_singleton.1 hu]
    rfl
  · intro v' w' h1 h2 _ h4
    refine next v' w' (by simpa using h1) ⟨h2.os, h2.tape, h2.output, h2.size, fun k hk hn => h2.block k hk (fun e => hn e.symm)⟩ ?_
    intro i hi'
    rcases h4 with h4 | h4
    · exact Or.inl (h4 ▸ hi')
    · exact Or.inr (Option.some.inj (h4.symm.trans hi'))
/-- reading a region, plain -/
structure RS where
  recs : List (List (BitVec 8))
  part : List (BitVec 8)
  last : BitVec 32
  inside : Bool
  next : Nat
def secBytes (f : Sec) : List (BitVec 8) := bytesOf f 16 (min (f 15).toNat 48)
def sumOk (f : Sec) : Bool := get32 f 0 4 == crc (bytesOf f 4 60)
def badSec (f : Sec) (ep most : BitVec 32) (p : Nat) (st : RS) : Bool :=
  !sumOk f || (get32 f 4 4 != ep) || ((get32 f 12 2).toNat != p) || decide (most.toNat < (get32 f 8 4).toNat) || decide (3 < (f 14).toNat) || decide (48 < (f 15).toNat) ||
  (st.inside == (f 14 &&& 1 != 0)) || decide ((get32 f 8 4).toNat < st.last.toNat) || (st.inside && (get32 f 8 4 != st.last)) || ((f 14 &&& 2 == 0) && ((f 15).toNat != 48))
def RS.step (st : RS) (f : Sec) (p : Nat) : RS :=
  if f 14 &&& 2 != 0 then { recs := st.recs ++ [st.part ++ secBytes f], part := [], last := get32 f 8 4, inside := false, next := p + 1 } else { st with part := st.part ++ secBytes f, last := get32 f 8 4, inside := true }
def readLoop (now : Nat → Sec) (first : Nat) (ep most : BitVec 32) : Nat → Nat → RS → RS
  | _, 0, st => st
  | p, r + 1, st => if badSec (now (first + p)) ep most p st then st else readLoop now first ep most (p + 1) r (st.step (now (first + p)) p)
end Go.Proofs.Ytjhnkpohdlilpaa
