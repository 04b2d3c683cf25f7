/-
  What is written down is read again: plain.
-/
import Derived.Test.YtjhnkpohdlilpaaReadAll
import Derived.Test.YtjhnkpohdlilpaaReadLem
import Derived.Test.YtjhnkpohdlilpaaSteps
import Derived.Maps.AppendAt
import Derived.Laws.BytesString
import Derived.Test.YtjhnkpohdlilpaaAppend
import Derived.Test.YtjhnkpohdlilpaaAppendOk
import Derived.Test.YtjhnkpohdlilpaaAppendLem
import Derived.Test.YtjhnkpohdlilpaaLogSmall
import Derived.Test.YtjhnkpohdlilpaaNewDisk
import Derived.Test.YtjhnkpohdlilpaaCrash
import Derived.Test.YtjhnkpohdlilpaaFlush
import Derived.Test.YtjhnkpohdlilpaaWrite
import Derived.Test.YtjhnkpohdlilpaaAppendPend
import Derived.Deep.AppendLies
import Derived.Great.BuildSlice
import Derived.Test.YtjhnkpohdlilpaaDiskLem
import Derived.Test.YtjhnkpohdlilpaaRead
import Derived.Test.YtjhnkpohdlilpaaOut
import Derived.Test.YtjhnkpohdlilpaaDiskSmall
import Derived.Test.YtjhnkpohdlilpaaDisk
import Derived.Test.YtjhnkpohdlilpaaAtom
import Derived.Test.YtjhnkpohdlilpaaDecode
import Derived.Test.YtjhnkpohdlilpaaEncode
import Derived.Test.YtjhnkpohdlilpaaTake
import Derived.Test.YtjhnkpohdlilpaaCopy
import Derived.Laws.CopyOwn
import Derived.Deep.OwnRows
import Derived.Deep.MidRow
import Derived.Test.YtjhnkpohdlilpaaPut
import Derived.Test.YtjhnkpohdlilpaaRows
import Derived.Test.YtjhnkpohdlilpaaWords
import Derived.Test.YtjhnkpohdlilpaaMem
import Derived.Test.YtjhnkpohdlilpaaTail
import Derived.Test.YtjhnkpohdlilpaaCrc
import Derived.Test.YtjhnkpohdlilpaaArr
import Derived.RangeFuncNested
import Derived.RangeFuncBound
import Derived.RangeFuncCalls
import Derived.RangeFuncLeaves
import Derived.Shelf.Abstract
import Derived.Shelf.RegionOpen
import Derived.WalkKit
import Derived.OwnWalkIn
import Derived.TacticsInMore
import Derived.LoopNIn
import Derived.LoopIn
import Derived.WalkSpells
import Derived.WalkLawsBesides
import Derived.Lib.Hide
import Derived.BigQuiet
import Derived.Outline
import Derived.Deep.DeepFit
namespace Go.Proofs.Ytjhnkpohdlilpaa
open Go.RowKit Go.Shelf
attribute [local go_sem] Oper.semAt_some
theorem norm_at (s : Sec) (j : Nat) (hj : j < 64) : secOf (bytesOf s 0 64) j = s j := by
  unfold secOf over
  rw [bytesOf_length, if_pos (by omega)]
  simp [bytesOf, hj]
theorem get32_congr {f g : Sec} {at_ : Nat} : ∀ (k : Nat), (∀ i, i < k → f (at_ + i) = g (at_ + i)) → get32 f at_ k = get32 g at_ k
  | 0, _ => rfl
  | k + 1, h => by rw [get32, get32, get32_congr k (fun i hi => h i (by omega)), h k (by omega)]
theorem bytesOf_congr {f g : Sec} {o n : Nat} (h : ∀ i, i < n → f (o + i) = g (o + i)) : bytesOf f o n = bytesOf g o n := by
  unfold bytesOf
  exact List.map_congr_left (fun i hi => h i (List.mem_range.1 hi))
theorem get32_of (f : Sec) (at_ : Nat) (x : BitVec 32) (h : ∀ k, k < 4 → f (at_ + k) = (x >>> (8 * k)).setWidth 8) : get32 f at_ 4 = x := by
  simp only [get32]
  rw [h 0 (by omega), h 1 (by omega), h 2 (by omega), h 3 (by omega)]
  apply BitVec.eq_of_getLsbD_eq
  intro i hi
  simp only [BitVec.getLsbD_or, BitVec.getLsbD_shiftLeft, BitVec.getLsbD_setWidth, BitVec.getLsbD_ushiftRight]
  by_cases h1 : i < 8
  · simp [h1, hi, show i < 16 by omega, show i < 24 by omega]
  · by_cases h2 : i < 16
    · simp [h1, h2, hi, show i < 24 by omega, show i - 8 < 32 by omega, show i - 8 < 8 by omega, show 8 + (i - 8) = i by omega]
    · by_cases h3 : i < 24
      · simp [h1, h2, h3, hi, show ¬ (i - 8 < 8) by omega, show i - 16 < 32 by omega, show i - 16 < 8 by omega, show 16 + (i - 16) = i by omega]
      · simp [h1, h2, h3, hi, show ¬ (i - 8 < 8) by omega, show ¬ (i - 16 < 8) by omega, show i - 24 < 32 by omega, show i - 24 < 8 by omega, show 24 + (i - 24) = i by omega]
theorem get32_of2 (f : Sec) (at_ : Nat) (x : BitVec 32) (h : ∀ k, k < 2 → f (at_ + k) = (x >>> (8 * k)).setWidth 8) : (get32 f at_ 2).toNat = x.toNat % 65536 := by
  have e : get32 f at_ 2 = (x.setWidth 16).setWidth 32 := by
    simp only [get32]
    rw [h 0 (by omega), h 1 (by omega)]
    apply BitVec.eq_of_getLsbD_eq
    intro i hi
    simp only [BitVec.getLsbD_or, BitVec.getLsbD_shiftLeft, BitVec.getLsbD_setWidth, BitVec.getLsbD_ushiftRight]
    by_cases h1 : i < 8
    · simp [h1, hi, show i < 16 by omega]
    · by_cases h2 : i < 16
      · simp [h1, h2, hi, show i - 8 < 32 by omega, show i - 8 < 8 by omega, show 8 + (i - 8) = i by omega]
      · simp [h1, h2, hi, show ¬ (i - 8 < 8) by omega]
  rw [e, BitVec.toNat_setWidth, BitVec.toNat_setWidth]
  have := Nat.mod_lt x.toNat (show 0 < 2 ^ 16 by decide)
  rw [Nat.mod_eq_of_lt (by omega)]
/-- what a sector that was written down says -/
structure Says (s : Sec) (e l : BitVec 32) (p : Nat) (fl : BitVec 8) (bs : List (BitVec 8)) : Prop where
  ok : sumOk s = true
  ep : get32 s 4 4 = e
  life : get32 s 8 4 = l
  place : (get32 s 12 2).toNat = p
  flags : s 14 = fl
  len : (s 15).toNat = bs.length
  bytes : secBytes s = bs
theorem Says.congr {s t : Sec} {e l : BitVec 32} {p : Nat} {fl : BitVec 8} {bs : List (BitVec 8)} (h : Says s e l p fl bs) (hst : ∀ j, j < 64 → t j = s j) : Says t e l p fl bs := by
  refine ⟨?_, ?_, ?_, ?_, ?_, ?_, ?_⟩
  · rw [← h.ok]; unfold sumOk; rw [get32_congr 4 (fun i hi => hst _ (by omega)), bytesOf_congr (fun i hi => hst _ (by omega))]
  · rw [← h.ep]; exact get32_congr 4 (fun i hi => hst _ (by omega))
  · rw [← h.life]; exact get32_congr 4 (fun i hi => hst _ (by omega))
  · rw [← h.place]; rw [get32_congr 2 (fun i hi => hst _ (by omega))]
  · rw [← h.flags]; exact hst 14 (by omega)
  · rw [← h.len]; rw [hst 15 (by omega)]
  · rw [← h.bytes]; unfold secBytes; rw [hst 15 (by omega)]; exact bytesOf_congr (fun i hi => hst _ (by omega))
theorem says_enc (e l : BitVec 32) (p : Nat) (fl : BitVec 8) (bs : List (BitVec 8)) (hl : bs.length ≤ 48) (hp : p < 65536) : Says (encF e l p fl bs) e l p fl bs := by
  have hb : ∀ j, 4 ≤ j → encF e l p fl bs j = encBody e l p fl bs j := fun j hj => by
    unfold encF
    rw [put32, if_neg (by omega)]
  have hlow : ∀ j, j < 16 → encBody e l p fl bs j = if j = 15 then BitVec.ofNat 8 bs.length else if j = 14 then fl else put32 (put32 (put32 (fun _ => 0) 4 e 4) 8 l 4) 12 (BitVec.ofNat 32 p) 2 j := fun j hj => by
    unfold encBody over
    rw [if_neg (by omega)]
  refine ⟨?_, ?_, ?_, ?_, ?_, ?_, ?_⟩
  · unfold sumOk
    rw [get32_of _ 0 (crc ((List.range 60).map fun i => encBody e l p fl bs (4 + i))) (fun k hk => by
      unfold encF
      rw [put32, if_pos (by omega)]
      simp), bytesOf_congr (g := encBody e l p fl bs) (fun i hi => hb _ (by omega))]
    unfold bytesOf
    simp
  · exact get32_of _ 4 e (fun k hk => by
      rw [hb _ (by omega), hlow _ (by omega), if_neg (by omega), if_neg (by omega), put32, if_neg (by omega), put32, if_neg (by omega), put32, if_pos (by omega)]
      simp)
  · exact get32_of _ 8 l (fun k hk => by
      rw [hb _ (by omega), hlow _ (by omega), if_neg (by omega), if_neg (by omega), put32, if_neg (by omega), put32, if_pos (by omega)]
      simp)
  · rw [get32_of2 _ 12 (BitVec.ofNat 32 p) (fun k hk => by
      rw [hb _ (by omega), hlow _ (by omega), if_neg (by omega), if_neg (by omega), put32, if_pos (by omega)]
      simp), BitVec.toNat_ofNat]
    omega
  · rw [hb _ (by omega), hlow _ (by omega)]
    simp
  · rw [hb _ (by omega), hlow _ (by omega), if_pos rfl, BitVec.toNat_ofNat]
    omega
  · have h15 : (encF e l p fl bs 15).toNat = bs.length := by
      rw [hb _ (by omega), hlow _ (by omega), if_pos rfl, BitVec.toNat_ofNat]
      omega
    unfold secBytes
    rw [h15, Nat.min_eq_left hl]
    apply List.ext_getElem?
    intro i
    by_cases hi : i < bs.length
    · unfold bytesOf
      rw [List.getElem?_map, List.getElem?_range hi, Option.map_some, hb _ (by omega)]
      unfold encBody over
      rw [if_pos (by omega)]
      simp [List.getElem?_eq_getElem hi]
    · rw [List.getElem?_eq_none (by rw [bytesOf_length]; omega), List.getElem?_eq_none (by omega)]
theorem says_sec (e l : BitVec 32) (p : Nat) (fl : BitVec 8) (bs : List (BitVec 8)) (hl : bs.length ≤ 48) (hp : p < 65536) : Says (secOf (bytesOf (encF e l p fl bs) 0 64)) e l p fl bs :=
  (says_enc e l p fl bs hl hp).congr (fun j hj => norm_at _ j hj)
theorem flag_beg (i n : Nat) : (flagOf i n &&& 1 != 0) = decide (i = 0) := by
  unfold flagOf
  by_cases h : i = 0
  · rw [if_pos h, decide_eq_true h]; split <;> decide
  · rw [if_neg h, decide_eq_false h]; split <;> decide
theorem flag_end (i n : Nat) : (flagOf i n &&& 2 != 0) = decide (i + 1 = n) := by
  unfold flagOf
  by_cases h2 : i + 1 = n
  · rw [if_pos h2, if_pos h2, decide_eq_true h2]; split <;> decide
  · rw [if_neg h2, if_neg h2, decide_eq_false h2]; split <;> decide
theorem flag_le (i n : Nat) : (flagOf i n).toNat ≤ 3 := by
  unfold flagOf
  split <;> split <;> decide
theorem secs_pos' (n : Nat) : 1 ≤ secs n := by unfold secs; split <;> omega
theorem bne_beq_flag (x : BitVec 8) : (x == 0) = !(x != 0) := by simp [bne]
/-- sector number i of a record at place p -/
def newSec (ep l : BitVec 32) (bs : List (BitVec 8)) (i p : Nat) : Sec := secOf (bytesOf (encF ep l p (flagOf i (secs bs.length)) (chunk bs i)) 0 64)
theorem newSec_says (ep l : BitVec 32) (bs : List (BitVec 8)) (i p : Nat) (hp : p < 65536) : Says (newSec ep l bs i p) ep l p (flagOf i (secs bs.length)) (chunk bs i) := says_sec ep l p _ _ (chunk_le _ _) hp
/-- a sector that says what is wanted is not bad -/
theorem badSec_says {f : Sec} {ep l most : BitVec 32} {p : Nat} {i n : Nat} {bs : List (BitVec 8)} {st : RS} (h : Says f ep l p (flagOf i n) bs) (hb : bs.length ≤ 48) (h1 : l.toNat ≤ most.toNat) (h2 : st.inside = !decide (i = 0)) (h3 : st.last.toNat ≤ l.toNat) (h4 : st.inside = true → l = st.last) (h5 : i + 1 = n ∨ bs.length = 48) :
    badSec f ep most p st = false := by
  unfold badSec
  rw [h.ok, h.ep, h.life, h.place, h.flags, h.len, flag_beg, bne_beq_flag, flag_end, h2]
  have e1 : decide (most.toNat < l.toNat) = false := by simp; omega
  have e2 : decide (3 < (flagOf i n).toNat) = false := by have := flag_le i n; simp; omega
  have e3 : decide (48 < bs.length) = false := by simp; omega
  have e4 : decide (l.toNat < st.last.toNat) = false := by simp; omega
  have e5 : ((!decide (i = 0)) && (l != st.last)) = false := by
    by_cases h0 : i = 0
    · simp [h0]
    · have : l = st.last := h4 (by rw [h2]; simp [h0])
      simp [this]
  have e6 : ((!decide (i + 1 = n)) && (bs.length != 48)) = false := by
    rcases h5 with h5 | h5 <;> simp [h5]
  rw [e1, e2, e3, e4, e5, e6]
  cases decide (i = 0) <;> simp
theorem take_chunk (bs : List (BitVec 8)) (t : Nat) : bs.take (48 * t) ++ chunk bs t = bs.take (48 * (t + 1)) := by
  unfold chunk
  rw [show 48 * (t + 1) = 48 * t + 48 by omega, List.take_add]
theorem chunk_full {bs : List (BitVec 8)} {t : Nat} (h : t + 1 < secs bs.length) : (chunk bs t).length = 48 := by
  have := secs_lt' h
  unfold chunk
  rw [List.length_take, List.length_drop]
  omega
section
variable {now : Nat → Sec} {first : Nat} {ep most l : BitVec 32}
/-- a record's first sectors are read -/
theorem read_part {bs : List (BitVec 8)} {p : Nat} (hm : l.toNat ≤ most.toNat) (st : RS) (h1 : st.part = []) (h2 : st.inside = false) (h3 : st.last.toNat ≤ l.toNat) :
    ∀ (t r : Nat), t < secs bs.length → p + t ≤ 65535 → (∀ i, i < t → now (first + (p + i)) = newSec ep l bs i (p + i)) →
      readLoop now first ep most p (t + r) st = readLoop now first ep most (p + t) r { recs := st.recs, part := bs.take (48 * t), last := if t = 0 then st.last else l, inside := !decide (t = 0), next := st.next } := by
  intro t
  induction t with
  | zero =>
    intro r _ _ _
    obtain ⟨recs, part, last, inside, next⟩ := st
    simp only at h1 h2
    subst h1; subst h2
    simp
  | succ t ih =>
    intro r ht hp hn
    rw [show t + 1 + r = t + (r + 1) by omega, ih (r + 1) (by omega) (by omega) (fun i hi => hn i (by omega)), readLoop]
    have hs := newSec_says ep l bs t (p + t) (by omega)
    have hnow := hn t (by omega)
    rw [hnow]
    rw [if_neg (by
      rw [badSec_says hs (chunk_le _ _) hm rfl (by show (if t = 0 then st.last else l).toNat ≤ l.toNat; split <;> omega) (by
        intro h9
        have h9' : (!decide (t = 0)) = true := h9
        have : t ≠ 0 := by simpa using h9'
        show l = if t = 0 then st.last else l
        rw [if_neg this]) (Or.inr (chunk_full ht))]
      simp)]
    have hend : (newSec ep l bs t (p + t) 14 &&& 2 != 0) = false := by rw [hs.flags, flag_end]; simp; omega
    unfold RS.step
    rw [if_neg (by rw [hend]; simp), hs.life, hs.bytes]
    simp only [take_chunk]
    rw [show p + t + 1 = p + (t + 1) by omega]
    simp
/-- a record is read -/
theorem read_rec {bs : List (BitVec 8)} {p : Nat} (hm : l.toNat ≤ most.toNat) (st : RS) (h1 : st.part = []) (h2 : st.inside = false) (h3 : st.last.toNat ≤ l.toNat) (r : Nat) (hp : p + secs bs.length ≤ 65536)
    (hn : ∀ i, i < secs bs.length → now (first + (p + i)) = newSec ep l bs i (p + i)) :
    readLoop now first ep most p (secs bs.length + r) st = readLoop now first ep most (p + secs bs.length) r { recs := st.recs ++ [bs], part := [], last := l, inside := false, next := p + secs bs.length } := by
  have hpos := secs_pos' bs.length
  obtain ⟨n, hN⟩ : ∃ n, secs bs.length = n + 1 := ⟨secs bs.length - 1, by omega⟩
  rw [show secs bs.length + r = n + (r + 1) by omega, read_part hm st h1 h2 h3 n (r + 1) (by omega) (by omega) (fun i hi => hn i (by omega)), readLoop]
  have hs := newSec_says ep l bs n (p + n) (by omega)
  rw [hn n (by omega)]
  rw [if_neg (by
    rw [badSec_says hs (chunk_le _ _) hm rfl (by show (if n = 0 then st.last else l).toNat ≤ l.toNat; split <;> omega) (by
      intro h9
      have h9' : (!decide (n = 0)) = true := h9
      have : n ≠ 0 := by simpa using h9'
      show l = if n = 0 then st.last else l
      rw [if_neg this]) (Or.inl hN.symm)]
    simp)]
  have hend : (newSec ep l bs n (p + n) 14 &&& 2 != 0) = true := by rw [hs.flags, flag_end]; simp; omega
  unfold RS.step
  rw [if_pos hend, hs.life, hs.bytes]
  simp only [take_chunk]
  have hall : bs.take (48 * (n + 1)) = bs := List.take_of_length_le (secs_last (show n + 1 = secs bs.length from hN.symm))
  rw [hall, hN, show p + n + 1 = p + (n + 1) by omega]
end
theorem badSec_sum' {f : Sec} {ep most : BitVec 32} {p : Nat} {st : RS} (h : sumOk f = false) : badSec f ep most p st = true := by
  unfold badSec
  rw [h]
  simp
theorem badSec_most {f : Sec} {ep most most' : BitVec 32} {p : Nat} {st : RS} (hm : most.toNat ≤ most'.toNat) (h : badSec f ep most p st = false) : badSec f ep most' p st = false := by
  unfold badSec at h ⊢
  simp only [Bool.or_eq_false_iff] at h ⊢
  obtain ⟨⟨⟨⟨⟨⟨⟨⟨⟨h1, h2⟩, h3⟩, h4⟩, h5⟩, h6⟩, h7⟩, h8⟩, h9⟩, h10⟩ := h
  exact ⟨⟨⟨⟨⟨⟨⟨⟨⟨h1, h2⟩, h3⟩, by simp at h4 ⊢; omega⟩, h5⟩, h6⟩, h7⟩, h8⟩, h9⟩, h10⟩
theorem badSec_low {f : Sec} {ep most most' : BitVec 32} {p : Nat} {st : RS} (hlow : sumOk f = true → (get32 f 8 4).toNat ≤ most.toNat) (hm : most.toNat ≤ most'.toNat) : badSec f ep most' p st = badSec f ep most p st := by
  cases hs : sumOk f
  · rw [badSec_sum' hs, badSec_sum' hs]
  · have h := hlow hs
    unfold badSec
    have e1 : decide (most'.toNat < (get32 f 8 4).toNat) = false := by simp; omega
    have e2 : decide (most.toNat < (get32 f 8 4).toNat) = false := by simp; omega
    rw [e1, e2]
theorem badSec_life {f : Sec} {ep most : BitVec 32} {p : Nat} {st : RS} (h : badSec f ep most p st = false) : (get32 f 8 4).toNat ≤ most.toNat := by
  unfold badSec at h
  simp only [Bool.or_eq_false_iff] at h
  have := h.1.1.1.1.1.1.2
  simpa using this
section
variable {first : Nat} {ep : BitVec 32}
theorem read_grows (now : Nat → Sec) (most : BitVec 32) : ∀ (r p : Nat) (st : RS), ∃ ext, (readLoop now first ep most p r st).recs = st.recs ++ ext
  | 0, _, st => ⟨[], by simp [readLoop]⟩
  | r + 1, p, st => by
    rw [readLoop]
    split
    · exact ⟨[], by simp⟩
    · obtain ⟨ext, he⟩ := read_grows now most r (p + 1) (st.step (now (first + p)) p)
      unfold RS.step at he ⊢
      split at he
      · rename_i h; rw [if_pos h]; exact ⟨(st.part ++ secBytes (now (first + p))) :: ext, by rw [he]; simp⟩
      · rename_i h; rw [if_neg h]; exact ⟨ext, he⟩
/-- where the last whole record ends -/
theorem read_cut (now : Nat → Sec) (most : BitVec 32) : ∀ (r p : Nat) (st : RS), ((readLoop now first ep most p r st).recs = st.recs ∧ (readLoop now first ep most p r st).next = st.next) ∨
    ∃ (t : Nat) (la : BitVec 32), 1 ≤ t ∧ t ≤ r ∧ la.toNat ≤ most.toNat ∧ (readLoop now first ep most p r st).next = p + t ∧
      ∀ (now' : Nat → Sec) (most' : BitVec 32) (r' : Nat), (∀ i, i < t → now' (first + (p + i)) = now (first + (p + i))) → most.toNat ≤ most'.toNat →
        readLoop now' first ep most' p (t + r') st = readLoop now' first ep most' (p + t) r' { recs := (readLoop now first ep most p r st).recs, part := [], last := la, inside := false, next := p + t }
  | 0, _, st => Or.inl ⟨by simp [readLoop], by simp [readLoop]⟩
  | r + 1, p, st => by
    rw [readLoop]
    by_cases hb : badSec (now (first + p)) ep most p st = true
    · rw [if_pos hb]; exact Or.inl ⟨rfl, rfl⟩
    · have hb' : badSec (now (first + p)) ep most p st = false := by simpa using hb
      rw [if_neg hb]
      have hstep : ∀ (now' : Nat → Sec) (most' : BitVec 32) (r' : Nat), now' (first + p) = now (first + p) → most.toNat ≤ most'.toNat → readLoop now' first ep most' p (r' + 1) st = readLoop now' first ep most' (p + 1) r' (st.step (now (first + p)) p) := fun now' most' r' hn hm => by
        rw [readLoop, hn, if_neg (by rw [badSec_most hm hb']; simp)]
      rcases read_cut now most r (p + 1) (st.step (now (first + p)) p) with ⟨h1, h2⟩ | ⟨t, la, ht1, ht2, hla, hnx, hall⟩
      · by_cases he : (now (first + p) 14 &&& 2 != 0) = true
        · refine Or.inr ⟨1, get32 (now (first + p)) 8 4, by omega, by omega, badSec_life hb', ?_, ?_⟩
          · rw [h2]; unfold RS.step; rw [if_pos he]
          · intro now' most' r' hn hm
            rw [show 1 + r' = r' + 1 by omega, hstep now' most' r' (hn 0 (by omega)) hm, h1]
            unfold RS.step
            rw [if_pos he]
        · refine Or.inl ⟨?_, ?_⟩
          · rw [h1]; unfold RS.step; rw [if_neg he]
          · rw [h2]; unfold RS.step; rw [if_neg he]
      · refine Or.inr ⟨t + 1, la, by omega, by omega, hla, by rw [hnx]; omega, ?_⟩
        intro now' most' r' hn hm
        rw [show t + 1 + r' = (t + r') + 1 by omega, hstep now' most' (t + r') (hn 0 (by omega)) hm, hall now' most' r' (fun i hi => by
          have := hn (i + 1) (by omega)
          rw [show p + 1 + i = p + (i + 1) by omega]; exact this) hm, show p + 1 + t = p + (t + 1) by omega]
def st0 : RS := { recs := [], part := [], last := 0, inside := false, next := 1 }
/-- what an opening has found: the records up to place q, and none behind -/
structure Opened (s0 : Nat → Sec) (first c : Nat) (ep most0 : BitVec 32) (T : List (List (BitVec 8))) (q : Nat) (la : BitVec 32) : Prop where
  q1 : 1 ≤ q
  qc : q ≤ c
  la_le : la.toNat ≤ most0.toNat
  low : ∀ p, 1 ≤ p → p < c → sumOk (s0 (first + p)) = true → (get32 (s0 (first + p)) 8 4).toNat ≤ most0.toNat
  reach : ∀ (now' : Nat → Sec) (most' : BitVec 32), (∀ p, 1 ≤ p → p < q → now' (first + p) = s0 (first + p)) → most0.toNat ≤ most'.toNat →
    readLoop now' first ep most' 1 (c - 1) st0 = readLoop now' first ep most' q (c - q) { recs := T, part := [], last := la, inside := false, next := q }
  none : (readLoop s0 first ep most0 q (c - q) { recs := T, part := [], last := la, inside := false, next := q }).recs = T
theorem opened_of_read (s0 : Nat → Sec) (c : Nat) (hc : 1 ≤ c) (most0 : BitVec 32) (low : ∀ p, 1 ≤ p → p < c → sumOk (s0 (first + p)) = true → (get32 (s0 (first + p)) 8 4).toNat ≤ most0.toNat) :
    ∃ la, Opened s0 first c ep most0 (readLoop s0 first ep most0 1 (c - 1) st0).recs (readLoop s0 first ep most0 1 (c - 1) st0).next la := by
  rcases read_cut (first := first) (ep := ep) s0 most0 (c - 1) 1 st0 with ⟨h1, h2⟩ | ⟨t, la, ht1, ht2, hla, hnx, hall⟩
  · refine ⟨0, by rw [h2]; exact Nat.le_refl _, by rw [h2]; exact hc, by simp, low, ?_, ?_⟩
    · intro now' most' _ _
      rw [h1, h2]; rfl
    · rw [h1, h2]
      exact h1
  · have hr : ∀ (now' : Nat → Sec) (most' : BitVec 32), (∀ p, 1 ≤ p → p < 1 + t → now' (first + p) = s0 (first + p)) → most0.toNat ≤ most'.toNat →
        readLoop now' first ep most' 1 (c - 1) st0 = readLoop now' first ep most' (1 + t) (c - (1 + t)) { recs := (readLoop s0 first ep most0 1 (c - 1) st0).recs, part := [], last := la, inside := false, next := 1 + t } := fun now' most' hn hm => by
      have := hall now' most' (c - (1 + t)) (fun i hi => hn (1 + i) (by omega) (by omega)) hm
      rw [show t + (c - (1 + t)) = c - 1 by omega] at this
      exact this
    refine ⟨la, by rw [hnx]; omega, by rw [hnx]; omega, hla, low, ?_, ?_⟩
    · rw [hnx]; exact hr
    · rw [hnx]
      exact congrArg RS.recs (hr s0 most0 (fun _ _ _ => rfl) (Nat.le_refl _)).symm
/-- behind a record that was cut off nothing is told -/
theorem stale_no {s0 now' : Nat → Sec} {most0 most' l : BitVec 32} (hl : most0.toNat < l.toNat) (hm : most0.toNat ≤ most'.toNat) : ∀ (r p : Nat) (st : RS), (∀ i, i < r → sumOk (s0 (first + (p + i))) = true → (get32 (s0 (first + (p + i))) 8 4).toNat ≤ most0.toNat) →
    (∀ i, i < r → now' (first + (p + i)) = s0 (first + (p + i)) ∨ (sumOk (now' (first + (p + i))) = true → get32 (now' (first + (p + i))) 8 4 = l)) →
    st.inside = true → st.last.toNat ≤ most0.toNat → (readLoop s0 first ep most0 p r st).recs = st.recs → (readLoop now' first ep most' p r st).recs = st.recs
  | 0, _, st, _, _, _, _, _ => by simp [readLoop]
  | r + 1, p, st, hlow, hmix, hin, hla, hno => by
    rw [readLoop] at hno ⊢
    rcases hmix 0 (by omega) with h0 | h0
    · rw [Nat.add_zero] at h0
      have hl0 := hlow 0 (by omega)
      rw [Nat.add_zero] at hl0
      rw [h0, badSec_low hl0 hm]
      by_cases hb : badSec (s0 (first + p)) ep most0 p st = true
      · rw [if_pos hb]
      · have hb' : badSec (s0 (first + p)) ep most0 p st = false := by simpa using hb
        rw [if_neg hb] at hno ⊢
        by_cases he : (s0 (first + p) 14 &&& 2 != 0) = true
        · exfalso
          obtain ⟨ext, hext⟩ := read_grows (first := first) (ep := ep) s0 most0 r (p + 1) (st.step (s0 (first + p)) p)
          rw [hno] at hext
          unfold RS.step at hext
          rw [if_pos he] at hext
          have := congrArg List.length hext
          simp at this
        · have hs : st.step (s0 (first + p)) p = { st with part := st.part ++ secBytes (s0 (first + p)), last := get32 (s0 (first + p)) 8 4, inside := true } := by unfold RS.step; rw [if_neg he]
          rw [hs] at hno ⊢
          exact stale_no hl hm r (p + 1) _ (fun i hi => by rw [show p + 1 + i = p + (i + 1) by omega]; exact hlow (i + 1) (by omega)) (fun i hi => by rw [show p + 1 + i = p + (i + 1) by omega]; exact hmix (i + 1) (by omega)) rfl (badSec_life hb') hno
    · rw [Nat.add_zero] at h0
      have hb : badSec (now' (first + p)) ep most' p st = true := by
        cases hs : sumOk (now' (first + p))
        · exact badSec_sum' hs
        · have := h0 hs
          refine badSec_8 ?_
          rw [hin, this]
          simp only [Bool.true_and, bne_iff_ne, ne_eq]
          intro e
          rw [e] at hl
          omega
      rw [if_pos hb]
end
end Go.Proofs.Ytjhnkpohdlilpaa
