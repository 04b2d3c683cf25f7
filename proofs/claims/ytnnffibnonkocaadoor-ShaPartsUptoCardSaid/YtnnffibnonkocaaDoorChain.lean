/-
  A digest, block by block, in plain Lean; and a way to reckon it.
-/
import Derived.Test.YtnnffibnonkocaaDoorDigest
namespace Go.Proofs.YtnnffibnonkocaaDoor
open Go.RowKit
/-- block m of some bytes -/
def blockOf (L : List (BitVec 8)) (m : Nat) : Nat → BitVec 8 := fun j => L.getD (64 * m + j) 0
/-- what m blocks come to -/
def chain (L : List (BitVec 8)) : Nat → S8
  | 0 => h0s
  | m + 1 => compress (chain L m) (blockOf L m)

theorem write_chain (L : List (BitVec 8)) (m : Nat) (h : 64 * m ≤ L.length) : (HS.begin.write (L.take (64 * m))).h = chain L m ∧ (HS.begin.write (L.take (64 * m))).n = 64 * m := by
  induction m with
  | zero => exact ⟨rfl, rfl⟩
  | succ m ih =>
    obtain ⟨ih1, ih2⟩ := ih (by omega)
    have e : L.take (64 * (m + 1)) = L.take (64 * m) ++ (L.drop (64 * m)).take 64 := by
      rw [show 64 * (m + 1) = 64 * m + 64 by omega, List.take_add]
    have hl : ((L.drop (64 * m)).take 64).length = 64 := by simp; omega
    rw [e, HS.write_append]
    generalize HS.begin.write (L.take (64 * m)) = s at *
    have h0 : s.n % 64 = 0 := by omega
    rw [HS.write_part s _ (by rw [hl, h0]; omega) (by intro e; rw [e] at hl; simp at hl)]
    simp only [hl, ih2]
    refine ⟨?_, by omega⟩
    rw [if_pos (by omega), ih1, chain]
    refine compress_congr (fun i hi => ?_) _
    unfold over blockOf
    rw [show 64 * m % 64 = 0 by omega, hl, if_pos (by omega)]
    simp only [List.getD, Nat.sub_zero]
    rw [List.getElem?_take_of_lt hi, List.getElem?_drop]

/-- bytes with what goes behind them -/
def padded (l : List (BitVec 8)) : List (BitVec 8) := l ++ padding l.length
def nblocks (n : Nat) : Nat := (n + zpad n + 9) / 64
theorem padded_length (l : List (BitVec 8)) : (padded l).length = 64 * nblocks l.length := by
  unfold padded padding lenBytes nblocks zpad
  simp only [List.length_append, List.length_cons, List.length_replicate, List.length_map, List.length_range]
  omega
theorem sha_chain (l : List (BitVec 8)) : sha l = digByte (chain (padded l) (nblocks l.length)) := by
  have h := write_chain (padded l) (nblocks l.length) (by rw [padded_length]; omega)
  rw [← padded_length, List.take_length] at h
  unfold sha HS.digest HS.fin
  rw [HS.write_n, ← HS.write_append]
  show digByte (HS.begin.write (l ++ padding (0 + l.length))).h = _
  rw [Nat.zero_add]
  show digByte (HS.begin.write (padded l)).h = _
  rw [h.1]

/-! ### the same, each number reckoned as it comes -/
/-- a word, reckoned before it is handed on -/
def fb {α : Type} {n : Nat} (x : BitVec n) (k : BitVec n → α) : α := match x.toNat with
  | 0 => k 0
  | m + 1 => k (BitVec.ofNat n (m + 1))
theorem fb_eq {α : Type} {n : Nat} (x : BitVec n) (k : BitVec n → α) : fb x k = k x := by
  unfold fb
  split
  · rename_i h; congr 1; exact BitVec.eq_of_toNat_eq (by rw [h]; simp)
  · rename_i m h; rw [show m + 1 = x.toNat from h.symm, ofNat_toNat']

/-- the schedule from its last words backwards -/
def schedF : Nat → List (BitVec 32) → List (BitVec 32)
  | 0, l => l
  | n + 1, l => fb (l.getD 15 0 + l.getD 6 0 + sig0 (l.getD 14 0) + sig1 (l.getD 1 0)) fun x => schedF n (x :: l)
def firstF (b : Nat → BitVec 8) : Nat → List (BitVec 32)
  | 0 => []
  | n + 1 => fb (word4 (b (4 * n)) (b (4 * n + 1)) (b (4 * n + 2)) (b (4 * n + 3))) fun x => x :: firstF b n
def wordsBack (b : Nat → BitVec 8) : Nat → List (BitVec 32)
  | 0 => []
  | n + 1 => sched b n :: wordsBack b n
theorem wordsBack_get (b : Nat → BitVec 8) (n j : Nat) (h : j < n) : (wordsBack b n).getD j 0 = sched b (n - 1 - j) := by
  induction n generalizing j with
  | zero => omega
  | succ n ih =>
    cases j with
    | zero => rfl
    | succ j =>
      show (wordsBack b n).getD j 0 = _
      rw [ih j (by omega)]; congr 1; omega
theorem firstF_eq (b : Nat → BitVec 8) (n : Nat) (h : n ≤ 16) : firstF b n = wordsBack b n := by
  induction n with
  | zero => rfl
  | succ n ih => rw [firstF, fb_eq, wordsBack, ih (by omega), sched_lo b n (by omega)]
theorem schedF_eq (b : Nat → BitVec 8) (n k : Nat) (h : 16 ≤ k) : schedF n (wordsBack b k) = wordsBack b (k + n) := by
  induction n generalizing k with
  | zero => rfl
  | succ n ih =>
    rw [schedF, fb_eq, wordsBack_get _ _ _ (by omega), wordsBack_get _ _ _ (by omega), wordsBack_get _ _ _ (by omega), wordsBack_get _ _ _ (by omega)]
    have e : sched b k = sched b (k - 1 - 15) + sched b (k - 1 - 6) + sig0 (sched b (k - 1 - 14)) + sig1 (sched b (k - 1 - 1)) := by
      rw [sched_hi b k h]; rfl
    rw [← e, show sched b k :: wordsBack b k = wordsBack b (k + 1) from rfl, ih (k + 1) (by omega)]
    congr 1; omega
def roundsF : S8 → List (BitVec 32) → List (BitVec 32) → S8
  | s, k :: ks, w :: ws => fb (bigX s k w) fun x => fb (bigY s) fun y => fb (x + y) fun a => fb (s.d + x) fun e => roundsF ⟨a, s.a, s.b, s.c, e, s.e, s.f, s.g⟩ ks ws
  | s, _, _ => s
theorem roundsF_any (KL : List (BitVec 32)) (hKL : KL.length = 64) (hkAt : ∀ i, KL.getD i 0 = kAt i) (b : Nat → BitVec 8) (s : S8) (n : Nat) : ∀ k, k + n = 64 → roundsF (rounds8 b s k) (KL.drop k) ((wordsBack b 64).reverse.drop k) = rounds8 b s 64 := by
  have hlen : ∀ m, (wordsBack b m).length = m := by intro m; induction m with
    | zero => rfl
    | succ m ih => simp [wordsBack, ih]
  have hget : ∀ k, k < 64 → (wordsBack b 64).reverse[k]? = some (sched b k) := by
    intro k hk
    rw [List.getElem?_reverse (by rw [hlen]; exact hk), hlen]
    have := wordsBack_get b 64 (64 - 1 - k) (by omega)
    rw [List.getD, show 64 - 1 - (64 - 1 - k) = k by omega] at this
    have h2 : 64 - 1 - k < (wordsBack b 64).length := by rw [hlen]; omega
    rw [List.getElem?_eq_getElem h2] at this ⊢
    simpa using this
  induction n with
  | zero =>
    intro k hk
    obtain rfl : k = 64 := by omega
    rw [List.drop_of_length_le (l := KL) (by rw [hKL]; omega)]
    rfl
  | succ n ih =>
    intro k hk
    have hk1 : k < KL.length := by rw [hKL]; omega
    have hk2 : k < (wordsBack b 64).reverse.length := by rw [List.length_reverse, hlen]; omega
    rw [List.drop_eq_getElem_cons hk1, List.drop_eq_getElem_cons hk2, roundsF, fb_eq, fb_eq, fb_eq, fb_eq]
    have e1 : KL[k] = kAt k := by
      rw [← hkAt k, List.getD, List.getElem?_eq_getElem hk1, Option.getD_some]
    have e2 : (wordsBack b 64).reverse[k] = sched b k := by
      have := hget k (by omega)
      rw [List.getElem?_eq_getElem hk2] at this
      exact Option.some.inj this
    rw [e1, e2]
    exact ih (k + 1) (by omega)
theorem roundsF_eq (b : Nat → BitVec 8) (s : S8) : roundsF (rounds8 b s 0) (kList.drop 0) ((wordsBack b 64).reverse.drop 0) = rounds8 b s 64 :=
  roundsF_any kList rfl (fun _ => rfl) b s 64 0 rfl
def compressF (s : S8) (b : Nat → BitVec 8) : S8 :=
  let t := roundsF s kList (schedF 48 (firstF b 16)).reverse
  fb (s.a + t.a) fun a => fb (s.b + t.b) fun b => fb (s.c + t.c) fun c => fb (s.d + t.d) fun d => fb (s.e + t.e) fun e => fb (s.f + t.f) fun f => fb (s.g + t.g) fun g => fb (s.h + t.h) fun h => ⟨a, b, c, d, e, f, g, h⟩
theorem compressF_eq (s : S8) (b : Nat → BitVec 8) : compressF s b = compress s b := by
  unfold compressF compress
  simp only [fb_eq]
  rw [firstF_eq b 16 (by omega), schedF_eq b 48 16 (by omega)]
  have := roundsF_eq b s
  rw [List.drop_zero, List.drop_zero] at this
  rw [show rounds8 b s 0 = s from rfl] at this
  rw [show 16 + 48 = 64 from rfl, this]
  rfl
def chainF (L : List (BitVec 8)) : Nat → S8
  | 0 => h0s
  | m + 1 => compressF (chainF L m) (blockOf L m)
theorem chainF_eq (L : List (BitVec 8)) (m : Nat) : chainF L m = chain L m := by
  induction m with
  | zero => rfl
  | succ m ih => rw [chainF, chain, compressF_eq, ih]
def shaF (l : List (BitVec 8)) : List (BitVec 8) :=
  let s := chainF (padded l) (nblocks l.length)
  (List.range 32).map (digByte s)
theorem shaF_eq (l : List (BitVec 8)) : shaF l = (List.range 32).map (sha l) := by
  unfold shaF
  rw [sha_chain, chainF_eq]
end Go.Proofs.YtnnffibnonkocaaDoor
