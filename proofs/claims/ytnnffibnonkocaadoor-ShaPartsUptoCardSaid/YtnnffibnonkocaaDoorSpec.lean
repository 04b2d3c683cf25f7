/-
  SHA-256 in plain Lean: the schedule, the rounds, a block's work. No program in sight.
-/
import Derived.WalkKit
namespace Go.Proofs.YtnnffibnonkocaaDoor
/-- four bytes' word -/
def word4 (a b c d : BitVec 8) : BitVec 32 := a.setWidth 32 <<< 24 ||| b.setWidth 32 <<< 16 ||| c.setWidth 32 <<< 8 ||| d.setWidth 32

def sig0 (p : BitVec 32) : BitVec 32 := p.rotateRight 7 ^^^ p.rotateRight 18 ^^^ p >>> 3
def sig1 (q : BitVec 32) : BitVec 32 := q.rotateRight 17 ^^^ q.rotateRight 19 ^^^ q >>> 10

/-- the schedule of a block of bytes -/
def sched (b : Nat → BitVec 8) (n : Nat) : BitVec 32 :=
  if n < 16 then word4 (b (4 * n)) (b (4 * n + 1)) (b (4 * n + 2)) (b (4 * n + 3))
  else sched b (n - 16) + sched b (n - 7) + sig0 (sched b (n - 15)) + sig1 (sched b (n - 2))
termination_by n

theorem sched_lo (b : Nat → BitVec 8) (n : Nat) (h : n < 16) : sched b n = word4 (b (4 * n)) (b (4 * n + 1)) (b (4 * n + 2)) (b (4 * n + 3)) := by
  rw [sched, if_pos h]
theorem sched_hi (b : Nat → BitVec 8) (n : Nat) (h : 16 ≤ n) : sched b n = sched b (n - 16) + sched b (n - 7) + sig0 (sched b (n - 15)) + sig1 (sched b (n - 2)) := by
  rw [sched, if_neg (by omega)]

def kList : List (BitVec 32) := [
  0x428a2f98, 0x71374491, 0xb5c0fbcf, 0xe9b5dba5, 0x3956c25b, 0x59f111f1, 0x923f82a4, 0xab1c5ed5,
  0xd807aa98, 0x12835b01, 0x243185be, 0x550c7dc3, 0x72be5d74, 0x80deb1fe, 0x9bdc06a7, 0xc19bf174,
  0xe49b69c1, 0xefbe4786, 0x0fc19dc6, 0x240ca1cc, 0x2de92c6f, 0x4a7484aa, 0x5cb0a9dc, 0x76f988da,
  0x983e5152, 0xa831c66d, 0xb00327c8, 0xbf597fc7, 0xc6e00bf3, 0xd5a79147, 0x06ca6351, 0x14292967,
  0x27b70a85, 0x2e1b2138, 0x4d2c6dfc, 0x53380d13, 0x650a7354, 0x766a0abb, 0x81c2c92e, 0x92722c85,
  0xa2bfe8a1, 0xa81a664b, 0xc24b8b70, 0xc76c51a3, 0xd192e819, 0xd6990624, 0xf40e3585, 0x106aa070,
  0x19a4c116, 0x1e376c08, 0x2748774c, 0x34b0bcb5, 0x391c0cb3, 0x4ed8aa4a, 0x5b9cca4f, 0x682e6ff3,
  0x748f82ee, 0x78a5636f, 0x84c87814, 0x8cc70208, 0x90befffa, 0xa4506ceb, 0xbef9a3f7, 0xc67178f2]
def kAt (i : Nat) : BitVec 32 := kList[i]?.getD 0

structure S8 where
  (a b c d e f g h : BitVec 32)

def S8.get (s : S8) : Nat → BitVec 32
  | 0 => s.a | 1 => s.b | 2 => s.c | 3 => s.d | 4 => s.e | 5 => s.f | 6 => s.g | _ => s.h
def S8.of (f : Nat → BitVec 32) : S8 := ⟨f 0, f 1, f 2, f 3, f 4, f 5, f 6, f 7⟩
theorem S8.ext_get {s t : S8} (h : ∀ i, i < 8 → s.get i = t.get i) : s = t := by
  cases s; cases t
  have h0 := h 0 (by omega); have h1 := h 1 (by omega); have h2 := h 2 (by omega); have h3 := h 3 (by omega)
  have h4 := h 4 (by omega); have h5 := h 5 (by omega); have h6 := h 6 (by omega); have h7 := h 7 (by omega)
  simp only [S8.get] at h0 h1 h2 h3 h4 h5 h6 h7
  subst h0 h1 h2 h3 h4 h5 h6 h7; rfl

def bigX (s : S8) (k w : BitVec 32) : BitVec 32 := s.h + (s.e.rotateRight 6 ^^^ s.e.rotateRight 11 ^^^ s.e.rotateRight 25) + (s.e &&& s.f ^^^ ~~~ s.e &&& s.g) + k + w
def bigY (s : S8) : BitVec 32 := (s.a.rotateRight 2 ^^^ s.a.rotateRight 13 ^^^ s.a.rotateRight 22) + (s.a &&& s.b ^^^ s.a &&& s.c ^^^ s.b &&& s.c)
def round (s : S8) (k w : BitVec 32) : S8 := ⟨bigX s k w + bigY s, s.a, s.b, s.c, s.d + bigX s k w, s.e, s.f, s.g⟩
def rounds8 (b : Nat → BitVec 8) (s : S8) : Nat → S8
  | 0 => s
  | n + 1 => round (rounds8 b s n) (kAt n) (sched b n)
def S8.plus (s t : S8) : S8 := ⟨s.a + t.a, s.b + t.b, s.c + t.c, s.d + t.d, s.e + t.e, s.f + t.f, s.g + t.g, s.h + t.h⟩
/-- one block's work -/
def compress (s : S8) (b : Nat → BitVec 8) : S8 := s.plus (rounds8 b s 64)

theorem sched_congr {b b' : Nat → BitVec 8} (h : ∀ i, i < 64 → b i = b' i) (n : Nat) : n < 64 → sched b n = sched b' n := by
  induction n using Nat.strongRecOn with
  | _ n ih =>
    intro hn
    by_cases h16 : n < 16
    · rw [sched_lo _ _ h16, sched_lo _ _ h16, h _ (by omega), h _ (by omega), h _ (by omega), h _ (by omega)]
    · rw [sched_hi b n (by omega), sched_hi b' n (by omega), ih (n - 16) (by omega) (by omega), ih (n - 7) (by omega) (by omega), ih (n - 15) (by omega) (by omega), ih (n - 2) (by omega) (by omega)]
theorem rounds8_congr {b b' : Nat → BitVec 8} (h : ∀ i, i < 64 → b i = b' i) (s : S8) (n : Nat) : n ≤ 64 → rounds8 b s n = rounds8 b' s n := by
  induction n with
  | zero => intro _; rfl
  | succ n ih => intro hn; rw [rounds8, rounds8, ih (by omega), sched_congr h n (by omega)]
theorem compress_congr {b b' : Nat → BitVec 8} (h : ∀ i, i < 64 → b i = b' i) (s : S8) : compress s b = compress s b' := by
  rw [compress, compress, rounds8_congr h s 64 (by omega)]

def h0s : S8 := ⟨0x6a09e667, 0xbb67ae85, 0x3c6ef372, 0xa54ff53a, 0x510e527f, 0x9b05688c, 0x1f83d9ab, 0x5be0cd19⟩
end Go.Proofs.YtnnffibnonkocaaDoor
