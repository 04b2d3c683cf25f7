/-
  Bytes written one after the other, in plain Lean.
-/
import Derived.Test.YtnnffibnonkocaaDoorSpec
namespace Go.Proofs.YtnnffibnonkocaaDoor
open Go.RowKit
/-- a hash under way: its words, its bytes, how many were written -/
structure HS where
  h : S8
  o : Nat → BitVec 8
  n : Nat

def put1 (o : Nat → BitVec 8) (i : Nat) (x : BitVec 8) : Nat → BitVec 8 := fun j => if j = i then x else o j
/-- one byte more -/
def HS.push (s : HS) (x : BitVec 8) : HS :=
  { h := if (s.n + 1) % 64 = 0 then compress s.h (put1 s.o (s.n % 64) x) else s.h, o := put1 s.o (s.n % 64) x, n := s.n + 1 }
def HS.write (s : HS) (l : List (BitVec 8)) : HS := l.foldl HS.push s

theorem HS.write_nil (s : HS) : s.write [] = s := rfl
theorem HS.write_append (s : HS) (a b : List (BitVec 8)) : s.write (a ++ b) = (s.write a).write b := by simp [HS.write]
theorem HS.write_snoc (s : HS) (a : List (BitVec 8)) (x : BitVec 8) : s.write (a ++ [x]) = (s.write a).push x := by simp [HS.write]
theorem HS.write_n (s : HS) (l : List (BitVec 8)) : (s.write l).n = s.n + l.length := by
  induction l generalizing s with
  | nil => rfl
  | cons x l ih => show ((s.push x).write l).n = _; rw [ih]; simp only [HS.push, List.length_cons]; omega

/-- bytes laid over others from a place on -/
def over (o : Nat → BitVec 8) (at_ : Nat) (l : List (BitVec 8)) : Nat → BitVec 8 := fun j => if at_ ≤ j ∧ j < at_ + l.length then l.getD (j - at_) 0 else o j
theorem over_nil (o : Nat → BitVec 8) (a : Nat) : over o a [] = o := by
  funext j; unfold over; exact if_neg (by simp)
theorem over_snoc (o : Nat → BitVec 8) (a : Nat) (l : List (BitVec 8)) (x : BitVec 8) : over o a (l ++ [x]) = put1 (over o a l) (a + l.length) x := by
  funext j
  show (if a ≤ j ∧ j < a + (l ++ [x]).length then (l ++ [x]).getD (j - a) 0 else o j) = (if j = a + l.length then x else if a ≤ j ∧ j < a + l.length then l.getD (j - a) 0 else o j)
  by_cases e : j = a + l.length
  · subst e
    rw [if_pos (by simp), if_pos rfl]
    simp [List.getD]
  · rw [if_neg e]
    by_cases h : a ≤ j ∧ j < a + l.length
    · rw [if_pos h, if_pos (by simp; omega)]
      simp only [List.getD]
      rw [List.getElem?_append_left (by omega)]
    · rw [if_neg h, if_neg (by simp; omega)]

/-- as many bytes as the open block bears -/
theorem HS.write_part (s : HS) (l : List (BitVec 8)) (h : s.n % 64 + l.length ≤ 64) (h0 : l ≠ []) :
    s.write l = { h := if (s.n + l.length) % 64 = 0 then compress s.h (over s.o (s.n % 64) l) else s.h, o := over s.o (s.n % 64) l, n := s.n + l.length } := by
  have key : ∀ (k : Nat) (l : List (BitVec 8)), l.length = k → s.n % 64 + k ≤ 64 → 0 < k →
      s.write l = { h := if (s.n + l.length) % 64 = 0 then compress s.h (over s.o (s.n % 64) l) else s.h, o := over s.o (s.n % 64) l, n := s.n + l.length } := by
    intro k
    induction k with
    | zero => intro l _ _ h; omega
    | succ k ih =>
      intro l hl hle _
      have hne : l ≠ [] := by intro e; subst e; simp at hl
      obtain ⟨a, x, rfl⟩ : ∃ a x, l = a ++ [x] := ⟨l.dropLast, l.getLast hne, (List.dropLast_concat_getLast hne).symm⟩
      have hla : a.length = k := by simpa using hl
      rw [HS.write_snoc]
      by_cases hk : k = 0
      · subst hk
        obtain rfl : a = [] := List.eq_nil_of_length_eq_zero hla
        have e := over_snoc s.o (s.n % 64) [] x
        rw [over_nil] at e
        simp only [List.length_nil, Nat.add_zero] at e
        simp only [HS.write_nil, HS.push, List.nil_append, List.length_cons, List.length_nil, Nat.zero_add] at e ⊢
        rw [e]
        rfl
      · have hnz : ¬ (s.n + a.length) % 64 = 0 := by omega
        have hm : (s.n + a.length) % 64 = s.n % 64 + a.length := by omega
        rw [ih a hla (by omega) (by omega), if_neg hnz]
        simp only [HS.push, hm]
        rw [over_snoc]
        simp only [List.length_append, List.length_cons, List.length_nil, Nat.zero_add, Nat.add_assoc]
  exact key l.length l rfl h (by cases l with | nil => exact absurd rfl h0 | cons x l => simp)
end Go.Proofs.YtnnffibnonkocaaDoor
