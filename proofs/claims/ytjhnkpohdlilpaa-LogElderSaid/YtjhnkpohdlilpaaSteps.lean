/-
  A region that draws its order: operations that only read are taken as soon as they may come up; those that make memory come up one by one. No program in sight.
-/
import Derived.Test.YtjhnkpohdlilpaaTake
namespace Go.Proofs.Ytjhnkpohdlilpaa
section
variable {P : Program} {ops : Array Oper} {md : Region.Mode} {S : World → Prop} {Q : Exit → Act → World → Prop}
/-- steps: (true, k): number k is taken, it only reads; (false, k): number k alone may come up, and keeps the class -/
def wpSteps (P : Program) (ops : Array Oper) (Q : Exit → Act → World → Prop) (S : World → Prop) (L : Act → World → Prop) : List (Bool × Nat) → Act → World → Prop
  | [], a, w => L a w
  | (true, k) :: r, a, w => ∃ v, YieldsX P ops S (ops.getD k default) v a ∧ wpSteps P ops Q S L r (a.put (ops.getD k default).dst v) w
  | (false, k) :: r, a, w => wpOp P ops Q k (fun a' w' => S w' ∧ wpSteps P ops Q S L r a' w') a w
def stepsB (md : Region.Mode) (ops : Array Oper) (n : Nat) (r : List Nat) : List (Bool × Nat) → Array Bool → Bool
  | [], l => restB md ops r l
  | (true, k) :: t, l => (Region.ready md ops l).contains k && Region.free md ops l k && decide (k < n) && stepsB md ops n r t (l.setIfInBounds k true)
  | (false, k) :: t, l => decide (Region.ready md ops l = [k]) && decide (k < n) && stepsB md ops n r t (l.setIfInBounds k true)
theorem wpAnyT_of_steps {n : Nat} {r : List Nat} (hsel : Region.noSelect ops = true) (hs : Region.sinkB md ops n = true) (hc : Region.chainB md ops n = true) (hn : n < ops.size) (hQ : ∀ c a w, ¬ Q (.panic c) a w) :
    ∀ (t : List (Bool × Nat)) (l : Array Bool) (a : Act) (w : World), S w → HeadInv md ops n l → stepsB md ops n r t l = true → wpSteps P ops Q S (fun a' w' => wpRest P ops Q S n r a' w') t a w → wpAnyT P md ops Q S n (t.length + r.length) l a w
  | [], l, a, w, _, _, hB, h => by simpa using wpAnyT_of_rest (P := P) (Q := Q) (S := S) (n := n) r l a w hB h
  | (true, k) :: t, l, a, w, hS, inv, hB, h => by
    simp only [stepsB, Bool.and_eq_true, decide_eq_true_eq] at hB
    obtain ⟨⟨⟨hr, hf⟩, hkn⟩, hB'⟩ := hB
    obtain ⟨v, hy, hK⟩ := h
    have hr' : k ∈ Region.ready md ops l := by simpa using hr
    have hk : ops[k]? = some (ops.getD k default) := by
      have : k < ops.size := by omega
      simp [Array.getD, this]
    rw [show ((true, k) :: t).length + r.length = t.length + r.length + 1 by simp; omega]
    exact takeT_first hk (Region.noSelect_spec hsel) hs hc hn hkn (fun c a w h => absurd h (hQ c _ w)) _ l a w inv (Region.free_spec hk hf) hr' hy hS
      (wpAnyT_of_steps hsel hs hc hn hQ t _ _ w hS (inv.set hr' hkn) hB' hK)
  | (false, k) :: t, l, a, w, hS, inv, hB, h => by
    simp only [stepsB, Bool.and_eq_true, decide_eq_true_eq] at hB
    obtain ⟨⟨hr, hkn⟩, hB'⟩ := hB
    have hr' : k ∈ Region.ready md ops l := by rw [hr]; simp
    rw [show ((false, k) :: t).length + r.length = t.length + r.length + 1 by simp; omega]
    refine ⟨fun h1 => (by rw [hr] at h1; cases h1), fun i hi => ?_⟩
    rw [hr] at hi
    have hik : i = k := by simpa using hi
    subst hik
    exact wpOp_mono (fun a' w' h' => ⟨fun _ => h'.1, wpAnyT_of_steps hsel hs hc hn hQ t _ a' w' h'.1 (inv.set hr' hkn) hB' h'.2⟩) h
def regionB2 (md : Region.Mode) (ops : Array Oper) (n : Nat) (t : List (Bool × Nat)) (r : List Nat) : Bool :=
  Region.noSelect ops && decide (n < ops.size) && Region.sinkB md ops n && Region.chainB md ops n && decide (t.length + r.length = ops.size) && stepsB md ops n r t (Array.replicate ops.size false)
theorem wp_region_steps {id : Nat} {a : Act} {w : World} {l : List Oper} (S : World → Prop) (n : Nat) (t : List (Bool × Nat)) (r : List Nat) (hm : P.follows .mixedOrders = true) (hB : regionB2 .any l.toArray n t r = true) (hS : S w.drew)
    (h : wpSteps P l.toArray (NoPanic Q) S (fun a' w' => wpRest P l.toArray (NoPanic Q) S n r a' w') t a w.drew) : (Code.region id l.toArray true).wp P Q a w := by
  simp only [regionB2, Bool.and_eq_true, decide_eq_true_eq] at hB
  obtain ⟨⟨⟨⟨⟨hsel, hn⟩, hs⟩, hc⟩, hlen⟩, hB⟩ := hB
  refine wp_region_noPanic (wp_region_any hm (wpAny_of_T (S := S) (n := n) _ _ _ _ ?_))
  rw [← hlen]
  have inv0 : HeadInv .any l.toArray n (Array.replicate l.toArray.size false) :=
    ⟨by simp, fun j oj _ hl => (by rw [getD_replicate_false] at hl; cases hl), fun t _ ht => getD_in (by simpa using ht) (getD_replicate_false _ _)⟩
  have := wpAnyT_of_steps (Q := NoPanic Q) (r := r) hsel hs hc hn (fun c a w h => h) t _ a w.drew hS inv0 (by rw [hlen] at *; exact hB) h
  rw [hlen] at *
  exact this
/-- the first operations that are taken: as a row -/
theorem wpSteps_take {L : Act → World → Prop} (ts : List Nat) (r : List (Bool × Nat)) : ∀ (a : Act) (w : World), wpTake P ops S (fun a' => wpSteps P ops Q S L r a' w) (ts.map fun k => ops.getD k default) a → wpSteps P ops Q S L ((ts.map fun k => (true, k)) ++ r) a w := by
  induction ts with
  | nil => intro a w h; exact h
  | cons k ts ih =>
    intro a w h
    obtain ⟨v, h1, h2⟩ := h
    exact ⟨v, h1, ih _ w h2⟩
/-- one that makes memory -/
def stepS (Q : Exit → Act → World → Prop) (S : World → Prop) (next : Act → World → Prop) : Exit → Act → World → Prop
  | .normal, a, w => S w ∧ next a w
  | e, a, w => Q e a w
theorem wpSteps_one {L : Act → World → Prop} {k : Nat} {r : List (Bool × Nat)} {o : Oper} {a : Act} {w : World} (ho : ops[k]? = some o) (h : wpList P ops (stepS (NoPanic Q) S (wpSteps P ops (NoPanic Q) S L r)) [o] a w) : wpSteps P ops (NoPanic Q) S L ((false, k) :: r) a w := by
  have hl : LetsOut (stepS (NoPanic Q) S (wpSteps P ops (NoPanic Q) S L r)) = LetsOut (NoPanic Q) := rfl
  unfold wpSteps wpOp
  simp only [ho]
  unfold wpList at h
  split at h
  · rename_i hw
    rw [if_pos hw]
    rw [hl] at h
    refine h.imp (fun h => ?_) id
    unfold Oper.wp at *
    generalize (execOp a.eval o).run P w = x at *
    cases x with
    | ok m w' =>
      cases m <;> simp only [Oper.upon] at h ⊢
      case value => exact h
      case skip => exact h
      case defer => exact h
      case enter f args =>
        refine Calls.mono h fun e w'' he => ?_
        cases e with
        | returned u => exact he
        | panicked c => exact he
        | outgrown => exact he
      case row => exact Rows.mono h fun _ _ h => h
    | halt x w' =>
      cases x <;> simp only [Oper.upon] at h ⊢
      case panic => exact h
  · rename_i hw
    rw [if_neg hw]
    exact h
end
end Go.Proofs.Ytjhnkpohdlilpaa
