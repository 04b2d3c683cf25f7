/-
  What is told after a crash: plain.
-/
import Derived.Test.YtjhnkpohdlilpaaTheory
import Derived.Test.YtjhnkpohdlilpaaReadAll
import Derived.Test.YtjhnkpohdlilpaaReadLem
import Derived.Test.YtjhnkpohdlilpaaSteps
import Derived.Maps.AppendAt
import Derived.Laws.BytesString
import Derived.Test.YtjhnkpohdlilpaaAppend
import Derived.Test.YtjhnkpohdlilpaaAppendOk
import Derived.Test.YtjhnkpohdlilpaaAppendLem
import Derived.Test.YtjhnkpohdlilpaaLogSmall
import Derived.Test.YtjhnkpohdlilpaaNewDisk
import Derived.Test.YtjhnkpohdlilpaaCrash
import Derived.Test.YtjhnkpohdlilpaaFlush
import Derived.Test.YtjhnkpohdlilpaaWrite
import Derived.Test.YtjhnkpohdlilpaaAppendPend
import Derived.Deep.AppendLies
import Derived.Great.BuildSlice
import Derived.Test.YtjhnkpohdlilpaaDiskLem
import Derived.Test.YtjhnkpohdlilpaaRead
import Derived.Test.YtjhnkpohdlilpaaOut
import Derived.Test.YtjhnkpohdlilpaaDiskSmall
import Derived.Test.YtjhnkpohdlilpaaDisk
import Derived.Test.YtjhnkpohdlilpaaAtom
import Derived.Test.YtjhnkpohdlilpaaDecode
import Derived.Test.YtjhnkpohdlilpaaEncode
import Derived.Test.YtjhnkpohdlilpaaTake
import Derived.Test.YtjhnkpohdlilpaaCopy
import Derived.Laws.CopyOwn
import Derived.Deep.OwnRows
import Derived.Deep.MidRow
import Derived.Test.YtjhnkpohdlilpaaPut
import Derived.Test.YtjhnkpohdlilpaaRows
import Derived.Test.YtjhnkpohdlilpaaWords
import Derived.Test.YtjhnkpohdlilpaaMem
import Derived.Test.YtjhnkpohdlilpaaTail
import Derived.Test.YtjhnkpohdlilpaaCrc
import Derived.Test.YtjhnkpohdlilpaaArr
import Derived.RangeFuncNested
import Derived.RangeFuncBound
import Derived.RangeFuncCalls
import Derived.RangeFuncLeaves
import Derived.Shelf.Abstract
import Derived.Shelf.RegionOpen
import Derived.WalkKit
import Derived.OwnWalkIn
import Derived.TacticsInMore
import Derived.LoopNIn
import Derived.LoopIn
import Derived.WalkSpells
import Derived.WalkLawsBesides
import Derived.Lib.Hide
import Derived.BigQuiet
import Derived.Outline
import Derived.Deep.DeepFit
namespace Go.Proofs.Ytjhnkpohdlilpaa
open Go.RowKit Go.Shelf
attribute [local go_sem] Oper.semAt_some
/-- records laid from place q on, in a life -/
def lay (ep l : BitVec 32) : Nat → List (List (BitVec 8)) → Nat → Option Sec
  | _, [], _ => none
  | q, bs :: N, p => if q ≤ p ∧ p < q + secs bs.length then some (newSec ep l bs (p - q) p) else lay ep l (q + secs bs.length) N p
def tot : List (List (BitVec 8)) → Nat
  | [] => 0
  | bs :: N => secs bs.length + tot N
theorem tot_append (a b : List (List (BitVec 8))) : tot (a ++ b) = tot a + tot b := by
  induction a with
  | nil => simp [tot]
  | cons x a ih => simp only [List.cons_append, tot, ih]; omega
theorem lay_below (ep l : BitVec 32) : ∀ (N : List (List (BitVec 8))) (q p : Nat), p < q → lay ep l q N p = none
  | [], _, _, _ => rfl
  | bs :: N, q, p, h => by rw [lay, if_neg (by omega)]; exact lay_below ep l N _ p (by omega)
theorem lay_append (ep l : BitVec 32) (b : List (List (BitVec 8))) : ∀ (a : List (List (BitVec 8))) (q p : Nat), p < q + tot a → lay ep l q (a ++ b) p = lay ep l q a p
  | [], q, p, h => by
    rw [List.nil_append]
    have : p < q := by simpa [tot] using h
    rw [lay_below ep l b q p this]; rfl
  | bs :: a, q, p, h => by
    rw [List.cons_append, lay, lay]
    split
    · rfl
    · exact lay_append ep l b a _ p (by simp only [tot] at h; omega)
theorem lay_append_ge (ep l : BitVec 32) (b : List (List (BitVec 8))) : ∀ (a : List (List (BitVec 8))) (q p : Nat), q + tot a ≤ p → lay ep l q (a ++ b) p = lay ep l (q + tot a) b p
  | [], q, p, _ => by simp [tot]
  | bs :: a, q, p, h => by
    simp only [tot] at h ⊢
    rw [List.cons_append, lay, if_neg (by omega), lay_append_ge ep l b a _ p (by omega)]
    rw [show q + secs bs.length + tot a = q + (secs bs.length + tot a) by omega]
theorem lay_some (ep l : BitVec 32) : ∀ (N : List (List (BitVec 8))) (q p : Nat), q ≤ p → p < q + tot N → ∃ s, lay ep l q N p = some s
  | [], q, p, h1, h2 => by simp only [tot] at h2; omega
  | bs :: N, q, p, h1, h2 => by
    rw [lay]
    split
    · exact ⟨_, rfl⟩
    · simp only [tot] at h2
      exact lay_some ep l N _ p (by omega) (by omega)
theorem lay_says (ep l : BitVec 32) : ∀ (N : List (List (BitVec 8))) (q p : Nat) (s : Sec), p < 65536 → lay ep l q N p = some s → ∃ fl bs, Says s ep l p fl bs
  | [], _, _, _, _, h => by cases h
  | bs :: N, q, p, s, hp, h => by
    rw [lay] at h
    split at h
    · injection h with h
      rw [← h]
      exact ⟨_, _, newSec_says ep l bs (p - q) p hp⟩
    · exact lay_says ep l N _ p s hp h
section
variable {first : Nat} {ep l most0 most' : BitVec 32} {s0 now' : Nat → Sec}
/-- an elder sector -/
def Elder (now' : Nat → Sec) (first : Nat) (l : BitVec 32) (p : Nat) : Prop := sumOk (now' (first + p)) = true → (get32 (now' (first + p)) 8 4).toNat < l.toNat
theorem bad_elder {p : Nat} {st : RS} (h : Elder now' first l p) (hla : st.last = l) : badSec (now' (first + p)) ep most' p st = true := by
  cases hs : sumOk (now' (first + p))
  · exact badSec_sum' hs
  · refine badSec_7 ?_
    rw [decide_eq_true_iff, hla]
    exact h hs
/-- a record of which a sector is missing ends the reading -/
theorem read_missing {bs : List (BitVec 8)} {p : Nat} (hm : l.toNat ≤ most'.toNat) (st : RS) (h1 : st.part = []) (h2 : st.inside = false) (h3 : st.last.toNat ≤ l.toNat) (t r : Nat) (ht : t < secs bs.length) (hp : p + t ≤ 65535)
    (hn : ∀ i, i < t → now' (first + (p + i)) = newSec ep l bs i (p + i)) (hmiss : r = 0 ∨ Elder now' first l (p + t)) (hs : st.last = l ∨ 1 ≤ t) :
    (readLoop now' first ep most' p (t + r) st).recs = st.recs := by
  rw [read_part hm st h1 h2 h3 t r ht hp hn]
  cases r with
  | zero => rfl
  | succ r =>
    rw [readLoop]
    have he := hmiss.resolve_left (by omega)
    rw [if_pos (bad_elder he (by
      show (if t = 0 then st.last else l) = l
      split
      · rename_i h0; exact hs.resolve_right (by omega)
      · rfl))]
/-- the records of a life, in their order, up to the first that is missing in part -/
theorem read_new (hm : l.toNat ≤ most'.toNat) (X : List (BitVec 8)) (W c : Nat) (hc : c ≤ 4096) : ∀ (N : List (List (BitVec 8))) (q : Nat) (st : RS) (k : Nat), st.part = [] → st.inside = false → st.last.toNat ≤ l.toNat → q + tot N ≤ W → W < q + tot N + secs X.length → W ≤ c →
    (∀ p, q ≤ p → p < c → Elder now' first l p ∨ (p < W ∧ lay ep l q (N ++ [X]) p = some (now' (first + p)))) →
    (∀ p, q ≤ p → p < q + tot (N.take k) → lay ep l q (N ++ [X]) p = some (now' (first + p))) → k ≤ N.length →
    (st.last = l ∨ (q < W ∧ lay ep l q (N ++ [X]) q = some (now' (first + q))) ∨ q = c) →
    ∃ j, k ≤ j ∧ j ≤ N.length ∧ (readLoop now' first ep most' q (c - q) st).recs = st.recs ++ N.take j
  | [], q, st, k, h1, h2, h3, hW1, hW2, hWc, hmix, _, hk, hst => by
    refine ⟨0, by simpa using hk, Nat.le_refl _, ?_⟩
    simp only [tot] at hW1 hW2
    rw [List.take_zero, List.append_nil]
    -- the sectors of X that are there
    have hex : ∃ t, t ≤ W - q ∧ (∀ i, i < t → now' (first + (q + i)) = newSec ep l X i (q + i)) ∧ (q + t = W ∨ Elder now' first l (q + t)) := by
      have : ∀ n, n ≤ W - q → (∃ t, t < n ∧ (∀ i, i < t → now' (first + (q + i)) = newSec ep l X i (q + i)) ∧ Elder now' first l (q + t)) ∨ (∀ i, i < n → now' (first + (q + i)) = newSec ep l X i (q + i)) := by
        intro n
        induction n with
        | zero => intro _; exact Or.inr (fun i hi => by omega)
        | succ n ih =>
          intro hn
          rcases ih (by omega) with ⟨t, ht, h⟩ | h
          · exact Or.inl ⟨t, by omega, h⟩
          · rcases hmix (q + n) (by omega) (by omega) with he | ⟨_, he⟩
            · exact Or.inl ⟨n, by omega, h, he⟩
            · refine Or.inr (fun i hi => ?_)
              by_cases hin : i = n
              · subst hin
                rw [List.nil_append, lay, if_pos (by omega)] at he
                injection he with he
                rw [← he, show q + i - q = i by omega]
              · exact h i (by omega)
      rcases this (W - q) (Nat.le_refl _) with ⟨t, ht, h, he⟩ | h
      · exact ⟨t, by omega, h, Or.inr he⟩
      · exact ⟨W - q, Nat.le_refl _, h, Or.inl (by omega)⟩
    obtain ⟨t, ht, hn, hend⟩ := hex
    have hmiss : c - (q + t) = 0 ∨ Elder now' first l (q + t) := by
      rcases hend with he | he
      · rcases Nat.lt_or_ge (q + t) c with hlt | hge
        · rcases hmix (q + t) (by omega) hlt with h9 | ⟨h9, _⟩
          · exact Or.inr h9
          · omega
        · exact Or.inl (by omega)
      · exact Or.inr he
    have hs' : st.last = l ∨ 1 ≤ t ∨ c = q + t := by
      rcases hst with h9 | ⟨h9, h10⟩ | h9
      · exact Or.inl h9
      · rcases Nat.eq_zero_or_pos t with h0 | h0
        · subst h0
          rcases hend with he | he
          · omega
          · exfalso
            obtain ⟨fl, bs, hsay⟩ := lay_says ep l _ q q _ (by omega) h10
            have h11 := he
            unfold Elder at h11
            rw [Nat.add_zero] at h11
            have := h11 hsay.ok
            rw [hsay.life] at this
            omega
        · exact Or.inr (Or.inl h0)
      · exact Or.inr (Or.inr (by omega))
    rcases Nat.lt_or_ge (q + t) c with hlt | hge
    · rw [show c - q = t + (c - (q + t)) by omega]
      exact read_missing hm st h1 h2 h3 t _ (by omega) (by omega) hn hmiss (hs'.imp id (fun h => h.resolve_right (by omega)))
    · rw [show c - q = t + 0 by omega]
      rw [read_part hm st h1 h2 h3 t 0 (by omega) (by omega) hn]
      rfl
  | R :: N, q, st, k, h1, h2, h3, hW1, hW2, hWc, hmix, hk1, hk2, hst => by
    simp only [tot] at hW1 hW2
    by_cases hall : ∀ i, i < secs R.length → now' (first + (q + i)) = newSec ep l R i (q + i)
    · have hrr := read_rec (most := most') hm st h1 h2 h3 (c - (q + secs R.length)) (by omega) hall
      rw [show secs R.length + (c - (q + secs R.length)) = c - q by omega] at hrr
      have hlay : ∀ p, q + secs R.length ≤ p → lay ep l q (R :: N ++ [X]) p = lay ep l (q + secs R.length) (N ++ [X]) p := fun p hp => by
        rw [List.cons_append, lay, if_neg (by omega)]
      obtain ⟨j, hj1, hj2, hj3⟩ := read_new hm X W c hc N (q + secs R.length) { recs := st.recs ++ [R], part := [], last := l, inside := false, next := q + secs R.length } (k - 1) rfl rfl (Nat.le_refl _) (by omega) (by omega) hWc
        (fun p hp1 hp2 => (hmix p (by omega) hp2).imp id (fun h => ⟨h.1, by rw [← hlay p hp1]; exact h.2⟩))
        (fun p hp1 hp2 => by
          rw [← hlay p hp1]
          cases k with
          | zero => simp [tot] at hp2; omega
          | succ k => exact hk1 p (by omega) (by simp only [List.take_succ_cons, tot]; simp only [Nat.add_sub_cancel] at hp2; omega)) (by simp only [List.length_cons] at hk2; omega) (Or.inl rfl)
      refine ⟨j + 1, by omega, by simp only [List.length_cons]; omega, ?_⟩
      rw [hrr, hj3]
      simp
    · -- the first sector of R that is missing
      have hex : ∃ t, t < secs R.length ∧ (∀ i, i < t → now' (first + (q + i)) = newSec ep l R i (q + i)) ∧ ¬ now' (first + (q + t)) = newSec ep l R t (q + t) := by
        have : ∀ n, n ≤ secs R.length → (∃ t, t < n ∧ (∀ i, i < t → now' (first + (q + i)) = newSec ep l R i (q + i)) ∧ ¬ now' (first + (q + t)) = newSec ep l R t (q + t)) ∨ (∀ i, i < n → now' (first + (q + i)) = newSec ep l R i (q + i)) := by
          intro n
          induction n with
          | zero => intro _; exact Or.inr (fun i hi => by omega)
          | succ n ih =>
            intro hn
            rcases ih (by omega) with ⟨t, ht, h⟩ | h
            · exact Or.inl ⟨t, by omega, h⟩
            · by_cases he : now' (first + (q + n)) = newSec ep l R n (q + n)
              · exact Or.inr (fun i hi => by
                  by_cases hin : i = n
                  · subst hin; exact he
                  · exact h i (by omega))
              · exact Or.inl ⟨n, by omega, h, he⟩
        rcases this _ (Nat.le_refl _) with ⟨t, ht, h⟩ | h
        · exact ⟨t, ht, h⟩
        · exact absurd h hall
      obtain ⟨t, ht, hn, hno⟩ := hex
      have hlayR : ∀ i, i < secs R.length → lay ep l q (R :: N ++ [X]) (q + i) = some (newSec ep l R i (q + i)) := fun i hi => by
        rw [List.cons_append, lay, if_pos (by omega), show q + i - q = i by omega]
      have hk0 : k = 0 := by
        rcases Nat.eq_zero_or_pos k with h | h
        · exact h
        · exfalso
          obtain ⟨k, rfl⟩ : ∃ k', k = k' + 1 := ⟨k - 1, by omega⟩
          have := hk1 (q + t) (by omega) (by simp only [List.take_succ_cons, tot]; omega)
          rw [hlayR t ht] at this
          injection this with this
          exact hno this.symm
      have hel : Elder now' first l (q + t) := by
        rcases hmix (q + t) (by omega) (by omega) with h | ⟨_, h⟩
        · exact h
        · rw [hlayR t ht] at h
          injection h with h
          exact absurd h.symm hno
      refine ⟨0, by omega, Nat.zero_le _, ?_⟩
      rw [List.take_zero, List.append_nil, show c - q = t + (c - (q + t)) by omega]
      refine read_missing hm st h1 h2 h3 t _ ht (by omega) hn (Or.inr hel) ?_
      rcases hst with h9 | ⟨h9, h10⟩ | h9
      · exact Or.inl h9
      · rcases Nat.eq_zero_or_pos t with h0 | h0
        · subst h0
          exfalso
          have := hlayR 0 ht
          rw [Nat.add_zero] at this
          rw [this] at h10
          injection h10 with h10
          exact hno (by rw [Nat.add_zero]; exact h10.symm)
        · exact Or.inr h0
      · omega
end
/-- WHAT IS TOLD after a crash: what was told at the life's opening, and behind it a beginning of the life's records, among them all that had lasted. -/
theorem told {s0 now' : Nat → Sec} {first c : Nat} {ep most0 most' l la : BitVec 32} {T N : List (List (BitVec 8))} {X : List (BitVec 8)} {q W k : Nat} (ho : Opened s0 first c ep most0 T q la) (hc : c ≤ 4096) (h0 : most0.toNat < l.toNat) (hm : l.toNat ≤ most'.toNat)
    (hW1 : q + tot N ≤ W) (hW2 : W < q + tot N + secs X.length) (hWc : W ≤ c) (hpre : ∀ p, 1 ≤ p → p < q → now' (first + p) = s0 (first + p))
    (hmix : ∀ p, q ≤ p → p < c → now' (first + p) = s0 (first + p) ∨ (p < W ∧ lay ep l q (N ++ [X]) p = some (now' (first + p)))) (hk : k ≤ N.length) (hlast : ∀ p, q ≤ p → p < q + tot (N.take k) → lay ep l q (N ++ [X]) p = some (now' (first + p))) :
    ∃ j, k ≤ j ∧ j ≤ N.length ∧ (readLoop now' first ep most' 1 (c - 1) st0).recs = T ++ N.take j := by
  have hm0 : most0.toNat ≤ most'.toNat := by omega
  rw [ho.reach now' most' hpre hm0]
  have hq1 := ho.q1
  have hel : ∀ p, q ≤ p → p < c → Elder now' first l p ∨ (p < W ∧ lay ep l q (N ++ [X]) p = some (now' (first + p))) := fun p hp1 hp2 => by
    rcases hmix p hp1 hp2 with h | h
    · refine Or.inl (fun hs => ?_)
      rw [h] at hs ⊢
      have := ho.low p (by omega) hp2 hs
      omega
    · exact Or.inr h
  by_cases hqc : q = c
  · exact read_new hm X W c hc N q _ k rfl rfl (by show la.toNat ≤ _; have := ho.la_le; omega) hW1 hW2 hWc hel hlast hk (Or.inr (Or.inr hqc))
  by_cases hfirst : q < W ∧ lay ep l q (N ++ [X]) q = some (now' (first + q))
  · exact read_new hm X W c hc N q _ k rfl rfl (by show la.toNat ≤ _; have := ho.la_le; omega) hW1 hW2 hWc hel hlast hk (Or.inr (Or.inl hfirst))
  · have hqc' : q < c := by have := ho.qc; omega
    have hq0 : now' (first + q) = s0 (first + q) := (hmix q (Nat.le_refl _) hqc').resolve_right hfirst
    have hk0 : k = 0 := by
      rcases Nat.eq_zero_or_pos k with h | h
      · exact h
      · exfalso
        cases N with
        | nil => simp at hk; omega
        | cons R N =>
          obtain ⟨k, rfl⟩ : ∃ k', k = k' + 1 := ⟨k - 1, by omega⟩
          have hp := secs_pos' R.length
          exact hfirst ⟨by simp only [tot] at hW1; omega, hlast q (Nat.le_refl _) (by simp only [List.take_succ_cons, tot]; omega)⟩
    refine ⟨0, by omega, Nat.zero_le _, ?_⟩
    rw [List.take_zero, List.append_nil]
    have hno := ho.none
    rw [show c - q = (c - q - 1) + 1 by omega, readLoop] at hno ⊢
    rw [hq0, badSec_low (ho.low q hq1 hqc') hm0]
    by_cases hb : badSec (s0 (first + q)) ep most0 q { recs := T, part := [], last := la, inside := false, next := q } = true
    · rw [if_pos hb]
    · have hb' : badSec (s0 (first + q)) ep most0 q { recs := T, part := [], last := la, inside := false, next := q } = false := by simpa using hb
      rw [if_neg hb] at hno ⊢
      by_cases he : (s0 (first + q) 14 &&& 2 != 0) = true
      · exfalso
        obtain ⟨ext, hext⟩ := read_grows (first := first) (ep := ep) s0 most0 (c - q - 1) (q + 1) (RS.step { recs := T, part := [], last := la, inside := false, next := q } (s0 (first + q)) q)
        rw [hno] at hext
        unfold RS.step at hext
        rw [if_pos he] at hext
        have := congrArg List.length hext
        simp at this
      · have hs : RS.step { recs := T, part := [], last := la, inside := false, next := q } (s0 (first + q)) q = { recs := T, part := [] ++ secBytes (s0 (first + q)), last := get32 (s0 (first + q)) 8 4, inside := true, next := q } := by unfold RS.step; rw [if_neg he]
        rw [hs] at hno ⊢
        refine stale_no h0 hm0 (c - q - 1) (q + 1) _ (fun i hi => ho.low _ (by omega) (by omega)) (fun i hi => ?_) rfl (badSec_life hb') hno
        rcases hmix (q + 1 + i) (by omega) (by omega) with h | ⟨_, h⟩
        · exact Or.inl h
        · obtain ⟨fl, bs, hsay⟩ := lay_says ep l _ q _ _ (by omega) h
          exact Or.inr (fun _ => hsay.life)
end Go.Proofs.Ytjhnkpohdlilpaa
