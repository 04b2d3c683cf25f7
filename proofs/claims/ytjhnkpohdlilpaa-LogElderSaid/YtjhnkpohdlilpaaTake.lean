/-
  A region that draws its order: operations that only read may be taken first, if what comes between keeps what they read. No program in sight.
-/
import Derived.StillTail
import Derived.OrdersHeld
import Derived.Deep.Quiet
import Derived.Deep.QuietTactic
import Derived.Deep.RegionHeld3
namespace Go.Proofs.Ytjhnkpohdlilpaa
section
variable {P : Program} {ops : Array Oper} {md : Region.Mode} {S : World → Prop} {Q : Exit → Act → World → Prop}

/-- In state 'a', in every world of the class, the operation leaves v, and the very world that it got; a call, too. -/
def YieldsX (P : Program) (ops : Array Oper) (S : World → Prop) (o : Oper) (v : Value) (a : Act) : Prop :=
  (Region.wanted o (yielded ops a.tmps) = true ∧ ∀ w, S w → o.quietAt P a (fun w' => w' = w) w v) ∨ (Region.wanted o (yielded ops a.tmps) = false ∧ v = undef)
theorem YieldsX.of_same {o : Oper} {v : Value} {a a' : Act} (hy : YieldsX P ops S o v a) (he : execOp a'.eval o = execOp a.eval o) (hw : Region.wanted o (yielded ops a'.tmps) = Region.wanted o (yielded ops a.tmps)) : YieldsX P ops S o v a' := by
  unfold YieldsX Oper.quietAt at *
  rw [he, hw]
  exact hy
theorem YieldsX.wpOp {i : Nat} {o : Oper} {v : Value} {a : Act} (hi : ops[i]? = some o) (hy : YieldsX P ops S o v a) {K : Act → World → Prop} {w : World} (hS : S w) (h : K (a.put o.dst v) w) : wpOp P ops Q i K a w := by
  unfold Go.wpOp
  simp only [hi]
  rcases hy with ⟨hw, hv⟩ | ⟨hw, rfl⟩
  · rw [if_pos hw]
    exact .inl (Oper.wp_of_quiet (C := fun w' => w' = w) (K := fun a' => K a' w) rfl (fun a' w' e hk => by subst e; exact hk) ⟨v, fun w' e => by subst e; exact hv _ hS, h⟩)
  · rw [if_neg (by rw [hw]; exact Bool.false_ne_true)]; exact h
/-- What an operation leaves, read with one slot more filled: whatever holds of the frame on the way is kept. -/
theorem upon_filled {o : Oper} {d : Option Tmp} {v : Value} {I : Act → Prop} {K : Act → World → Prop} {a : Act} (hI : ∀ u, I (a.put o.dst u)) (hD : ∀ x, I ({ a with defers := x :: a.defers }.put o.dst undef)) (hswap : ∀ (a' : Act) (u : Value), (a'.put o.dst u).put d v = (a'.put d v).put o.dst u)
    (hQ : ∀ c w, Q (.panic c) (a.put d v) w → Q (.panic c) a w) (r : Result Next) (h : o.upon P (a.put d v) K Q r) : o.upon P a (fun a' w' => I a' ∧ K (a'.put d v) w') Q r := by
  match r, h with
  | .ok (.value u) w', h => exact ⟨hI u, (hswap a u).symm ▸ h⟩
  | .ok .skip w', h => exact ⟨hI undef, (hswap a undef).symm ▸ h⟩
  | .ok (.defer x) w', h =>
    refine ⟨hD x, ?_⟩
    rw [hswap]
    have e : ({ a with defers := x :: a.defers } : Act).put d v = { a.put d v with defers := x :: (a.put d v).defers } := by rw [← Act.put_defers]
    rw [e]
    exact h
  | .ok (.enter f args) w', h =>
    exact Calls.mono h fun e w'' he => match e, he with
      | .returned u, he => ⟨hI u, (hswap a u).symm ▸ he⟩
      | .panicked c, he => hQ c _ he
      | .outgrown, he => he
  | .ok (.row row args) w', h => exact Rows.mono h fun u w'' he => ⟨hI u, (hswap a u).symm ▸ he⟩
  | .halt (.panic u) w', h => exact hQ _ _ h
/-- an operation apart from one that is taken first: it makes no difference which comes first -/
theorem wpOp_putX {j : Nat} {oi oj : Oper} {v : Value} (hj : ops[j]? = some oj) (hap : oi.apart ops oj = true) (hsi : ∀ cs b, oi.op ≠ .select cs b) (hsj : ∀ cs b, oj.op ≠ .select cs b)
    (hQ : ∀ c a w, Q (.panic c) (a.put oi.dst v) w → Q (.panic c) a w) {K : Act → World → Prop} {a : Act} {w : World} (hy : YieldsX P ops S oi v a) (h : wpOp P ops Q j K (a.put oi.dst v) w) :
    wpOp P ops Q j (fun a' w' => YieldsX P ops S oi v a' ∧ K (a'.put oi.dst v) w') a w := by
  have hspec := Oper.apart_spec hap
  have hsame := execOp_put oj hsj a oi.dst v hspec.1
  have hwant := wanted_put oj a oi.dst v hspec.1
  have hkeep : ∀ (b : Act), YieldsX P ops S oi v b → ∀ u, YieldsX P ops S oi v (b.put oj.dst u) := fun b hb u => hb.of_same (execOp_put oi hsi b oj.dst u hspec.2.2) (wanted_put oi b oj.dst u hspec.2.2)
  have hswap : ∀ (a' : Act) (u : Value), (a'.put oj.dst u).put oi.dst v = (a'.put oi.dst v).put oj.dst u := fun a' u => (Act.put_comm a' v u hspec.2.1).symm
  have hrun : ∀ r, (oj.upon P (a.put oi.dst v) K Q r → oj.upon P a (fun a' w' => YieldsX P ops S oi v a' ∧ K (a'.put oi.dst v) w') Q r) :=
    upon_filled (hkeep a hy) (fun x => hkeep { a with defers := x :: a.defers } (hy.of_same rfl rfl) undef) hswap (fun c w => hQ c a w)
  unfold wpOp at h ⊢
  simp only [hj] at h ⊢
  by_cases hw : Region.wanted oj (yielded ops a.tmps) = true
  · rw [if_pos hw]
    rw [if_pos (by rw [hwant]; exact hw)] at h
    refine h.imp (fun h1 => ?_) (fun h1 => ⟨?_, h1.2⟩)
    · unfold Oper.wp at h1 ⊢
      rw [hsame] at h1
      exact hrun _ h1
    · have h2 := h1.1
      unfold Oper.asks at h2 ⊢
      rwa [hsame] at h2
  · rw [if_neg hw]
    rw [if_neg (by rw [hwant]; exact hw)] at h
    exact ⟨hkeep a hy undef, (hswap a undef).symm ▸ h⟩

/-- Whatever order is picked; behind each operation below n the class holds anew. -/
def wpAnyT (P : Program) (md : Region.Mode) (ops : Array Oper) (Q : Exit → Act → World → Prop) (S : World → Prop) (n : Nat) : Nat → Array Bool → Act → World → Prop
  | 0, l, a, w => Region.ready md ops l = [] ∧ Q .normal a w
  | f + 1, l, a, w => (Region.ready md ops l = [] → Q .normal a w) ∧ ∀ i ∈ Region.ready md ops l, wpOp P ops Q i (fun a' w' => (i < n → S w') ∧ wpAnyT P md ops Q S n f (l.setIfInBounds i true) a' w') a w

theorem wpAny_of_T {n : Nat} : ∀ (f : Nat) (l : Array Bool) (a : Act) (w : World), wpAnyT P md ops Q S n f l a w → wpAny P md ops Q f l a w
  | 0, _, _, _, h => h
  | f + 1, _, _, _, h => ⟨h.1, fun i hi => wpOp_mono (fun a' w' h' => wpAny_of_T f _ a' w' h'.2) (h.2 i hi)⟩

theorem takeT_first {n i : Nat} {oi : Oper} {v : Value} (hi : ops[i]? = some oi) (hsel : ∀ (j : Nat) (o : Oper) cs b, ops[j]? = some o → o.op ≠ .select cs b)
    (hs : Region.sinkB md ops n = true) (hc : Region.chainB md ops n = true) (hn : n < ops.size) (hin : i < n) (hQ : ∀ c a w, Q (.panic c) (a.put oi.dst v) w → Q (.panic c) a w) :
    ∀ (f : Nat) (l : Array Bool) (a : Act) (w : World), HeadInv md ops n l →
      (∀ j oj, ops[j]? = some oj → j ≠ i → l.getD j true = false → (∀ e ∈ oj.after, Region.binds md e = true → e.on ≠ i) → oi.apart ops oj = true) →
      i ∈ Region.ready md ops l → YieldsX P ops S oi v a → S w →
      wpAnyT P md ops Q S n f (l.setIfInBounds i true) (a.put oi.dst v) w → wpAnyT P md ops Q S n (f + 1) l a w := by
  intro f
  induction f with
  | zero =>
    intro l a w _ _ hr hy hS H
    refine ⟨fun h => (by rw [h] at hr; cases hr), fun j hj => ?_⟩
    by_cases hji : j = i
    · subst hji; exact hy.wpOp hi hS ⟨fun _ => hS, H⟩
    · have := ready_mono hj hji
      rw [H.1] at this
      cases this
  | succ f ih =>
    intro l a w inv hfree hr hy hS H
    refine ⟨fun h => (by rw [h] at hr; cases hr), fun j hj => ?_⟩
    by_cases hji : j = i
    · subst hji; exact hy.wpOp hi hS ⟨fun _ => hS, H⟩
    · have h1 := H.2 j (ready_mono hj hji)
      have hjn : j < n := by
        rcases Nat.lt_or_ge j n with h | h
        · exact h
        · exact absurd hj (tail_waits hs hc hn inv _ i rfl hin (mem_ready.1 hr).1 j h)
      obtain ⟨hjun, oj, hoj, hall⟩ := mem_ready.1 hj
      have hnot : ∀ e ∈ oj.after, Region.binds md e = true → e.on ≠ i := fun e he hb heq => by
        have h1 := hall e he hb
        rw [heq, getD_both (mem_ready.1 hr).1] at h1
        cases h1
      have h2 := wpOp_putX hoj (hfree j oj hoj hji hjun hnot) (fun cs b => hsel i oi cs b hi) (fun cs b => hsel j oj cs b hoj) hQ hy h1
      refine wpOp_mono (fun a' w' h3 => ⟨h3.2.1, ih (l.setIfInBounds j true) a' w' (inv.set hj hjn) ?_ (ready_mono hr (Ne.symm hji)) h3.1 (h3.2.1 hjn) ?_⟩) h2
      · intro k ok hk hki hun hno
        refine hfree k ok hk hki ?_ hno
        by_cases hjk : j = k
        · subst hjk; exact hjun
        · rw [getD_set_ne true hjk] at hun; exact hun
      · rw [Array.setIfInBounds_comm _ _ hji]
        exact h3.2.2

/-- the operations that are left, one by one -/
def wpRest (P : Program) (ops : Array Oper) (Q : Exit → Act → World → Prop) (S : World → Prop) (n : Nat) : List Nat → Act → World → Prop
  | [], a, w => Q .normal a w
  | k :: r, a, w => wpOp P ops Q k (fun a' w' => (k < n → S w') ∧ wpRest P ops Q S n r a' w') a w
def restB (md : Region.Mode) (ops : Array Oper) : List Nat → Array Bool → Bool
  | [], l => (Region.ready md ops l).isEmpty
  | k :: r, l => decide (Region.ready md ops l = [k]) && restB md ops r (l.setIfInBounds k true)
theorem wpAnyT_of_rest {n : Nat} : ∀ (r : List Nat) (l : Array Bool) (a : Act) (w : World), restB md ops r l = true → wpRest P ops Q S n r a w → wpAnyT P md ops Q S n r.length l a w
  | [], _, _, _, hB, h => ⟨by simpa [restB] using hB, h⟩
  | k :: r, l, a, w, hB, h => by
    simp only [restB, Bool.and_eq_true, decide_eq_true_eq] at hB
    refine ⟨fun h1 => (by rw [hB.1] at h1; cases h1), fun i hi => ?_⟩
    rw [hB.1] at hi
    have hik : i = k := by simpa using hi
    subst hik
    exact wpOp_mono (fun a' w' h' => ⟨h'.1, wpAnyT_of_rest r _ a' w' hB.2 h'.2⟩) h

/-- the operations that are taken first, in this order -/
def takeB (md : Region.Mode) (ops : Array Oper) (n : Nat) (r : List Nat) : List Nat → Array Bool → Bool
  | [], l => restB md ops r l
  | k :: t, l => (Region.ready md ops l).contains k && Region.free md ops l k && decide (k < n) && takeB md ops n r t (l.setIfInBounds k true)
def wpTake (P : Program) (ops : Array Oper) (S : World → Prop) (Lq : Act → Prop) : List Oper → Act → Prop
  | [], a => Lq a
  | o :: t, a => ∃ v, YieldsX P ops S o v a ∧ wpTake P ops S Lq t (a.put o.dst v)

theorem wpAnyT_of_take {n : Nat} {r : List Nat} (hsel : Region.noSelect ops = true) (hs : Region.sinkB md ops n = true) (hc : Region.chainB md ops n = true) (hn : n < ops.size) (hQ : ∀ c a w, ¬ Q (.panic c) a w) (w : World) (hS : S w) :
    ∀ (t : List Nat) (l : Array Bool) (a : Act), HeadInv md ops n l → takeB md ops n r t l = true → wpTake P ops S (fun a' => wpRest P ops Q S n r a' w) (t.map fun k => ops.getD k default) a → wpAnyT P md ops Q S n (t.length + r.length) l a w
  | [], l, a, _, hB, h => by simpa using wpAnyT_of_rest (P := P) (Q := Q) (S := S) (n := n) r l a w hB h
  | k :: t, l, a, inv, hB, h => by
    simp only [takeB, Bool.and_eq_true, decide_eq_true_eq] at hB
    obtain ⟨⟨⟨hr, hf⟩, hkn⟩, hB'⟩ := hB
    obtain ⟨v, hy, hK⟩ := h
    have hr' : k ∈ Region.ready md ops l := by simpa using hr
    have hk : ops[k]? = some (ops.getD k default) := by
      have : k < ops.size := by omega
      simp [Array.getD, this]
    rw [show (k :: t).length + r.length = t.length + r.length + 1 by simp; omega]
    exact takeT_first hk (Region.noSelect_spec hsel) hs hc hn hkn (fun c a w h => absurd h (hQ c _ w)) _ l a w inv (Region.free_spec hk hf) hr' hy hS
      (wpAnyT_of_take hsel hs hc hn hQ w hS t _ _ (inv.set hr' hkn) hB' hK)

def regionB (md : Region.Mode) (ops : Array Oper) (n : Nat) (t r : List Nat) : Bool :=
  Region.noSelect ops && decide (n < ops.size) && Region.sinkB md ops n && Region.chainB md ops n && decide (t.length + r.length = ops.size) && takeB md ops n r t (Array.replicate ops.size false)

/-- A REGION THAT DRAWS ITS ORDER: the operations t (all below n) only read, in every world of the class S; the others, r, are forced into one row once those have come up; those of r below n keep the class; n waits for all below it. -/
theorem wp_region_take {id : Nat} {a : Act} {w : World} {l : List Oper} (S : World → Prop) (n : Nat) (t r : List Nat) (hm : P.follows .mixedOrders = true) (hB : regionB .any l.toArray n t r = true) (hS : S w.drew)
    (h : wpTake P l.toArray S (fun a' => wpRest P l.toArray (NoPanic Q) S n r a' w.drew) (t.map fun k => l.toArray.getD k default) a) : (Code.region id l.toArray true).wp P Q a w := by
  simp only [regionB, Bool.and_eq_true, decide_eq_true_eq] at hB
  obtain ⟨⟨⟨⟨⟨hsel, hn⟩, hs⟩, hc⟩, hlen⟩, hB⟩ := hB
  refine wp_region_noPanic (wp_region_any hm (wpAny_of_T (S := S) (n := n) _ _ _ _ ?_))
  rw [← hlen]
  have inv0 : HeadInv .any l.toArray n (Array.replicate l.toArray.size false) :=
    ⟨by simp, fun j oj _ hl => (by rw [getD_replicate_false] at hl; cases hl), fun t _ ht => getD_in (by simpa using ht) (getD_replicate_false _ _)⟩
  have := wpAnyT_of_take (Q := NoPanic Q) (r := r) hsel hs hc hn (fun c a w h => h) w.drew hS t _ a inv0 (by rw [hlen] at *; exact hB) h
  rw [hlen] at *
  exact this

/-- one operation of those that are left, by the laws of a list -/
def afterS (Q : Exit → Act → World → Prop) (n k : Nat) (S : World → Prop) (next : Act → World → Prop) : Exit → Act → World → Prop
  | .normal, a, w => (k < n → S w) ∧ next a w
  | e, a, w => Q e a w
theorem wpRest_cons {n k : Nat} {r : List Nat} {o : Oper} {a : Act} {w : World} (ho : ops[k]? = some o) (h : wpList P ops (afterS (NoPanic Q) n k S (wpRest P ops (NoPanic Q) S n r)) [o] a w) : wpRest P ops (NoPanic Q) S n (k :: r) a w := by
  have hl : LetsOut (afterS (NoPanic Q) n k S (wpRest P ops (NoPanic Q) S n r)) = LetsOut (NoPanic Q) := rfl
  unfold wpRest wpOp
  simp only [ho]
  unfold wpList at h
  split at h
  · rename_i hw
    rw [if_pos hw]
    rw [hl] at h
    refine h.imp (fun h => ?_) id
    unfold Oper.wp at *
    generalize (execOp a.eval o).run P w = x at *
    cases x with
    | ok m w' =>
      cases m <;> simp only [Oper.upon] at h ⊢
      case value => exact h
      case skip => exact h
      case defer => exact h
      case enter f args =>
        refine Calls.mono h fun e w'' he => ?_
        cases e with
        | returned u => exact he
        | panicked c => exact he
        | outgrown => exact he
      case row => exact Rows.mono h fun _ _ h => h
    | halt x w' =>
      cases x <;> simp only [Oper.upon] at h ⊢
      case panic => exact h
  · rename_i hw
    rw [if_neg hw]
    exact h
/-- when none is left that the class must outlive, the rest is a list -/
theorem wpRest_list {n : Nat} : ∀ (r : List Nat) (a : Act) (w : World), (∀ k ∈ r, n ≤ k ∧ k < ops.size) → wpList P ops (NoPanic Q) (r.map fun k => ops.getD k default) a w → wpRest P ops (NoPanic Q) S n r a w
  | [], _, _, _, h => h
  | k :: r, a, w, hk, h => by
    have h1 := hk k (by simp)
    have ho : ops[k]? = some (ops.getD k default) := by simp [Array.getD, h1.2]
    unfold wpRest wpOp
    simp only [ho]
    simp only [List.map_cons] at h
    unfold wpList at h
    split at h
    · rename_i hw
      rw [if_pos hw]
      exact h.imp (fun h => Oper.wp_mono (fun a' w' h' => ⟨fun h2 => absurd h2 (by omega), wpRest_list r a' w' (fun k hk' => hk k (by simp [hk'])) h'⟩) h) id
    · rename_i hw
      rw [if_neg hw]
      exact ⟨fun h2 => absurd h2 (by omega), wpRest_list r _ _ (fun k hk' => hk k (by simp [hk'])) h⟩

/-- an operation that hands on a value, and is no call -/
def plainOp : Op → Bool
  | .move _ | .assign _ | .load _ _ | .fieldAddr _ _ _ | .indexAddr _ _ _ | .binOp _ _ _ _ _ | .unOp _ _ _ | .convert _ _ _ | .slice _ _ _ _ _ | .build _ _ | .field _ _ _ | .extract _ _ | .nilCheck _ => true
  | .call { callee := .builtin .len, .. } | .call { callee := .builtin .min, .. } | .call { callee := .builtin .max, .. } => true
  | _ => false
/-- whatever it comes to, it comes to a value -/
def VOnly (P : Program) (s : Sem Next) : Prop := ∀ w w' m, s.run P w = .ok m w' → ∃ v, m = .value v
theorem vonly_pure (v : Value) : VOnly P (pure (.value v)) := fun w w' m h => by
  rw [Sem.run_pure] at h; injection h with h; exact ⟨_, h.symm⟩
theorem vonly_bind {α : Type} {s : Sem α} {f : α → Sem Next} (h : ∀ x, VOnly P (f x)) : VOnly P (s >>= f) := fun w w' m hr => by
  rw [Sem.run_bind] at hr
  generalize s.run P w = x at hr
  cases x with
  | ok v w1 => exact h v w1 w' m hr
  | halt x w1 => simp [Result.andThen] at hr
theorem vonly_halt {s : Sem Next} (h : ∀ w, ∃ x w', s.run P w = .halt x w') : VOnly P s := fun w w' m hr => by
  obtain ⟨x, w1, e⟩ := h w
  rw [e] at hr; cases hr
theorem vonly_panic {e : RuntimeError} : VOnly P (runtimePanic e) := by
  unfold runtimePanic
  repeat (first | refine vonly_bind fun _ => ?_ | split | exact vonly_halt fun w => ⟨_, _, rfl⟩ | dsimp only)
theorem vonly_op {ρ : Operand → Value} {o : Oper} (h : plainOp o.op = true) : VOnly P (execOp ρ o) := by
  unfold execOp
  generalize o.op = op at *
  cases op <;> first | exact absurd h Bool.false_ne_true | exact vonly_pure _ | exact vonly_bind fun _ => vonly_pure _ | skip
  case call c =>
    obtain ⟨callee, args, at_⟩ := c
    cases callee with
    | builtin b =>
      intro w w' m hr
      cases b <;> first | exact absurd h Bool.false_ne_true | (simp only [resolve, Sem.run_bind, Sem.run_pure, Result.andThen_ok, invoke, builtin] at hr; exact vonly_bind (P := P) (fun _ => vonly_pure _) w w' m (by rw [Sem.run_bind]; exact hr))
    | _ => exact absurd h Bool.false_ne_true
  case nilCheck x =>
    dsimp only
    split
    · exact vonly_panic
    · exact vonly_panic
    · exact vonly_panic
    · split
      · exact vonly_panic
      · refine vonly_bind fun _ => vonly_bind fun _ => ?_
        split
        · exact vonly_bind fun _ => vonly_pure _
        · exact vonly_pure _
      · exact vonly_pure _
    · exact vonly_pure _
theorem plain_value {ρ : Operand → Value} {o : Oper} (h : plainOp o.op = true) {w w' : World} {m : Next} (hr : (execOp ρ o).run P w = .ok m w') : ∃ v, m = .value v := vonly_op h w w' m hr
theorem yieldsIf_of_quiet {o : Oper} {v : Value} {a : Act} (hp : plainOp o.op = true) (h : ∀ w, S w → o.quietAt P a S w v) (w : World) (hw : S w) : (execOp a.eval o).run P w = .ok (.value v) w := by
  have h1 := h w hw
  unfold Oper.quietAt at h1
  generalize hr : (execOp a.eval o).run P w = x at *
  cases x with
  | ok m w' =>
    obtain ⟨u, rfl⟩ := plain_value hp hr
    simp only [Oper.quietUpon] at h1
    rw [h1.1, h1.2]
  | halt x w' => simp only [Oper.quietUpon] at h1
theorem yieldsX_of_run {o : Oper} {v : Value} {a : Act} {w : World} (h : (execOp a.eval o).run P w = .ok (.value v) w) : o.quietAt P a (fun w' => w' = w) w v := by
  unfold Oper.quietAt
  rw [h]
  exact ⟨rfl, rfl⟩
theorem wpTake_of_quiet {Lq : Act → Prop} : ∀ (l : List Oper) (a : Act), (l.all fun o => plainOp o.op) = true → wpQuiet P ops S Lq l a → wpTake P ops S Lq l a
  | [], _, _, h => h
  | o :: l, a, hp, h => by
    simp only [List.all_cons, Bool.and_eq_true] at hp
    unfold wpQuiet at h
    split at h
    · rename_i hw
      obtain ⟨v, h1, h2⟩ := h
      exact ⟨v, .inl ⟨hw, fun w' hw' => yieldsX_of_run (yieldsIf_of_quiet hp.1 h1 w' hw')⟩, wpTake_of_quiet l _ hp.2 h2⟩
    · rename_i hw
      exact ⟨undef, .inr ⟨by simpa using hw, rfl⟩, wpTake_of_quiet l _ hp.2 h⟩
theorem wpTake_append {Lq : Act → Prop} (l2 : List Oper) : ∀ (l : List Oper) (a : Act), wpTake P ops S (fun a' => wpTake P ops S Lq l2 a') l a → wpTake P ops S Lq (l ++ l2) a
  | [], _, h => h
  | _ :: l, _, ⟨v, h1, h2⟩ => ⟨v, h1, wpTake_append l2 l _ h2⟩
/-- the first m of those that are taken: walked as a row -/
theorem wpTake_seg {Lq : Act → Prop} {l : List Oper} {a : Act} (m : Nat) (hp : ((l.take m).all fun o => plainOp o.op) = true) (h : wpQuiet P ops S (fun a' => wpTake P ops S Lq (l.drop m) a') (l.take m) a) : wpTake P ops S Lq l a := by
  have := wpTake_append (Lq := Lq) (l.drop m) (l.take m) a (wpTake_of_quiet _ _ hp h)
  rwa [List.take_append_drop] at this
/-- a call that leaves the world alone -/
theorem wpTake_call {Lq : Act → Prop} {o : Oper} {l : List Oper} {a : Act} (hw : Region.wanted o (yielded ops a.tmps) = true) (f : FuncId) (args : Array Value) (v : Value)
    (h : ∀ w, S w → (execOp a.eval o).run P w = .ok (.enter f args) w) (hc : ∀ w, S w → Calls P f args w fun e w' => e = .returned v ∧ w' = w) (hk : wpTake P ops S Lq l (a.put o.dst v)) : wpTake P ops S Lq (o :: l) a :=
  ⟨v, .inl ⟨hw, fun w hS => by unfold Oper.quietAt; rw [h w hS]; exact ⟨rfl, hc w hS⟩⟩, hk⟩
theorem wpTake_val {Lq : Act → Prop} {o : Oper} {l : List Oper} {a : Act} (hw : Region.wanted o (yielded ops a.tmps) = true) (v : Value) (h : ∀ w, S w → (execOp a.eval o).run P w = .ok (.value v) w) (hk : wpTake P ops S Lq l (a.put o.dst v)) : wpTake P ops S Lq (o :: l) a :=
  ⟨v, .inl ⟨hw, fun w hS => yieldsX_of_run (h w hS)⟩, hk⟩
theorem wpTake_nil {Lq : Act → Prop} {a : Act} (h : Lq a) : wpTake P ops S Lq [] a := h
end
end Go.Proofs.Ytjhnkpohdlilpaa
