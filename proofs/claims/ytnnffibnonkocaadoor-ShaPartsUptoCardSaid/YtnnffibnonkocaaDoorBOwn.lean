/-
  Bytes that the call appends to.
-/
import Derived.Test.YtnnffibnonkocaaDoorRows
import Derived.Test.YtnnffibnonkocaaDoorShaSum
import Derived.Laws.AppendOwnNone
import Derived.OwnWalk
namespace Go.Proofs.YtnnffibnonkocaaDoor
open Go.RowKit
/-- bytes that a slice value made by the call owns, in a block from 'base' on -/
def BOwn (w : World) (base : Nat) (v : Value) (l : List (BitVec 8)) : Prop := w.ownsRow base 5 1 v l.length (l.map U8)

theorem BOwn.nil (w : World) (base : Nat) : BOwn w base (.slice none 0 0) [] := World.ownsRow_nil _ _ _ _
theorem BOwn.shape {w : World} {base : Nat} {v : Value} {l : List (BitVec 8)} (h : BOwn w base v l) :
    ∃ a0 c, v = .slice a0 l.length c ∧ l.length ≤ c ∧ (a0 = none → c = 0) ∧ Src (fun i => i < base) w a0 l := by
  rcases h.2 with ⟨rfl, hn⟩ | ⟨g, cap, cur, rfl, hb, hg, hle, hm, hs, ht⟩
  · obtain rfl : l = [] := List.eq_nil_of_length_eq_zero hn
    exact ⟨none, 0, rfl, Nat.le_refl _, fun _ => rfl, fun h => absurd rfl h⟩
  · refine ⟨some ⟨g, 0, none⟩, cap, rfl, hle, (fun e => by cases e), fun _ => ⟨g, 0, rfl, fun e => by omega, fun j y hj => ?_⟩⟩
    rw [Nat.zero_add]
    have hjl : j < l.length := (List.getElem?_eq_some_iff.1 hj).1
    have h1 : (cur.toList.take (l.length * 1))[j]? = some (U8 y) := by rw [ht, List.getElem?_map, hj]; rfl
    rw [List.getElem?_take_of_lt (by omega), Array.getElem?_toList] at h1
    simp [World.cell?, hg, h1]
theorem BOwn.ch {S : Nat → Prop} {w w' : World} {base : Nat} {v : Value} {l : List (BitVec 8)} (h : BOwn w base v l) (hc : Ch S w w') (hS : ∀ i, S i → i < base) : BOwn w' base v l := by
  refine ⟨h.1, ?_⟩
  rcases h.2 with hn | ⟨g, cap, cur, hv, hb, hg, rest⟩
  · exact Or.inl hn
  · exact Or.inr ⟨g, cap, cur, hv, hb, (hc.block g (Array.getElem?_eq_some_iff.1 hg).1 (fun e => by have := hS _ e; omega)).trans hg, rest⟩
theorem BOwn.ch' {S : Nat → Prop} {w w' : World} {base : Nat} {v : Value} {l : List (BitVec 8)} (h : BOwn w base v l) (hc : Ch S w w') (hS : ∀ i, v.ownBlock = some i → ¬ S i) : BOwn w' base v l := by
  refine ⟨h.1, ?_⟩
  rcases h.2 with hn | ⟨g, cap, cur, hv, hb, hg, rest⟩
  · exact Or.inl hn
  · exact Or.inr ⟨g, cap, cur, hv, hb, (hc.block g (Array.getElem?_eq_some_iff.1 hg).1 (hS g (by rw [hv]; rfl))).trans hg, rest⟩
theorem BOwn.made (w : World) : BOwn (w.alloc (.cells #[] 5)) w.heap.size (.slice (some ⟨w.heap.size, 0, none⟩) 0 0) [] :=
  ⟨rfl, Or.inr ⟨w.heap.size, 0, #[], rfl, Nat.le_refl _, heap_alloc_new w _, Nat.le_refl _, by unfold maxLen; omega, rfl, rfl⟩⟩
theorem BOwn.mono {w : World} {base base' : Nat} {v : Value} {l : List (BitVec 8)} (h : BOwn w base v l) (hb : base' ≤ base) : BOwn w base' v l := by
  refine ⟨h.1, ?_⟩
  rcases h.2 with hn | ⟨g, cap, cur, hv, hg, rest⟩
  · exact Or.inl hn
  · exact Or.inr ⟨g, cap, cur, hv, by omega, rest⟩

theorem info5 : (Tryd.prog.info? 5).map (fun i => (i.zero, i.size, i.bytes)) = some (some (.int .u8 0), 1, 1) := by kernel_rfl

/-- 's = append(s, x...)' of bytes -/
theorem wpList_append_bytes {ops : Array Oper} {rest : List Oper} {o : Oper} {a : Act} {w : World} {Q : Exit → Act → World → Prop} (hgd : o.guard = none) (s x : Operand)
    (ho : o.op = .call { callee := .builtin .append, args := #[s, x], argTypes := #[22, 22] }) (base : Nat) (v : Value) (l : List (BitVec 8)) (hs : a.eval s = v) (hown : BOwn w base v l)
    (ys : List (BitVec 8)) (a0 : Option Addr) (m c0 : Nat) (hx : a.eval x = .slice a0 m c0) (hm : m = ys.length) (hnil : a0 = none → c0 = 0) (hsrc : Src (fun _ => False) w a0 ys) (n : Nat) (hn : n = l.length + ys.length)
    (hb : n ≤ 140737488355328) (hbase : base ≤ w.heap.size)
    (h : ∀ a' c' w', BOwn w' base (.slice a' n c') (l ++ ys) → Ch (fun i => v.ownBlock = some i) w w' → wpList Tryd.prog ops Q rest (a.put o.dst (.slice a' n c')) w') : wpList Tryd.prog ops Q (o :: rest) a w := by
  obtain ⟨i0, hi, hz0, hz1, hz2⟩ := info_parts info5
  subst hm
  have hlen : (l ++ ys).length = n := by rw [List.length_append, hn]
  cases a0 with
  | none =>
    obtain rfl := hnil rfl
    have hys : ys = [] := by
      cases ys with
      | nil => rfl
      | cons y ys => obtain ⟨ob, off, e, _⟩ := hsrc (by simp); cases e
    subst hys
    obtain ⟨a1, c1, hv, _⟩ := hown.shape
    simp only [List.length_nil, Nat.add_zero] at hn
    subst hn
    refine wpList_append_own_none hgd s x 22 ho base 5 i0 1 Tryd.underlying22 hi v l.length (l.map U8) hs hown (by simpa using hx) ?_
    have := h a1 c1 w (by rw [List.append_nil, ← hv]; exact hown) (Ch.refl _ w)
    rw [← hv] at this
    exact this
  | some ad =>
    have hcell : ∀ j u, (ys.map U8)[j]? = some u → w.cell? (ad.add j) = some u := by
      intro j u hu
      rw [List.getElem?_map] at hu
      cases e : ys[j]? with
      | none => rw [e] at hu; cases hu
      | some y =>
        rw [e] at hu; cases hu
        obtain ⟨ob, off, he, _, hc⟩ := hsrc (by intro e'; subst e'; simp at e)
        cases he
        rw [addr_add]; exact hc j y e
    refine wpList_append_own w hgd s x 22 ho base 5 i0 (.int .u8 0) 1 1 Tryd.underlying22 hi hz0 hz1 hz2 rfl (by decide) v l.length (l.map U8) hs hown ad ys.length c0 (ys.map U8) hx (by simp) hcell ?_ (by unfold maxLen; omega) (by omega) hbase ?_
    · intro u hu; obtain ⟨y, _, rfl⟩ := List.mem_map.1 hu; rfl
    · intro v' w' hown' hgrow _
      have hown2 : BOwn w' base v' (l ++ ys) := by
        unfold BOwn
        rw [List.length_append, List.map_append]; exact hown'
      obtain ⟨a1, c1, hv, _⟩ := hown2.shape
      subst hv
      rw [hlen] at hown2
      have := h a1 c1 w' hown2 ((Ch.refl _ w).grown hgrow (fun k e => Or.inr e))
      rw [hlen]; exact this

/-- bytes in a block of their own, whatever its mark -/
theorem Src.fresh (w : World) (t : TypeId) (m : Nat × Nat) (xs : List (BitVec 8)) : Src (fun _ => False) (w.alloc (.cells (xs.map U8).toArray t m)) (some ⟨w.heap.size, 0, none⟩) xs := fun _ =>
  ⟨w.heap.size, 0, rfl, id, fun j y hy => by
    rw [Nat.zero_add]
    have h := heap_alloc_new w (.cells (xs.map U8).toArray t m)
    unfold World.cell?
    rw [h]
    show (xs.map U8).toArray[j]? = _
    rw [List.getElem?_toArray, List.getElem?_map, hy]; rfl⟩


/-- 's = append(s, x)' of one byte, just laid -/
theorem wpList_append_byte {ops : Array Oper} {rest : List Oper} {o : Oper} {a : Act} {w : World} {Q : Exit → Act → World → Prop} (hgd : o.guard = none) (s x : Operand)
    (ho : o.op = .call { callee := .builtin .append, args := #[s, x], argTypes := #[22, 22] }) (base : Nat) (v : Value) (l : List (BitVec 8)) (hs : a.eval s = v) (hown : BOwn w base v l)
    (y : BitVec 8) (val : Value) (hval : val = U8 y) (hx : a.eval x = .slice (some ⟨w.heap.size, 0, none⟩) 1 1) (n : Nat) (hn : n = l.length + 1)
    (hb : n ≤ 140737488355328) (hbase : base ≤ w.heap.size)
    (h : ∀ a' c' w', BOwn w' base (.slice a' n c') (l ++ [y]) → Ch (fun i => v.ownBlock = some i) w w' → wpList Tryd.prog ops Q rest (a.put o.dst (.slice a' n c')) w') :
    wpList Tryd.prog ops Q (o :: rest) a (w.alloc (.cells #[val] 5)) := by
  subst hval
  have hc : Ch (fun _ => False) w (w.alloc (.cells #[U8 y] 5)) := (Ch.refl _ w).alloc _
  refine wpList_append_bytes hgd s x ho base v l hs (hown.ch hc (fun _ e => e.elim)) [y] (some ⟨w.heap.size, 0, none⟩) 1 1 hx rfl (fun e => by cases e) (Src.fresh w 5 (0, 0) [y]) n hn hb (by rw [World.size_alloc]; omega) ?_
  intro a' c' w' h1 h2
  exact h a' c' w' h1 ((hc.mono (S' := fun i => v.ownBlock = some i) (fun _ _ e => e.elim)).trans h2 (fun _ _ e => e))
theorem BOwn.block_le {w : World} {base : Nat} {v : Value} {l : List (BitVec 8)} (h : BOwn w base v l) : ∀ i, v.ownBlock = some i → base ≤ i := by
  intro i hi
  rcases h.2 with ⟨rfl, _⟩ | ⟨g, cap, cur, rfl, hb, _⟩
  · cases hi
  · cases hi; exact hb
/-- the length of a slice value -/
def sliceLen : Value → Nat
  | .slice _ n _ => n
  | _ => 0
end Go.Proofs.YtnnffibnonkocaaDoor
