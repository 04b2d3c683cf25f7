/-
  The iterator '(*Hash).blocks$1': for every loop body that keeps its word.
-/
import Derived.Test.YtnnffibnonkocaaDoorRows
import Derived.Test.YtnnffibnonkocaaDoorBlock
import Derived.Test.YtnnffibnonkocaaDoorCopyLaw
import Derived.RangeFuncNested
import Derived.RangeFuncBound
import Derived.RangeFuncCalls
import Derived.RangeFuncLeaves
import Derived.Shelf.Abstract
import Derived.Shelf.RegionOpen
import Derived.WalkKit
import Derived.OwnWalkIn
import Derived.TacticsInMore
import Derived.LoopNIn
import Derived.LoopIn
import Derived.WalkSpells
import Derived.WalkLawsBesides
import Derived.Lib.Hide
import Derived.BigQuiet
namespace Go.Proofs.YtnnffibnonkocaaDoor
open Go.RowKit Go.Shelf
attribute [local go_sem] Oper.semAt_some
/-- bytes that a slice value's address leads to, clear of blocks X -/
def Src (X : Nat → Prop) (w : World) (a : Option Addr) (ys : List (BitVec 8)) : Prop :=
  ys ≠ [] → ∃ ob off, a = some ⟨ob, off, none⟩ ∧ ¬ X ob ∧ ∀ j y, ys[j]? = some y → w.cell? ⟨ob, off + j, none⟩ = some (U8 y)

theorem Src.ch {X S : Nat → Prop} {w w' : World} {a : Option Addr} {ys : List (BitVec 8)} (h : Src X w a ys) (hch : Ch S w w') (hs : ∀ i, S i → X i) : Src X w' a ys := fun hne => by
  obtain ⟨ob, off, rfl, hx, hc⟩ := h hne
  exact ⟨ob, off, rfl, hx, fun j y hy => hch.cell (hc j y hy) (fun e => hx (hs _ e))⟩
/-- how long the slice in a box is -/
def boxLen (w : World) (bb : Nat) : Nat := match w.cell? ⟨bb, 0, none⟩ with
  | some (.slice _ n _) => n
  | _ => 0
theorem boxLen_eq {w : World} {bb n c : Nat} {t : TypeId} {a : Option Addr} (h : Blk w bb t #[.slice a n c]) : boxLen w bb = n := by
  have := h.cell (j := 0) (v := .slice a n c) rfl
  unfold boxLen; rw [this]

set_option maxHeartbeats 1000000 in
set_option maxRecDepth 100000 in
theorem blocks1_any {n : Nat} (l bb bh B : Nat) (xs : List (BitVec 8)) (a0 : Option Addr) (c0 : Nat) (s0 : HS) (W : World) (J : World → Prop)
   (hJ : ∀ W W', J W → Ch (fun i => i = B ∨ i = bb) W W' → J W')
   (hY : ∀ W h o m, J W → Blk W B 50 (hArr h o m) → YieldAt Fence.wide (n - 1) Tryd.prog l #[.slice (some ⟨B, 8, none⟩) 64 64] W fun e W' =>
      e = .returned (.bool true) ∧ J W' ∧ Blk W' B 50 (hArr (compress h o) o m) ∧ Ch (fun i => i = B ∨ i = l) W W')
   (hd1 : bb ≠ bh) (hd2 : bb ≠ B) (hd3 : bh ≠ B) (hd4 : l ≠ bb) (hd5 : l ≠ bh) (hd6 : l ≠ B)
   (hbb : Blk W bb 22 #[.slice a0 xs.length c0]) (hbh : Blk W bh 32 #[.pointer (some ⟨B, 0, none⟩)]) (hB : Blk W B 50 (hArr s0.h s0.o s0.n)) (hc0 : xs.length ≤ c0)
   (hs : Src (fun i => i = B ∨ i = bb ∨ i = l) W a0 xs) (hn : s0.n + xs.length ≤ 4611686018427387904) (hJ0 : J W) :
   CallsIn Fence.wide n Tryd.prog 23 #[.func (.yield l) #[] #[], .pointer (some ⟨bb, 0, none⟩), .pointer (some ⟨bh, 0, none⟩)] W fun e W' =>
     (∃ v, e = .returned v) ∧ J W' ∧ Blk W' B 50 (hArr (s0.write xs).h (s0.write xs).o (s0.write xs).n) ∧ Ch (fun i => i = B ∨ i = bb ∨ i = l) W W' := by
  refine callsIn_of_wp Tryd.func23 rfl trivial ?_ rfl
  simp only [Tryd.ntmps23, List.size_toArray, List.length_cons, List.length_nil, Nat.reduceAdd, Nat.reduceSub, Array.replicate_succ, Array.replicate_zero, List.push_toArray, List.append_toArray, List.nil_append, List.cons_append]
  have HJ := Lib.hid hJ
  have HY := Lib.hid hY
  clear hJ hY
  gi_wp2
  gi_loopw [] (fun wr => ∃ (pre ys : List (BitVec 8)) (a : Option Addr) (c : Nat), xs = pre ++ ys ∧ Blk wr bb 22 #[.slice a ys.length c] ∧ ys.length ≤ c ∧ Src (fun i => i = B ∨ i = bb ∨ i = l) wr a ys ∧
      Blk wr B 50 (hArr (s0.write pre).h (s0.write pre).o (s0.write pre).n) ∧ Ch (fun i => i = B ∨ i = bb ∨ i = l) W wr ∧ J wr) (fun wr => boxLen wr bb)
  case atStart => exact ⟨[], xs, a0, c0, rfl, hbb, hc0, hs, hB, Ch.refl _ _, hJ0⟩
  case round =>
    obtain ⟨pre, ys, a, c, hx, hbb1, hc1, hs1, hB1, hch1, hJ1⟩ := hrel
    have HX := Lib.hid hx
    clear hx
    have cb : wr.cell? ⟨bb, 0, none⟩ = some (.slice a ys.length c) := hbb1.cell rfl
    have hbbw := Lib.hid hbb1
    by_cases hz : ys = []
    · subst hz
      simp only [List.length_nil] at cb
      gi_wp2
      go_end0
      obtain rfl : xs = pre := by rw [HX.out]; simp
      exact ⟨⟨_, rfl⟩, hJ1, hB1, hch1⟩
    · obtain ⟨s, hs⟩ : ∃ s, s = s0.write pre := ⟨_, rfl⟩
      have hN : s.n = s0.n + pre.length := by rw [hs, HS.write_n]
      rw [← hs] at hB1
      have hpos : 0 < ys.length := List.length_pos_iff.2 hz
      have hle : s.n + ys.length ≤ 4611686018427387904 := by have h' := HX.out; have : xs.length = pre.length + ys.length := by rw [h', List.length_append]
                                                             omega
      have HSq := Lib.hid hs
      have HN := Lib.hid hN
      clear hs hN hn
      have hbh1 : Blk wr bh 32 #[.pointer (some ⟨B, 0, none⟩)] := hch1.blk hbh (fun e => by rcases e with e | e | e; exact hd3 e; exact hd1 e.symm; exact hd5 e.symm)
      have ch : wr.cell? ⟨bh, 0, none⟩ = some (.pointer (some ⟨B, 0, none⟩)) := hbh1.cell rfl
      have cn := hB1.manyAt
      have gpos : (0 : Int) < ys.length := by omega
      have gn : (0 : Int) ≤ s.n := by omega
      obtain ⟨p, hp⟩ : ∃ p, p = s.n % 64 := ⟨_, rfl⟩
      have ep : (s.n : Int) % 64 = (p : Int) := by omega
      have lp : p < 64 := by omega
      have HP := Lib.hid hp
      clear hp
      have lp1 : (p : Int) ≤ 64 := by omega
      have lp2 : ¬ 64 = p := by omega
      have lp3 : (64 : Int) - p = ((64 - p : Nat) : Int) := by omega
      have HE := Lib.hid ep
      clear ep
      gi_wp2
      rw [HE.out]
      refine wpIn_wide.2 ?_
      refine wp_region_quiet_tail 6 (by kernel_rfl) (by kernel_rfl) ?_
      simp only [List.take_succ_cons, List.take_zero, List.drop_succ_cons, List.drop_zero]
      repeat (go_big_quiet_step (fail))
      refine wpQuiet_nil ?_
      intro _ hw'
      obtain ⟨nq, hw''⟩ := hw'
      subst hw''
      obtain ⟨k, hk1, hk2, hk3, hk4⟩ : ∃ k, k ≤ ys.length ∧ k ≤ 64 - p ∧ 0 < k ∧ k = Nat.min ys.length (64 - p) :=
        ⟨Nat.min ys.length (64 - p), Nat.min_le_left _ _, Nat.min_le_right _ _, Nat.lt_min.2 ⟨hpos, by omega⟩, rfl⟩
      obtain ⟨ob, off, rfl, hX, hsrc⟩ := hs1 hz
      have hlk : (ys.take k).length = k := by rw [List.length_take]; omega
      refine wpList_copy_hash rfl (.tmp 18) (.tmp 19) 22 22 rfl 5 Tryd.underlying22 (by kernel_rfl) B p (64 - p) (64 - p) ⟨ob, off, none⟩ ys.length c rfl rfl s.h s.o s.n 50 (hB1.drewN nq) (ys.take k) (by rw [hlk]; exact hk4) ?_ (by rw [hlk]; omega) ?_
      · intro j y hj
        rw [List.getElem?_take] at hj
        split at hj
        · rw [addr_add]; exact hsrc j y hj
        · cases hj
      intro w2 hB2 hch2
      rw [hlk]
      have hJ2 : J w2 := HJ.out _ _ hJ1 ((Ch.refl _ wr |>.drewN nq).trans hch2 (fun i _ e => Or.inl e))
      have hbb2 : Blk w2 bb 22 #[.slice (some ⟨ob, off, none⟩) ys.length c] := hch2.blk (hbb1.drewN nq) hd2
      have hbh2 : Blk w2 bh 32 #[.pointer (some ⟨B, 0, none⟩)] := hch2.blk (hbh1.drewN nq) hd3
      have hsrc2 : ∀ j y, ys[j]? = some y → w2.cell? ⟨ob, off + j, none⟩ = some (U8 y) := fun j y hy => hch2.cell (a := wr.drewN nq) (hsrc j y hy) (fun e => hX (Or.inl e))
      have hchw : Ch (fun i => i = B ∨ i = bb ∨ i = l) W w2 := (hch1.drewN nq).trans hch2 (fun i _ e => Or.inl e)
      clear hbb1 hbh1 hsrc hch1 hJ1 hs1 hB1 hch2 cb ch cn
      have HK4 := Lib.hid hk4
      have HLK := Lib.hid hlk
      clear hk4 hlk
      have cb : w2.cell? ⟨bb, 0, none⟩ = some (.slice (some ⟨ob, off, none⟩) ys.length c) := hbb2.cell rfl
      have fb := hbb2.free 0
      have ch : w2.cell? ⟨bh, 0, none⟩ = some (.pointer (some ⟨B, 0, none⟩)) := hbh2.cell rfl
      have cn := hB2.manyAt
      have fn := hB2.free 72
      have gk0 : (0 : Int) ≤ k := by omega
      have gk1 : (k : Int) ≤ ys.length := by omega
      have gk2 : (s.n : Int) + k ≤ 4611686018427387904 := by omega
      -- the world behind the two stores
      have facts : ∀ (v : Value) (a' : Option Addr) (c' : Nat) (w3 : World), v = .slice a' (ys.length - k) c' → ys.length - k ≤ c' → (0 < ys.length - k → a' = some ⟨ob, off + k, none⟩) →
          w3 = (w2.setCell ⟨bb, 0, none⟩ v).setCell ⟨B, 72, none⟩ (.int .i64 ((s.n : Int) + k)) →
          Blk w3 bb 22 #[.slice a' (ys.drop k).length c'] ∧ Src (fun i => i = B ∨ i = bb ∨ i = l) w3 a' (ys.drop k) ∧
          Blk w3 B 50 (hArr s.h (over s.o p (ys.take k)) (s.n + k)) ∧ Ch (fun i => i = B ∨ i = bb ∨ i = l) W w3 ∧ J w3 := by
        intro v a' c' w3 hv hc' ha' hw3
        subst hv hw3
        have hch3 : Ch (fun i => i = B ∨ i = bb) w2 ((w2.setCell ⟨bb, 0, none⟩ (.slice a' (ys.length - k) c')).setCell ⟨B, 72, none⟩ (.int .i64 ((s.n : Int) + k))) :=
          ((Ch.refl _ w2).set (p := ⟨bb, 0, none⟩) (Or.inr (Or.inr rfl)) _).set (p := ⟨B, 72, none⟩) (Or.inr (Or.inl rfl)) _
        refine ⟨?_, ?_, ?_, hchw.trans hch3 (fun i _ e => by rcases e with e | e; exact Or.inl e; exact Or.inr (Or.inl e)), HJ.out _ _ hJ2 hch3⟩
        · rw [List.length_drop]
          exact ((hbb2.set 0 (.slice a' (ys.length - k) c')).set_other (a := ⟨B, 72, none⟩) hd2.symm _)
        · intro hne
          have hl : 0 < ys.length - k := by
            have := List.length_pos_iff.2 hne
            rwa [List.length_drop] at this
          refine ⟨ob, off + k, ha' hl, hX, fun j y hy => ?_⟩
          rw [List.getElem?_drop] at hy
          have := hsrc2 (k + j) y hy
          rw [← Nat.add_assoc] at this
          exact hch3.cell this (fun e => hX (by rcases e with e | e; exact Or.inl e; exact Or.inr (Or.inl e)))
        · have := (hB2.set_other (a := ⟨bb, 0, none⟩) hd2 (.slice a' (ys.length - k) c')).set 72 (.int .i64 ((s.n + k : Nat) : Int))
          rw [hArr_set_n] at this
          rw [Int.natCast_add] at this
          exact this
      have hw : s.n % 64 + (ys.take k).length ≤ 64 := by rw [HLK.out, ← HP.out]; omega
      have hne : ys.take k ≠ [] := by intro e; have := HLK.out; rw [e] at this; simp at this; omega
      have hwr := HS.write_part s (ys.take k) hw hne
      rw [HLK.out, ← HP.out] at hwr
      have HW := Lib.hid hwr
      have HF := Lib.hid facts
      clear hwr facts hJ2 hchw hbb2 hbh2 hB2
      by_cases hck : c = k
      · obtain rfl : k = c := hck.symm
        obtain ⟨w3, hw3⟩ : ∃ w3, w3 = (w2.setCell ⟨bb, 0, none⟩ (.slice (some ⟨ob, off, none⟩) 0 0)).setCell ⟨B, 72, none⟩ (.int .i64 ((s.n : Int) + k)) := ⟨_, rfl⟩
        obtain ⟨q1, q2, q3, q4, q5⟩ := HF.out _ (some ⟨ob, off, none⟩) 0 w3 (by rw [show ys.length - k = 0 by omega]) (by omega) (fun h => absurd h (by omega)) hw3
        have HW3 := Lib.hid hw3
        clear hw3
        by_cases hm : (s.n + k) % 64 = 0
        · have em : ((s.n : Int) + k) % 64 = 0 := by omega
          go_wp2
          gi_wp2_with fail
          rw [← HW3.out]
          obtain ⟨fn, tmps, assign, body, hy, hR⟩ := HY.out w3 _ _ _ q5 q3
          rw [hy, Oper.uponIn_round]
          refine ⟨fun h => (by cases h), hR.mono ?_⟩
          rintro e w4 ⟨rfl, r1, r2, r3⟩
          clear hy hR
          gi_wp2
          go_roundw
          case rel =>
            refine ⟨pre ++ ys.take k, ys.drop k, _, _, ?_, r3.blk q1 (fun e => by rcases e with e | e; exact hd2 e; exact hd4 e.symm), ?_, q2.ch r3 (fun i e => by rcases e with e | e; exact Or.inl e; exact Or.inr (Or.inr e)), ?_, q4.trans r3 (fun i _ e => by rcases e with e | e; exact Or.inl e; exact Or.inr (Or.inr e)), r1⟩
            · rw [HX.out, List.append_assoc, List.take_append_drop]
            · rw [List.length_drop]; omega
            · rw [HS.write_append, ← HSq.out, HW.out, if_pos hm]; exact r2
          case measure =>
            rw [boxLen_eq (r3.blk q1 (fun e => by rcases e with e | e; exact hd2 e; exact hd4 e.symm))]
            have := boxLen_eq (w := wr) (bb := bb) hbbw.out
            rw [this, List.length_drop]
            omega
        · have em : (((s.n : Int) + k) % 64 == 0) = false := by rw [beq_eq_false_iff_ne]; omega
          go_wp2
          gi_wp2
          rw [← HW3.out]
          refine ⟨fun _ h => (by cases h), ?_⟩
          gi_wp2
          go_roundw
          case rel =>
            refine ⟨pre ++ ys.take k, ys.drop k, _, _, ?_, q1, ?_, q2, ?_, q4, q5⟩
            · rw [HX.out, List.append_assoc, List.take_append_drop]
            · rw [List.length_drop]; omega
            · rw [HS.write_append, ← HSq.out, HW.out, if_neg hm]; exact q3
          case measure =>
            rw [boxLen_eq q1]
            have := boxLen_eq (w := wr) (bb := bb) hbbw.out
            rw [this, List.length_drop]
            omega
      · obtain ⟨w3, hw3⟩ : ∃ w3, w3 = (w2.setCell ⟨bb, 0, none⟩ (.slice (some ⟨ob, off + k, none⟩) (ys.length - k) (c - k))).setCell ⟨B, 72, none⟩ (.int .i64 ((s.n : Int) + k)) := ⟨_, rfl⟩
        obtain ⟨q1, q2, q3, q4, q5⟩ := HF.out _ _ _ w3 rfl (by omega) (fun _ => rfl) hw3
        have HW3 := Lib.hid hw3
        clear hw3
        by_cases hm : (s.n + k) % 64 = 0
        · have em : ((s.n : Int) + k) % 64 = 0 := by omega
          go_wp2
          gi_wp2_with fail
          rw [← HW3.out]
          obtain ⟨fn, tmps, assign, body, hy, hR⟩ := HY.out w3 _ _ _ q5 q3
          rw [hy, Oper.uponIn_round]
          refine ⟨fun h => (by cases h), hR.mono ?_⟩
          rintro e w4 ⟨rfl, r1, r2, r3⟩
          clear hy hR
          gi_wp2
          go_roundw
          case rel =>
            refine ⟨pre ++ ys.take k, ys.drop k, _, _, ?_, r3.blk q1 (fun e => by rcases e with e | e; exact hd2 e; exact hd4 e.symm), ?_, q2.ch r3 (fun i e => by rcases e with e | e; exact Or.inl e; exact Or.inr (Or.inr e)), ?_, q4.trans r3 (fun i _ e => by rcases e with e | e; exact Or.inl e; exact Or.inr (Or.inr e)), r1⟩
            · rw [HX.out, List.append_assoc, List.take_append_drop]
            · rw [List.length_drop]; omega
            · rw [HS.write_append, ← HSq.out, HW.out, if_pos hm]; exact r2
          case measure =>
            rw [boxLen_eq (r3.blk q1 (fun e => by rcases e with e | e; exact hd2 e; exact hd4 e.symm))]
            have := boxLen_eq (w := wr) (bb := bb) hbbw.out
            rw [this, List.length_drop]
            omega
        · have em : (((s.n : Int) + k) % 64 == 0) = false := by rw [beq_eq_false_iff_ne]; omega
          go_wp2
          gi_wp2
          rw [← HW3.out]
          refine ⟨fun _ h => (by cases h), ?_⟩
          gi_wp2
          go_roundw
          case rel =>
            refine ⟨pre ++ ys.take k, ys.drop k, _, _, ?_, q1, ?_, q2, ?_, q4, q5⟩
            · rw [HX.out, List.append_assoc, List.take_append_drop]
            · rw [List.length_drop]; omega
            · rw [HS.write_append, ← HSq.out, HW.out, if_neg hm]; exact q3
          case measure =>
            rw [boxLen_eq q1]
            have := boxLen_eq (w := wr) (bb := bb) hbbw.out
            rw [this, List.length_drop]
            omega
end Go.Proofs.YtnnffibnonkocaaDoor
