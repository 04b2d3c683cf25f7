/-
  A pending write appended.
-/
import Derived.Deep.AppendLies
import Derived.Great.BuildSlice
import Derived.Test.YtjhnkpohdlilpaaDiskLem
import Derived.Test.YtjhnkpohdlilpaaRead
import Derived.Test.YtjhnkpohdlilpaaOut
import Derived.Test.YtjhnkpohdlilpaaDiskSmall
import Derived.Test.YtjhnkpohdlilpaaDisk
import Derived.Test.YtjhnkpohdlilpaaAtom
import Derived.Test.YtjhnkpohdlilpaaDecode
import Derived.Test.YtjhnkpohdlilpaaEncode
import Derived.Test.YtjhnkpohdlilpaaTake
import Derived.Test.YtjhnkpohdlilpaaCopy
import Derived.Laws.CopyOwn
import Derived.Deep.OwnRows
import Derived.Deep.MidRow
import Derived.Test.YtjhnkpohdlilpaaPut
import Derived.Test.YtjhnkpohdlilpaaRows
import Derived.Test.YtjhnkpohdlilpaaWords
import Derived.Test.YtjhnkpohdlilpaaMem
import Derived.Test.YtjhnkpohdlilpaaTail
import Derived.Test.YtjhnkpohdlilpaaCrc
import Derived.Test.YtjhnkpohdlilpaaArr
import Derived.RangeFuncNested
import Derived.RangeFuncBound
import Derived.RangeFuncCalls
import Derived.RangeFuncLeaves
import Derived.Shelf.Abstract
import Derived.Shelf.RegionOpen
import Derived.WalkKit
import Derived.OwnWalkIn
import Derived.TacticsInMore
import Derived.LoopNIn
import Derived.LoopIn
import Derived.WalkSpells
import Derived.WalkLawsBesides
import Derived.Lib.Hide
import Derived.BigQuiet
import Derived.Outline
import Derived.Deep.DeepFit
namespace Go.Proofs.Ytjhnkpohdlilpaa
open Go.RowKit Go.Shelf
attribute [local go_sem] Oper.semAt_some
@[go_sem] theorem build83 (w : World) (k : Int) (b : Sec) : (Instr.buildSlice 59 1 #[(0, Value.agg (warr k b))]).run Try.prog w = .ok (.slice (some ⟨w.heap.size, 0, none⟩) 1 1) (w.alloc (.cells (warr k b) 83)) := by
  cases hi : Try.prog.info? 83 with
  | none => exact absurd (congrArg (Option.map (·.size)) hi) (by rw [inf83]; simp)
  | some ie =>
    have h1 : ie.size = 65 := by have := inf83; rw [hi] at this; simpa using this
    have hz : ie.zero = some (.agg (warr 0 (fun _ => 0))) := by
      have h : (Try.prog.info? 83).map (·.zero) = some (some (.agg (warr 0 (fun _ => 0)))) := by kernel_rfl
      rw [hi] at h; simpa using h
    refine run_buildSlice w 59 83 1 _ (warr k b) ie _ Try.underlying59 hi hz (by rw [h1]; decide) (by rw [h1]; decide) ?_
    rw [h1]
    kernel_rfl
theorem run_exec_buildSlice {P : Program} {o : Oper} {a : Act} {w w' : World} (t : TypeId) (len : Nat) (parts : Array (Nat × Operand)) (ho : o.op = .buildSlice t len parts) (ps : Array (Nat × Value)) (hps : (parts.map fun (i, x) => (i, a.eval x)) = ps) (u : Value) (h : (Instr.buildSlice t len ps).run P w = .ok u w') : (execOp a.eval o).run P w = .ok (.value u) w' := by
  unfold execOp
  simp only [ho, hps, Sem.run_bind, h, Result.andThen_ok, Sem.run_pure]
theorem wpList_run {P : Program} {ops : Array Oper} {rest : List Oper} {o : Oper} {a : Act} {w w' : World} {Q : Exit → Act → World → Prop} (hg : o.guard = none) (u : Value) (h : (execOp a.eval o).run P w = .ok (.value u) w') (hk : wpList P ops Q rest (a.put o.dst u) w') : wpList P ops Q (o :: rest) a w :=
  wpList_plain hg fun _ hK => by
    unfold Oper.wp
    rw [h]
    exact hK _ _ hk
theorem info83 : (Try.prog.info? 83).map (fun i => (i.zero, i.size, i.bytes)) = some (some (.agg (warr 0 (fun _ => 0))), 65, 72) := by kernel_rfl
/-- 'append(d.pending, w)' -/
theorem wpList_append_pend {ops : Array Oper} {rest : List Oper} {o : Oper} {a : Act} {w : World} {Q : Exit → Act → World → Prop} (hgd : o.guard = none) (s x : Operand) (ho : o.op = .call { callee := .builtin .append, args := #[s, x], argTypes := #[59, 59] })
    (v : Value) (n : Nat) (xs : List Value) (hs : a.eval s = v) (hown : w.ownsRow 0 83 65 v n xs) (A : Nat) (k : Int) (b : Sec) (hA : Blk w A 83 (warr k b)) (hx : a.eval x = .slice (some ⟨A, 0, none⟩) 1 1) (hn : n ≤ 1099511627776)
    (next : ∀ v' w', w'.ownsRow 0 83 65 v' (n + 1) (xs ++ (warr k b).toList) → Ch (fun i => v.ownBlock = some i) w w' → (∀ i, v'.ownBlock = some i → v.ownBlock = some i ∨ w.heap.size ≤ i) → wpList Try.prog ops Q rest (a.put o.dst v') w') : wpList Try.prog ops Q (o :: rest) a w := by
  obtain ⟨i0, hi, hz0, hz1, hz2⟩ := info_parts info83
  refine wpList_append_lies _ hgd s x 59 ho 0 83 i0 _ 65 72 Try.underlying59 hi hz0 hz1 hz2 (warr_size _ _) (by omega) v n xs hs hown ⟨A, 0, none⟩ 1 1 (warr k b).toList hx (by rw [Array.length_toList, warr_size]) (World.news_of_block hA)
    (fun u hu => (Array.all_eq_true_iff_forall_mem.1 (warr_one k b)) u (by simpa using hu)) (by omega) (by unfold maxLen; omega) (by omega) (Nat.zero_le _) _ rfl ?_
  intro g cap w' h1 h2 h3 h4
  refine next _ w' h1 ⟨h2.os, h2.tape, h2.output, h2.size, fun k hk hn => h2.block k hk (fun e => hn e.symm)⟩ ?_
  intro i hi'
  have : g = i := by simpa [Value.ownBlock] using hi'
  subst this
  exact h3.imp id (fun e => by omega)
end Go.Proofs.Ytjhnkpohdlilpaa
