/-
  LogElder: for every input the law returns true.
-/
import Derived.Test.YtjhnkpohdlilpaaElderWalk
import Derived.Test.YtjhnkpohdlilpaaBackRow
import Derived.Test.YtjhnkpohdlilpaaBackWalk
import Derived.Test.YtjhnkpohdlilpaaFrame
import Derived.SliceStrings
import Derived.ProofKit
import Derived.SizedLaws
import Derived.Test.YtjhnkpohdlilpaaRoomWalk
import Derived.Test.YtjhnkpohdlilpaaPlainA
import Derived.Test.YtjhnkpohdlilpaaAwake
import Derived.Test.YtjhnkpohdlilpaaSys
import Derived.Test.YtjhnkpohdlilpaaAwakePlain
import Derived.Test.YtjhnkpohdlilpaaOpen
import Derived.Test.YtjhnkpohdlilpaaOpenMain
import Derived.Test.YtjhnkpohdlilpaaOpenBad
import Derived.Test.YtjhnkpohdlilpaaReadAll
import Derived.Test.YtjhnkpohdlilpaaReadLem
import Derived.Test.YtjhnkpohdlilpaaSteps
import Derived.Maps.AppendAt
import Derived.Laws.BytesString
import Derived.Test.YtjhnkpohdlilpaaAppend
import Derived.Test.YtjhnkpohdlilpaaAppendOk
import Derived.Test.YtjhnkpohdlilpaaAppendLem
import Derived.Test.YtjhnkpohdlilpaaLogSmall
import Derived.Test.YtjhnkpohdlilpaaNewDisk
import Derived.Test.YtjhnkpohdlilpaaCrash
import Derived.Test.YtjhnkpohdlilpaaFlush
import Derived.Test.YtjhnkpohdlilpaaWrite
import Derived.Test.YtjhnkpohdlilpaaAppendPend
import Derived.Deep.AppendLies
import Derived.Great.BuildSlice
import Derived.Test.YtjhnkpohdlilpaaDiskLem
import Derived.Test.YtjhnkpohdlilpaaRead
import Derived.Test.YtjhnkpohdlilpaaOut
import Derived.Test.YtjhnkpohdlilpaaDiskSmall
import Derived.Test.YtjhnkpohdlilpaaDisk
import Derived.Test.YtjhnkpohdlilpaaAtom
import Derived.Test.YtjhnkpohdlilpaaDecode
import Derived.Test.YtjhnkpohdlilpaaEncode
import Derived.Test.YtjhnkpohdlilpaaTake
import Derived.Test.YtjhnkpohdlilpaaCopy
import Derived.Laws.CopyOwn
import Derived.Deep.OwnRows
import Derived.Deep.MidRow
import Derived.Test.YtjhnkpohdlilpaaPut
import Derived.Test.YtjhnkpohdlilpaaRows
import Derived.Test.YtjhnkpohdlilpaaWords
import Derived.Test.YtjhnkpohdlilpaaMem
import Derived.Test.YtjhnkpohdlilpaaTail
import Derived.Test.YtjhnkpohdlilpaaCrc
import Derived.Test.YtjhnkpohdlilpaaArr
import Derived.RangeFuncNested
import Derived.RangeFuncBound
import Derived.RangeFuncCalls
import Derived.RangeFuncLeaves
import Derived.Shelf.Abstract
import Derived.Shelf.RegionOpen
import Derived.WalkKit
import Derived.OwnWalkIn
import Derived.TacticsInMore
import Derived.LoopNIn
import Derived.LoopIn
import Derived.WalkSpells
import Derived.WalkLawsBesides
import Derived.Lib.Hide
import Derived.BigQuiet
import Derived.Outline
import Derived.Deep.DeepFit
namespace Go.Proofs.Ytjhnkpohdlilpaa
open Go.RowKit Go.Shelf
attribute [local go_sem] Oper.semAt_some
open Go.ChangeShapes Go.WideShapes Go.ChangeAt Go.ChangeMaps
/-- a text that came in is not longer than what can be reached -/
theorem str_small {H : Type} {ts : List TypeId} {ds : List (DataW H)} {j : Nat} {s : ByteArray} (hsz : (DataW.weightsEach Try.prog ts ds).all (· ≤ reachBytes) = true) (ht : ts[j]? = some 9) (hd : ds[j]? = some (.lit (.string s.data.toList))) : s.size ≤ 140737488355328 := by
  have hall : ∀ x ∈ DataW.weightsEach Try.prog ts ds, decide (x ≤ reachBytes) = true := by simpa using hsz
  have hmem : s.data.toList.length ∈ DataW.weights Try.prog 9 (.lit (.string s.data.toList) : DataW H) := by simp [DataW.weights]
  have this : s.data.toList.length ≤ reachBytes := of_decide_eq_true (hall _ (DataW.weights_mem_each ht hd _ hmem))
  unfold reachBytes at this
  have h2 : s.size = s.data.toList.length := by simp
  omega
set_option maxRecDepth 100000 in
theorem elder_lifted (os : Os) (started : os.Started) (H : Type) (enc : TypeId × Value → H) :
    ReturnsInHanded {} Try.checked os 4 .any (Rows.logElderSpec.pre6 enc Try.prog Try.f4 Rows.logElderRow.domain false) (Rows.logElderSpec.post enc Try.prog Try.f4 false true false false) := by
  refine returnsInHanded_of_change_sized (C := Try.checked) own started (by kernel_rfl) Try.func4
    (ChangeSpec.witness6 (enc := enc) (C := Try.checked) false ⟨#[], #[.string ByteArray.empty, .slice none 0 0, .string ByteArray.empty], []⟩ 8 (by kernel_rfl) (by kernel_rfl) (by kernel_rfl) (by kernel_rfl)) ?_
  intro W base args ds gs before hval0 hW _ hsz0 _
  have hsz : (DataW.weightsEach Try.prog (Try.f4.params.toList ++ Rows.logElderSpec.plain.varTypes Try.prog) (ds ++ gs)).all (· ≤ reachBytes) = true := hsz0
  clear hsz0
  have hval : ∀ (j : Nat) t v, Try.f4.params[j]? = some t → args[j]? = some v → Value.okWide Try.prog W .any base t v := hval0
  have hW' := hW
  obtain ⟨p, q, hA0, hV, rfl, _, _⟩ := hW
  have hA : DataW.TrodAll enc Try.prog W 0 (fun _ => true) true Try.f4.params.toList args.toList ds p := hA0
  rw [Try.params4] at hA hval hsz
  obtain ⟨v0, v1, v2, d0, d1, d2, p0, p1, p2, rfl, rfl, rfl, h0, h1, h2⟩ := trodAll_three hA
  obtain ⟨rfl, rfl⟩ := trodVars_none hV
  have hz0 := hsz
  obtain ⟨s1, rfl, rfl, rfl, hs1⟩ := open_string Try.underlying9 (hval 0 9 v0 rfl rfl) h0
  obtain ⟨s2, rfl, rfl, rfl, hs2⟩ := open_string Try.underlying9 (hval 2 9 v2 rfl rfl) h2
  have h1k := h1
  obtain ⟨ss, a, c, rfl, hsrc, -, hss, -⟩ := strs_in (j := 1) (hval 1 22 v1 rfl rfl) h1 hsz rfl rfl
  have hz1 : s1.size ≤ 140737488355328 := str_small (j := 0) hz0 rfl rfl
  have hz2 : s2.size ≤ 140737488355328 := str_small (j := 2) hz0 rfl rfl
  clear hA0 hval0 hval hA hsz hz0
  simp only [List.append_nil] at hW'
  have hlt : ∀ x ∈ p1, x.block < W.heap.size := fun x hx => by simpa using hW'.lt x hx
  refine (elder_true s1 s2 ss a c W hsrc hss hz1 hz2).mono fun e W' ⟨he, hc⟩ => ?_
  have hB := hc.none_below
  subst he
  refine ⟨_, rfl, _, _, _, [] ++ [], [] ++ (p1 ++ []), [], hW', ?_, ?_, rfl, hB.frame _, fun h => by cases h⟩
  · exact trodAll_mk1 (shut_bool Try.underlying4 true)
  · exact trodAll_mk3 (shut_string Try.underlying9 hs1) (Below.trod laidOut (by kernel_rfl) (of_decide_eq_true (by kernel_rfl)) h1k hB hlt) (shut_string Try.underlying9 hs2)
/-- LogElder is true for every input. -/
theorem elder_holds : Rows.LogElderSaid :=
  OpenClaim.holds_of_wide 4 Try.f4 rfl rfl rfl rfl rfl rfl rfl ⟨rfl, rfl, rfl, rfl, rfl⟩ rfl rfl rfl rfl rfl (by kernel_rfl) Try.func4 (by kernel_rfl)
    (of_decide_eq_true (by kernel_rfl)) (by unfold Func.isWrapper; first | (rw [if_pos (by decide +kernel)]; kernel_rfl) | (rw [if_neg (by decide +kernel)]; exact ⟨rfl, rfl⟩))
    (fun os started H enc _ => elder_lifted os started H enc)
#print axioms elder_holds
end Go.Proofs.Ytjhnkpohdlilpaa
