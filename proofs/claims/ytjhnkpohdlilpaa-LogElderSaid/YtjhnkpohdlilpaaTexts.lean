/-
  the document's Sectors and Texts
-/
import Derived.Test.YtjhnkpohdlilpaaGrown
import Derived.Test.YtjhnkpohdlilpaaRoomWalk
import Derived.Test.YtjhnkpohdlilpaaPlainA
import Derived.Test.YtjhnkpohdlilpaaAwake
import Derived.Test.YtjhnkpohdlilpaaSys
import Derived.Test.YtjhnkpohdlilpaaAwakePlain
import Derived.Test.YtjhnkpohdlilpaaOpen
import Derived.Test.YtjhnkpohdlilpaaOpenMain
import Derived.Test.YtjhnkpohdlilpaaOpenBad
import Derived.Test.YtjhnkpohdlilpaaReadAll
import Derived.Test.YtjhnkpohdlilpaaReadLem
import Derived.Test.YtjhnkpohdlilpaaSteps
import Derived.Maps.AppendAt
import Derived.Laws.BytesString
import Derived.Test.YtjhnkpohdlilpaaAppend
import Derived.Test.YtjhnkpohdlilpaaAppendOk
import Derived.Test.YtjhnkpohdlilpaaAppendLem
import Derived.Test.YtjhnkpohdlilpaaLogSmall
import Derived.Test.YtjhnkpohdlilpaaNewDisk
import Derived.Test.YtjhnkpohdlilpaaCrash
import Derived.Test.YtjhnkpohdlilpaaFlush
import Derived.Test.YtjhnkpohdlilpaaWrite
import Derived.Test.YtjhnkpohdlilpaaAppendPend
import Derived.Deep.AppendLies
import Derived.Great.BuildSlice
import Derived.Test.YtjhnkpohdlilpaaDiskLem
import Derived.Test.YtjhnkpohdlilpaaRead
import Derived.Test.YtjhnkpohdlilpaaOut
import Derived.Test.YtjhnkpohdlilpaaDiskSmall
import Derived.Test.YtjhnkpohdlilpaaDisk
import Derived.Test.YtjhnkpohdlilpaaAtom
import Derived.Test.YtjhnkpohdlilpaaDecode
import Derived.Test.YtjhnkpohdlilpaaEncode
import Derived.Test.YtjhnkpohdlilpaaTake
import Derived.Test.YtjhnkpohdlilpaaCopy
import Derived.Laws.CopyOwn
import Derived.Deep.OwnRows
import Derived.Deep.MidRow
import Derived.Test.YtjhnkpohdlilpaaPut
import Derived.Test.YtjhnkpohdlilpaaRows
import Derived.Test.YtjhnkpohdlilpaaWords
import Derived.Test.YtjhnkpohdlilpaaMem
import Derived.Test.YtjhnkpohdlilpaaTail
import Derived.Test.YtjhnkpohdlilpaaCrc
import Derived.Test.YtjhnkpohdlilpaaArr
import Derived.RangeFuncNested
import Derived.RangeFuncBound
import Derived.RangeFuncCalls
import Derived.RangeFuncLeaves
import Derived.Shelf.Abstract
import Derived.Shelf.RegionOpen
import Derived.WalkKit
import Derived.OwnWalkIn
import Derived.TacticsInMore
import Derived.LoopNIn
import Derived.LoopIn
import Derived.WalkSpells
import Derived.WalkLawsBesides
import Derived.Lib.Hide
import Derived.BigQuiet
import Derived.Outline
import Derived.Deep.DeepFit
namespace Go.Proofs.Ytjhnkpohdlilpaa
open Go.RowKit Go.Shelf
attribute [local go_sem] Oper.semAt_some
theorem secs_step {n : Nat} (h : 48 < n) : secs n = secs (n - 48) + 1 := by unfold secs; split <;> split <;> omega
set_option maxHeartbeats 4000000 in
set_option maxRecDepth 100000 in
theorem sectors13 (n : Nat) (w : World) (h : n ≤ 140737488355328) : Calls Try.prog 13 #[.int .i64 n] w fun e w' => e = .returned (.int .i64 (secs n)) ∧ w' = w := by
  go_enter Try.func13, Try.ntmps13
  go_wp2_with fail
  go_loopw [0, 3] (fun b k wr => ∃ (x y : Nat), b = .int .i64 x ∧ k = .int .i64 y ∧ x + y ≤ n + 1 ∧ y + secs x = secs n + 1 ∧ wr = w) (fun b _ _ => (intOf b).toNat)
  case atStart => exact ⟨n, 1, rfl, rfl, Nat.le_refl _, by omega, rfl⟩
  case round =>
    obtain ⟨x, y, rfl, rfl, hxy, hs, rfl⟩ := hrel
    by_cases h48 : 48 < x
    · have g1 : (48 : Int) < x := by omega
      have g2 : (x : Int) ≤ 140737488355329 := by omega
      have g3 : (y : Int) ≤ 140737488355329 := by omega
      go_wp2_with fail
      refine ⟨⟨x - 48, y + 1, ?_, by go_num, by omega, by rw [secs_step h48] at hs; omega, trivial⟩, ?_⟩
      · congr 1; omega
      · simp [intOf]; omega
    · have g1 : ¬ (48 : Int) < x := by omega
      have e : secs x = 1 := by unfold secs; rw [if_pos (by omega)]
      obtain rfl : y = secs n := by omega
      clear e hs
      go_wp2
      go_ret
      exact ⟨rfl, rfl⟩
theorem str_ne {a b : ByteArray} (h : ¬ a = b) : (a.toList == b.toList) = false := by
  rw [ByteArray.toList_eq, ByteArray.toList_eq]
  simp only [beq_eq_false_iff_ne, ne_eq]
  exact fun e => h (Go.WideShapes.bytes_inj e)
set_option maxHeartbeats 4000000 in
set_option maxRecDepth 100000 in
theorem texts_any (l1 l2 : List ByteArray) (a b : Option Addr) (ca cb : Nat) (w : World) (ha : SrcV (fun _ => False) w a (l1.map Value.string)) (hb : SrcV (fun _ => False) w b (l2.map Value.string)) (hal : l1.length ≤ 140737488355328) :
    Calls Try.prog 16 #[.slice a l1.length ca, .slice b l2.length cb] w fun e w' => e = .returned (.bool (decide (l1 = l2))) ∧ Ch (fun _ => False) w w' := by
  go_enter Try.func16, Try.ntmps16
  by_cases hl : l1.length = l2.length
  · have b1 : ((l1.length : Int) != (l2.length : Int)) = false := by rw [bne_eq_false_iff_eq]; omega
    go_wp2_with fail
    go_loopw [5] (fun i wr => ∃ k : Nat, k ≤ l1.length ∧ i = .int .i64 k ∧ (∀ j, j < k → l1[j]? = l2[j]?) ∧ Ch (fun _ => False) w wr) (fun i _ => l1.length - (intOf i).toNat)
    case atStart => exact ⟨0, Nat.zero_le _, rfl, fun j hj => by omega, Ch.refl _ w⟩
    case round =>
      obtain ⟨k, hk, rfl, hj, hcr⟩ := hrel
      obtain ⟨wo, rfl⟩ : ∃ x, x = wr := ⟨_, rfl⟩
      by_cases hlt : k < l1.length
      · have hlt2 : k < l2.length := by omega
        have g1 : (k : Int) < l1.length := by omega
        have g2 : (k : Int) < l2.length := by omega
        obtain ⟨oa, fa, rfl, -, ca1⟩ := ha (by intro e; rw [List.map_eq_nil_iff] at e; rw [e] at hlt; simp at hlt)
        obtain ⟨ob, fb, rfl, -, cb1⟩ := hb (by intro e; rw [List.map_eq_nil_iff] at e; rw [e] at hlt2; simp at hlt2)
        have ck1 := ca1 k (.string l1[k]) (by rw [List.getElem?_map, List.getElem?_eq_getElem hlt]; rfl)
        have ck2 := cb1 k (.string l2[k]) (by rw [List.getElem?_map, List.getElem?_eq_getElem hlt2]; rfl)
        replace ck1 := hcr.cell ck1 id
        replace ck2 := hcr.cell ck2 id
        have e1 := List.getElem?_eq_getElem hlt
        have e2 := List.getElem?_eq_getElem hlt2
        generalize l1[k] = s1 at *
        generalize l2[k] = s2 at *
        have HJ := Lib.hid hj
        have HE1 := Lib.hid e1
        have HE2 := Lib.hid e2
        have HL := Lib.hid hl
        clear hj e1 e2 hl ca1 cb1 ha hb
        by_cases hs : s1 = s2
        · subst hs
          go_wp2_with fail
          go_quiet (fail)
          go_wp2_with fail
          refine ⟨⟨k + 1, by omega, by go_num, fun j hj => ?_, hcr.drewN _⟩, ?_⟩
          · by_cases e : j = k
            · subst e; rw [HE1.out, HE2.out]
            · exact HJ.out j (by omega)
          · simp [intOf]; omega
        · have b3 := str_ne hs
          have b4 : decide (l1 = l2) = false := by
            simp
            intro e
            have h1 := HE1.out
            rw [e, HE2.out] at h1
            exact hs (Option.some.inj h1).symm
          have HS := Lib.hid hs
          have HB := Lib.hid b4
          clear hs b4
          go_wp2_with fail
          go_quiet (fail)
          go_wp2
          go_ret
          exact ⟨by rw [HB.out]; rfl, hcr.drewN _⟩
      · have b4 : decide (l1 = l2) = true := by
          simp
          refine List.ext_getElem? fun j => ?_
          by_cases hjk : j < k
          · exact hj j hjk
          · rw [List.getElem?_eq_none (by omega), List.getElem?_eq_none (by omega)]
        have HB := Lib.hid b4
        clear b4
        have g1 : ¬ (k : Int) < l1.length := by omega
        have g2 : ¬ (k : Int) < l2.length := by omega
        clear hj
        go_wp2
        go_ret
        exact ⟨by rw [HB.out]; rfl, hcr⟩
  · have b1 : ((l1.length : Int) != (l2.length : Int)) = true := by simp; omega
    have b2 : decide (l1 = l2) = false := by simp; intro e; exact hl (by rw [e])
    have HB := Lib.hid b2
    clear b2
    go_wp2
    go_ret
    exact ⟨by rw [HB.out]; rfl, Ch.refl _ w⟩
end Go.Proofs.Ytjhnkpohdlilpaa
