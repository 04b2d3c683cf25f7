/-
  The chapter's examples: the walk of awake.
-/
import Derived.Test.YtjhnkpohdlilpaaSys
import Derived.Test.YtjhnkpohdlilpaaAwakePlain
import Derived.Test.YtjhnkpohdlilpaaOpen
import Derived.Test.YtjhnkpohdlilpaaOpenMain
import Derived.Test.YtjhnkpohdlilpaaOpenBad
import Derived.Test.YtjhnkpohdlilpaaReadAll
import Derived.Test.YtjhnkpohdlilpaaReadLem
import Derived.Test.YtjhnkpohdlilpaaSteps
import Derived.Maps.AppendAt
import Derived.Laws.BytesString
import Derived.Test.YtjhnkpohdlilpaaAppend
import Derived.Test.YtjhnkpohdlilpaaAppendOk
import Derived.Test.YtjhnkpohdlilpaaAppendLem
import Derived.Test.YtjhnkpohdlilpaaLogSmall
import Derived.Test.YtjhnkpohdlilpaaNewDisk
import Derived.Test.YtjhnkpohdlilpaaCrash
import Derived.Test.YtjhnkpohdlilpaaFlush
import Derived.Test.YtjhnkpohdlilpaaWrite
import Derived.Test.YtjhnkpohdlilpaaAppendPend
import Derived.Deep.AppendLies
import Derived.Great.BuildSlice
import Derived.Test.YtjhnkpohdlilpaaDiskLem
import Derived.Test.YtjhnkpohdlilpaaRead
import Derived.Test.YtjhnkpohdlilpaaOut
import Derived.Test.YtjhnkpohdlilpaaDiskSmall
import Derived.Test.YtjhnkpohdlilpaaDisk
import Derived.Test.YtjhnkpohdlilpaaAtom
import Derived.Test.YtjhnkpohdlilpaaDecode
import Derived.Test.YtjhnkpohdlilpaaEncode
import Derived.Test.YtjhnkpohdlilpaaTake
import Derived.Test.YtjhnkpohdlilpaaCopy
import Derived.Laws.CopyOwn
import Derived.Deep.OwnRows
import Derived.Deep.MidRow
import Derived.Test.YtjhnkpohdlilpaaPut
import Derived.Test.YtjhnkpohdlilpaaRows
import Derived.Test.YtjhnkpohdlilpaaWords
import Derived.Test.YtjhnkpohdlilpaaMem
import Derived.Test.YtjhnkpohdlilpaaTail
import Derived.Test.YtjhnkpohdlilpaaCrc
import Derived.Test.YtjhnkpohdlilpaaArr
import Derived.RangeFuncNested
import Derived.RangeFuncBound
import Derived.RangeFuncCalls
import Derived.RangeFuncLeaves
import Derived.Shelf.Abstract
import Derived.Shelf.RegionOpen
import Derived.WalkKit
import Derived.OwnWalkIn
import Derived.TacticsInMore
import Derived.LoopNIn
import Derived.LoopIn
import Derived.WalkSpells
import Derived.WalkLawsBesides
import Derived.Lib.Hide
import Derived.BigQuiet
import Derived.Outline
import Derived.Deep.DeepFit
namespace Go.Proofs.Ytjhnkpohdlilpaa
open Go.RowKit Go.Shelf
attribute [local go_sem] Oper.semAt_some
theorem ow_n1 : (DM.new 8).n = 8 := rfl
theorem ow1_p : ow1.2.1.pend.length = 0 := by kernel_rfl
theorem ow2_p : ow2.2.2.pend.length = 1 := by kernel_rfl
theorem ow3_p : ow3.2.2.pend.length = 4 := by kernel_rfl
theorem ow4_p : ow4.2.pend.length = 0 := by kernel_rfl
theorem ow5_p : ow5.2.2.pend.length = 1 := by kernel_rfl
theorem ow6_p : ow6.pend.length = 0 := by kernel_rfl
theorem ow6_n : ow6.n = 8 := by kernel_rfl
theorem ow7_p : ow7.2.1.pend.length = 0 := by kernel_rfl
theorem ow8_p : ow8.2.2.pend.length = 1 := by kernel_rfl
theorem ow9_p : ow9.2.2.pend.length = 2 := by kernel_rfl
theorem ow10_p : ow10.pend.length = 0 := by kernel_rfl
theorem ow10_n : ow10.n = 8 := by kernel_rfl
theorem ow11_p : ow11.2.1.pend.length = 0 := by kernel_rfl
theorem ow11_n : ow11.2.1.n = 8 := by kernel_rfl
theorem ow_c100 : strBytes (strOf (List.replicate 100 0)) = List.replicate 100 0#8 := strBytes_strOf _
theorem ow_c99 : strBytes ⟨#[99]⟩ = [99#8] := by kernel_rfl
theorem ow_c100' : strBytes ⟨#[100]⟩ = [100#8] := by kernel_rfl
theorem ow_c101 : strBytes ⟨#[101]⟩ = [101#8] := by kernel_rfl
theorem app_is {w0 w : World} {F : Nat → Prop} {B D : Nat} {d : DM} {m m' : LM} (h : DS w0 w F D d) (hl : LogAt w B D m) (hB : w0.heap.size ≤ B) (hFB : ¬ F B) (s : ByteArray) (hp : d.pend.length ≤ 1099511627000) (h1 : m.first + m.count ≤ 4096) (h2 : m.next ≤ m.count) (hs : s.size ≤ 140737488355328)
    (r : Int × LM × DM) (hr : m.append d (strBytes s) = r) (hr1 : r.1 = 0) (hr2 : r.2.1 = m') :
    Calls Try.prog 12 #[.pointer (some ⟨B, 0, none⟩), .string s] w fun e w' => e = .returned (.int .i64 0) ∧ ∃ F', DS w0 w' F' D r.2.2 ∧ LogAt w' B D m' ∧ ¬ F' B ∧ Mv F B w w' F' := by
  have := app_ds h hl hB hFB s hp h1 h2 hs
  rw [hr, hr1, hr2] at this
  exact this
set_option maxHeartbeats 4000000 in
set_option maxRecDepth 100000 in
theorem awake_any (w : World) : Calls Try.prog 8 #[] w fun e w' => e = .returned (.bool true) ∧ Ch (fun _ => False) w w' := by
  go_enter Try.func8, Try.ntmps8
  go_wp2_with fail
  have hnew := new_ok 8 w (by omega) (by omega)
  refine hnew.mono ?_
  clear hnew
  rintro e w1 ⟨D, F1, rfl, h1, hc1, ho1⟩
  have s1 : DS w w1 F1 D (DM.new 8) := ⟨h1, hc1, ho1⟩
  clear h1 hc1 ho1
  go_wp2_with fail
  refine (open_ds s1 0 8 1 (by omega) (by rw [ow_n1]; omega) (by show 0 ≤ _; omega) ow1_1 ow1_2).mono ?_
  rintro e w2 ⟨B, ra, rc, rfl, F2, s2, hl2, hB, hBw2, hFB2, -, -, -⟩
  change DS w w2 F2 D ow1.2.1 at s2
  clear s1
  go_wp2_with fail
  refine (app_is s2 hl2 hB hFB2 ⟨#[97, 98]⟩ (by rw [ow1_p]; omega) (by decide) (by decide) (by decide) ow2 (by rw [strBytes_ab]; rfl) ow2_1 ow2_2).mono ?_
  rintro e w3 ⟨rfl, F3, s3, hl3, hFB3, -⟩
  clear s2 hl2 hFB2
  have m100 := mk100 w3
  have c100 : (convert 56 9 (.slice (some ⟨w3.heap.size, 0, none⟩) 100 100)).run Try.prog (w3.alloc (.cells (bArr (fun _ => 0#8) 100) 5)) = .ok (.string (strOf (List.replicate 100 0#8))) (w3.alloc (.cells (bArr (fun _ => 0#8) 100) 5)) := conv100 w3
  go_wp2_with fail
  have s3' : DS w (w3.alloc (.cells (bArr (fun _ => 0) 100) 5)) F3 D ow2.2.2 := ⟨s3.dk.keep ((Ch.refl (fun _ => False) w3).alloc _) (fun _ _ e => e), s3.ch.alloc _, s3.old⟩
  refine (app_is s3' (hl3.alloc _) hB hFB3 (strOf (List.replicate 100 0)) (by rw [ow2_p]; omega) (by decide) (by decide) (by rw [strOf_size, List.length_replicate]; omega) ow3 (by rw [ow_c100]; rfl) ow3_1 ow3_2).mono ?_
  rintro e w4 ⟨rfl, F4, s4, hl4, hFB4, -⟩
  clear s3 s3' hl3 hFB3 m100 c100
  go_wp2_with fail
  refine (next_any B D _ w4 hl4).mono ?_
  rintro e w4' ⟨rfl, rfl⟩
  go_wp2_with fail
  have hsy := sync_any B _ F4 D _ _ hl4 s4.dk (by rw [ow3_p]; omega)
  refine hsy.mono ?_
  clear hsy
  rintro e w5 ⟨F5, rfl, st5⟩
  have s5 : DS w w5 F5 D ow4.2 := s4.step st5
  obtain ⟨hl5, hFB5⟩ := (st5.mv (B + 1)).log hl4 hFB4 (by omega)
  rw [show ow3.2.2.flush.1 = 0 from ow4_1]
  clear s4 st5 hl4 hFB4
  go_wp2_with fail
  refine (app_is s5 hl5 hB hFB5 ⟨#[99]⟩ (by rw [ow4_p]; omega) (by decide) (by decide) (by decide) ow5 (by rw [ow_c99]; rfl) ow5_1 ow5_2).mono ?_
  rintro e w6 ⟨rfl, F6, s6, hl6, hFB6, -⟩
  clear s5 hl5 hFB5
  go_wp2_with fail
  have hcr := crash_any F6 D _ [] none 0 w6 s6.dk (fun e => absurd rfl e) (by decide) (by rw [ow5_p]; omega)
  refine hcr.mono ?_
  clear hcr
  rintro e w7 ⟨F7, rfl, st7⟩
  have s7 : DS w w7 F7 D ow6 := s6.step st7
  clear s6 st7 hl6 hFB6
  go_wp2_with fail
  refine (open_ds s7 0 8 1 (by omega) (by rw [ow6_n]; omega) (by rw [ow6_p]; omega) ow7_1 ow7_2).mono ?_
  rintro e w8 ⟨B2, ra2, rc2, rfl, F8, s8, hl8, hB2, -, hFB8, -, hown8, hne8⟩
  change DS w w8 F8 D ow7.2.1 at s8
  clear s7
  go_wp2_with fail
  refine (app_is s8 hl8 hB2 hFB8 ⟨#[100]⟩ (by rw [ow7_p]; omega) (by decide) (by decide) (by decide) ow8 (by rw [ow_c100']; rfl) ow8_1 ow8_2).mono ?_
  rintro e w9 ⟨rfl, F9, s9, hl9, hFB9, mv9⟩
  obtain ⟨hown9, hne9⟩ := mv9.own hown8 hne8
  clear s8 hl8 hFB8 mv9 hown8 hne8
  go_wp2_with fail
  refine (app_is s9 hl9 hB2 hFB9 ⟨#[101]⟩ (by rw [ow8_p]; omega) (by decide) (by decide) (by decide) ow9 (by rw [ow_c101]; rfl) ow9_1 ow9_2).mono ?_
  rintro e w10 ⟨rfl, F10, s10, hl10, hFB10, mv10⟩
  obtain ⟨hown10, hne10⟩ := mv10.own hown9 hne9
  clear s9 hl9 hFB9 mv10 hown9 hne9
  go_wp2_with fail
  have s10' : DS w (w10.alloc (.cells #[.bool false, .bool true] 4)) F10 D ow9.2.2 := ⟨s10.dk.keep ((Ch.refl (fun _ => False) w10).alloc _) (fun _ _ e => e), s10.ch.alloc _, s10.old⟩
  have hown10' := hown10.alloc (.cells #[.bool false, .bool true] 4)
  have hsrc : SrcV F10 (w10.alloc (.cells #[.bool false, .bool true] 4)) (some ⟨w10.heap.size, 0, none⟩) ([false, true].map Value.bool) := fun _ => ⟨w10.heap.size, 0, rfl, fun e => by have := s10.dk.lt _ e; omega, fun j y hy => by
    rw [Nat.zero_add]
    exact (Blk.new w10 4 #[.bool false, .bool true]).cell (by simpa using hy)⟩
  have hcr := crash_any F10 D _ [false, true] (some ⟨w10.heap.size, 0, none⟩) 2 _ s10'.dk hsrc (by decide) (by rw [ow9_p]; omega)
  refine hcr.mono ?_
  clear hcr hsrc
  rintro e w11 ⟨F11, rfl, st11⟩
  have s11 : DS w w11 F11 D ow10 := s10'.step st11
  obtain ⟨hown11, hne11⟩ := (st11.mv B2).own hown10' hne10
  clear s10 s10' st11 hl10 hFB10 hown10 hown10' hne10
  go_wp2_with fail
  refine (open_ds s11 0 8 1 (by omega) (by rw [ow10_n]; omega) (by rw [ow10_p]; omega) ow11_1 ow11_2).mono ?_
  rintro e w12 ⟨B3, ra3, rc3, rfl, F12, s12, hl12, hB3, hBw3, hFB12, mv12, -, -⟩
  change DS w w12 F12 D ow11.2.1 at s12
  obtain ⟨hown12, hne12⟩ := mv12.own hown11 (fun i hi => ⟨(hne11 i hi).1, by have := (hown11.lt i hi).2; omega⟩)
  clear s11 mv12 hown11 hne11
  go_wp2_with fail
  refine (life_any B3 D _ w12 hl12).mono ?_
  rintro e w12' ⟨rfl, rfl⟩
  go_wp2_with fail
  refine (open_ds s12 0 8 2 (by omega) (by rw [ow11_n]; omega) (by rw [ow11_p]; omega) ow12_1 ow12_2).mono ?_
  rintro e w13 ⟨B4, ra4, rc4, rfl, F13, s13, hl13, -, hBw4, hFB13, mv13, -, -⟩
  obtain ⟨hown13, hne13⟩ := mv13.own hown12 (fun i hi => ⟨(hne12 i hi).1, by have := (hown12.lt i hi).2; omega⟩)
  have hch := s13.ch
  clear s12 s13 mv13 hown12 hne12 hl12 hl13
  rcases hown13.2 with ⟨h1, h2⟩ | ⟨g, cap, cur, h1, h2, h3⟩
  · cases h2
  obtain ⟨rfl, -, -⟩ : ra2 = some ⟨g, 0, none⟩ ∧ True ∧ True := by injection h1 with h1; exact ⟨h1, trivial, trivial⟩
  have e0 := hown13.cells (g := g) rfl 0 (.string (strOf [97#8, 98#8])) rfl
  have e1 := hown13.cells (g := g) rfl 1 (.string (strOf (List.replicate 100 0#8))) rfl
  rw [addr_add] at e0 e1
  have x0 : strOf [97#8, 98#8] = ⟨#[97, 98]⟩ := by kernel_rfl
  have x1 : (strOf (List.replicate 100 0#8)).size = 100 := by rw [strOf_size, List.length_replicate]
  rw [x0] at e0
  clear hown13 hne13 h1 h2 h3 x0
  generalize strOf (List.replicate 100 0#8) = z at *
  have hz : ((z.size : Int) == 100) = true := by rw [x1]; decide
  clear x1
  have h33 : binOp .eql 23 (U32 3#32) (.int .u32 3) = (pure (.bool true) : Sem Value) := b32_eql 23 3#32 3#32
  go_wp2
  go_ret
  exact ⟨rfl, hch⟩
end Go.Proofs.Ytjhnkpohdlilpaa
