/-
  LogRoom: the walk.
-/
import Derived.Test.YtjhnkpohdlilpaaPlainA
import Derived.Test.YtjhnkpohdlilpaaAwake
import Derived.Test.YtjhnkpohdlilpaaSys
import Derived.Test.YtjhnkpohdlilpaaAwakePlain
import Derived.Test.YtjhnkpohdlilpaaOpen
import Derived.Test.YtjhnkpohdlilpaaOpenMain
import Derived.Test.YtjhnkpohdlilpaaOpenBad
import Derived.Test.YtjhnkpohdlilpaaReadAll
import Derived.Test.YtjhnkpohdlilpaaReadLem
import Derived.Test.YtjhnkpohdlilpaaSteps
import Derived.Maps.AppendAt
import Derived.Laws.BytesString
import Derived.Test.YtjhnkpohdlilpaaAppend
import Derived.Test.YtjhnkpohdlilpaaAppendOk
import Derived.Test.YtjhnkpohdlilpaaAppendLem
import Derived.Test.YtjhnkpohdlilpaaLogSmall
import Derived.Test.YtjhnkpohdlilpaaNewDisk
import Derived.Test.YtjhnkpohdlilpaaCrash
import Derived.Test.YtjhnkpohdlilpaaFlush
import Derived.Test.YtjhnkpohdlilpaaWrite
import Derived.Test.YtjhnkpohdlilpaaAppendPend
import Derived.Deep.AppendLies
import Derived.Great.BuildSlice
import Derived.Test.YtjhnkpohdlilpaaDiskLem
import Derived.Test.YtjhnkpohdlilpaaRead
import Derived.Test.YtjhnkpohdlilpaaOut
import Derived.Test.YtjhnkpohdlilpaaDiskSmall
import Derived.Test.YtjhnkpohdlilpaaDisk
import Derived.Test.YtjhnkpohdlilpaaAtom
import Derived.Test.YtjhnkpohdlilpaaDecode
import Derived.Test.YtjhnkpohdlilpaaEncode
import Derived.Test.YtjhnkpohdlilpaaTake
import Derived.Test.YtjhnkpohdlilpaaCopy
import Derived.Laws.CopyOwn
import Derived.Deep.OwnRows
import Derived.Deep.MidRow
import Derived.Test.YtjhnkpohdlilpaaPut
import Derived.Test.YtjhnkpohdlilpaaRows
import Derived.Test.YtjhnkpohdlilpaaWords
import Derived.Test.YtjhnkpohdlilpaaMem
import Derived.Test.YtjhnkpohdlilpaaTail
import Derived.Test.YtjhnkpohdlilpaaCrc
import Derived.Test.YtjhnkpohdlilpaaArr
import Derived.RangeFuncNested
import Derived.RangeFuncBound
import Derived.RangeFuncCalls
import Derived.RangeFuncLeaves
import Derived.Shelf.Abstract
import Derived.Shelf.RegionOpen
import Derived.WalkKit
import Derived.OwnWalkIn
import Derived.TacticsInMore
import Derived.LoopNIn
import Derived.LoopIn
import Derived.WalkSpells
import Derived.WalkLawsBesides
import Derived.Lib.Hide
import Derived.BigQuiet
import Derived.Outline
import Derived.Deep.DeepFit
namespace Go.Proofs.Ytjhnkpohdlilpaa
open Go.RowKit Go.Shelf
attribute [local go_sem] Oper.semAt_some
theorem DS.alloc {w0 w : World} {F : Nat → Prop} {D : Nat} {d : DM} (h : DS w0 w F D d) (o : Obj) : DS w0 (w.alloc o) F D d := ⟨h.dk.keep ((Ch.refl (fun _ => False) w).alloc _) (fun _ _ e => e), h.ch.alloc _, h.old⟩
theorem DS.ch' {w0 w w' : World} {F : Nat → Prop} {D : Nat} {d : DM} (h : DS w0 w F D d) (hc : Ch (fun _ => False) w w') : DS w0 w' F D d := ⟨h.dk.keep hc (fun _ _ e => e), h.ch.trans hc (fun _ _ e => e), h.old⟩
set_option maxHeartbeats 4000000 in
set_option maxRecDepth 100000 in
theorem room_true (n : Int) (ss : List ByteArray) (a0 : Option Addr) (c0 : Nat) (w : World) (hs : SrcV (fun _ => False) w a0 (ss.map Value.string)) (hlen : ss.length ≤ 140737488355328) (hsz : ∀ s ∈ ss, s.size ≤ 140737488355328) :
    Calls Try.prog 5 #[.int .i64 n, .slice a0 ss.length c0] w fun e w' => e = .returned (.bool true) ∧ Ch (fun _ => False) w w' := by
  go_enter Try.func5, Try.ntmps5
  go_wp2_with fail
  refine (awake_any w).mono ?_
  rintro e w1 ⟨rfl, hc1⟩
  go_wp2_with fail
  refine (new_any n w1).mono ?_
  rintro e w2 (⟨hb, rfl, rfl⟩ | ⟨hn1, hn2, D, F, rfl, hdk, hc2, hold⟩)
  · go_wp2
    go_ret
    exact ⟨rfl, hc1⟩
  obtain ⟨k, rfl⟩ := Int.eq_ofNat_of_zero_le (a := n) (by omega)
  rw [Int.toNat_natCast] at hdk
  have s2 : DS w w2 F D (DM.new k) := ⟨hdk, hc1.trans hc2 (fun _ _ e => e), fun i hi => Nat.le_trans hc1.size (hold i hi)⟩
  clear hdk hc2 hold hc1
  by_cases hk2 : k < 2
  · have g2 : (k : Int) < 2 := by omega
    go_wp2
    go_ret
    exact ⟨rfl, s2.ch⟩
  have b2 : decide ((k : Int) < 2) = false := by simp; omega
  have gk : (k : Int) ≤ 4096 := hn2
  have ho := open_new k 0 k 3 (by omega) (by omega)
  go_wp2_with fail
  refine (open_ds s2 0 k 3 (by omega) (by show 0 + k ≤ k; omega) (by show 0 ≤ _; omega) (by rw [ho]) (by rw [ho])).mono ?_
  rintro e w3 ⟨B, ra, rc, rfl, F3, s3, hl3, hB, -, hFB3, mv3, -, -⟩
  rw [ho] at s3
  clear ho s2
  clear mv3
  change DS w w3 F3 D (DM.born k 0) at s3
  go_wp2_with fail
  go_loopw [11] (fun i wr => ∃ (j : Nat) (F' : Nat → Prop) (d : DM) (m : LM), j ≤ ss.length ∧ j ≤ 60 ∧ i = .int .i64 j ∧ DS w wr F' D d ∧ LogAt wr B D m ∧ ¬ F' B ∧ m.first = 0 ∧ m.count = k ∧ m.next ≤ k ∧ d.pend.length ≤ 42 * j) (fun i _ => 60 - (intOf i).toNat)
  case atStart => exact ⟨0, F3, DM.born k 0, ⟨0, k, 3, 1, 1⟩, Nat.zero_le _, Nat.zero_le _, rfl, s3, hl3, hFB3, rfl, rfl, by show 1 ≤ k; omega, Nat.zero_le _⟩
  case round =>
    obtain ⟨j, F', d, m, hj, hj60, rfl, sr, hlr, hFBr, hm1, hm2, hm3, hpr⟩ := hrel
    obtain ⟨wo, rfl⟩ : ∃ x, x = wr := ⟨_, rfl⟩
    by_cases hlt : j < ss.length
    · by_cases h60 : j < 60
      · have l1 : (j : Int) < ss.length := by omega
        have l2 : (j : Int) < 60 := by omega
        go_wp2_with fail
        obtain ⟨ob, off, rfl, -, hcell⟩ := hs (by intro e; rw [List.map_eq_nil_iff] at e; rw [e] at hlt; simp at hlt)
        have hlen' := hsz ss[j] (List.getElem_mem hlt)
        have cw := hcell j (.string ss[j]) (by rw [List.getElem?_map, List.getElem?_eq_getElem hlt]; rfl)
        have ck := (sr.ch).cell cw id
        generalize ss[j] = s at *
        have HM1 := Lib.hid hm1
        have HM2 := Lib.hid hm2
        have gs : (s.size : Int) ≤ 140737488355328 := by omega
        have hmn : m.next ≤ m.count := by omega
        have hmc : m.count ≤ 4096 := by omega
        clear hm1 hm2
        refine (room_any B D m wo hlr hmc hmn).mono ?_
        rintro e w4 ⟨rfl, q4, rfl⟩
        have hl4 : LogAt (wo.drewN q4) B D m := hlr
        have s4 := sr.ch' ((Ch.refl (fun _ => False) wo).drewN q4)
        clear hlr sr
        go_wp2_with fail
        refine (next_any B D m _ hl4).mono ?_
        rintro e w4' ⟨rfl, rfl⟩
        go_wp2_with fail
        refine (sectors18 s.size _ hlen').mono ?_
        rintro e w4' ⟨rfl, rfl⟩
        go_wp2_with fail
        have hfa := m.append_facts d (strBytes s)
        rw [strBytes_length] at hfa
        have happ := app_ds s4 hl4 hB hFBr s (by omega) (by rw [HM1.out]; omega) hmn hlen'
        generalize m.append d (strBytes s) = r at *
        obtain ⟨x, m', d'⟩ := r
        have HFA := Lib.hid hfa
        clear hfa
        refine happ.mono ?_
        clear happ
        rintro e w5 ⟨rfl, F5, s5, hl5, hFB5, mv5⟩
        have hpr5 : d'.pend.length ≤ 42 * (j + 1) := by have h9 : d'.pend.length ≤ d.pend.length + 42 := HFA.out.2.2.1; omega
        have ck5 := (s5.ch).cell cw id
        clear s4 hl4 hFBr mv5
        have hex : (x = 0 ∧ s.size ≤ 2000 ∧ secs s.size ≤ m.count - m.next ∧ m' = { m with next := m.next + secs s.size }) ∨ (x ≠ 0 ∧ m' = m) := HFA.out.1
        have h3x : x = 3 → m.count - m.next < secs s.size := HFA.out.2.1
        have hsp := secs_pos s.size
        change LogAt w5 B D m' at hl5
        rcases hex with ⟨rfl, hz, hsec, rfl⟩ | ⟨hne, rfl⟩
        · have hl6 : LogAt w5 B D ⟨m.first, m.count, m.epoch, m.life, m.next + secs s.size⟩ := hl5
          go_wp2_with fail
          refine (room_any B D _ w5 hl6 hmc (show m.next + secs s.size ≤ m.count by omega)).mono ?_
          rintro e w6 ⟨rfl, q6, rfl⟩
          have hl7 : LogAt (w5.drewN q6) B D ⟨m.first, m.count, m.epoch, m.life, m.next + secs s.size⟩ := hl6
          have s7 := s5.ch' ((Ch.refl (fun _ => False) w5).drewN q6)
          clear s5 hl5 hl6
          go_wp2_with fail
          refine (next_any B D _ _ hl7).mono ?_
          rintro e w7 ⟨rfl, rfl⟩
          have hk' : m.count = k := HM2.out
          have gA : (m.next : Int) ≤ 4096 := by omega
          have gB : ((m.count - m.next : Nat) : Int) ≤ 4096 := by omega
          have gC : (m.next : Int) + ((secs s.size : Nat) : Int) ≤ 4096 := by omega
          have gD : ((m.count - (m.next + secs s.size) : Nat) : Int) ≤ 4096 := by omega
          have gE : ((secs s.size : Nat) : Int) ≤ 4096 := by omega
          have bA : ((m.next : Int) + ((m.count - m.next : Nat) : Int) != (k : Int)) = false := by rw [bne_eq_false_iff_eq]; omega
          have bB : ((m.next : Int) + ((secs s.size : Nat) : Int) + ((m.count - (m.next + secs s.size) : Nat) : Int) != (k : Int)) = false := by rw [bne_eq_false_iff_eq]; omega
          have bC : decide (((secs s.size : Nat) : Int) < 1) = false := by simp; omega
          have bD : (((m.count - (m.next + secs s.size) : Nat) : Int) != ((m.count - m.next : Nat) : Int) - ((secs s.size : Nat) : Int)) = false := by rw [bne_eq_false_iff_eq]; omega
          have bE : decide ((2000 : Int) < (s.size : Int)) = false := by simp; omega
          clear hk'
          go_wp2_with fail
          exact ⟨⟨j + 1, F5, d', ⟨m.first, m.count, m.epoch, m.life, m.next + secs s.size⟩, by omega, by omega, by go_num, s7, hl7, hFB5, HM1.out, HM2.out, by have := HM2.out; show m.next + secs s.size ≤ k; omega, hpr5⟩, by simp [intOf]; omega⟩
        · have hl6 : LogAt w5 B D m' := hl5
          have b0 : (x == 0) = false := by simp [hne]
          have b1 : (x != 0) = true := by simp [hne]
          have gA : (m'.next : Int) ≤ 4096 := by omega
          have gB : ((m'.count - m'.next : Nat) : Int) ≤ 4096 := by omega
          have gE : ((secs s.size : Nat) : Int) ≤ 140737488355328 := by unfold secs; split <;> omega
          have bA : ((m'.next : Int) + ((m'.count - m'.next : Nat) : Int) != (k : Int)) = false := by rw [bne_eq_false_iff_eq]; have := HM2.out; omega
          have bC : decide (((secs s.size : Nat) : Int) < 1) = false := by simp; omega
          have HNE := Lib.hid hne
          clear hne
          by_cases hx3 : x = 3
          · have b3 : (x == 3) = true := by simp [hx3]
            have h4 := h3x hx3
            have bF : decide (secs s.size ≤ m'.count - m'.next) = false := by simp; omega
            clear hx3 h3x
            go_wp2_with fail
            refine (room_any B D _ w5 hl6 hmc hmn).mono ?_
            rintro e w6 ⟨rfl, q6, rfl⟩
            have hl7 : LogAt (w5.drewN q6) B D m' := hl6
            have s7 := s5.ch' ((Ch.refl (fun _ => False) w5).drewN q6)
            clear s5 hl5 hl6
            go_wp2_with fail
            refine (next_any B D _ _ hl7).mono ?_
            rintro e w7 ⟨rfl, rfl⟩
            go_wp2_with fail
            exact ⟨⟨j + 1, F5, d', m', by omega, by omega, by go_num, s7, hl7, hFB5, HM1.out, HM2.out, by have := HM2.out; omega, hpr5⟩, by simp [intOf]; omega⟩
          · have b3 : (x == 3) = false := by simp [hx3]
            clear hx3 h3x
            go_wp2_with fail
            refine (room_any B D _ w5 hl6 hmc hmn).mono ?_
            rintro e w6 ⟨rfl, q6, rfl⟩
            have hl7 : LogAt (w5.drewN q6) B D m' := hl6
            have s7 := s5.ch' ((Ch.refl (fun _ => False) w5).drewN q6)
            clear s5 hl5 hl6
            go_wp2_with fail
            refine (next_any B D _ _ hl7).mono ?_
            rintro e w7 ⟨rfl, rfl⟩
            go_wp2_with fail
            exact ⟨⟨j + 1, F5, d', m', by omega, by omega, by go_num, s7, hl7, hFB5, HM1.out, HM2.out, by have := HM2.out; omega, hpr5⟩, by simp [intOf]; omega⟩
      · obtain rfl : j = 60 := by omega
        have hch := sr.ch
        have b0 : decide ((60 : Int) < ss.length) = true := by simp; omega
        go_wp2
        go_ret
        exact ⟨rfl, hch⟩
    · obtain rfl : j = ss.length := by omega
      have hch := sr.ch
      go_wp2
      go_ret
      exact ⟨rfl, hch⟩
end Go.Proofs.Ytjhnkpohdlilpaa
