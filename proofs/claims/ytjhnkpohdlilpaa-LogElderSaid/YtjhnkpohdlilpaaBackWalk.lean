/-
  LogBack: the walk
-/
import Derived.Test.YtjhnkpohdlilpaaTexts
import Derived.Test.YtjhnkpohdlilpaaGrown
import Derived.Test.YtjhnkpohdlilpaaRoomWalk
import Derived.Test.YtjhnkpohdlilpaaPlainA
import Derived.Test.YtjhnkpohdlilpaaAwake
import Derived.Test.YtjhnkpohdlilpaaSys
import Derived.Test.YtjhnkpohdlilpaaAwakePlain
import Derived.Test.YtjhnkpohdlilpaaOpen
import Derived.Test.YtjhnkpohdlilpaaOpenMain
import Derived.Test.YtjhnkpohdlilpaaOpenBad
import Derived.Test.YtjhnkpohdlilpaaReadAll
import Derived.Test.YtjhnkpohdlilpaaReadLem
import Derived.Test.YtjhnkpohdlilpaaSteps
import Derived.Maps.AppendAt
import Derived.Laws.BytesString
import Derived.Test.YtjhnkpohdlilpaaAppend
import Derived.Test.YtjhnkpohdlilpaaAppendOk
import Derived.Test.YtjhnkpohdlilpaaAppendLem
import Derived.Test.YtjhnkpohdlilpaaLogSmall
import Derived.Test.YtjhnkpohdlilpaaNewDisk
import Derived.Test.YtjhnkpohdlilpaaCrash
import Derived.Test.YtjhnkpohdlilpaaFlush
import Derived.Test.YtjhnkpohdlilpaaWrite
import Derived.Test.YtjhnkpohdlilpaaAppendPend
import Derived.Deep.AppendLies
import Derived.Great.BuildSlice
import Derived.Test.YtjhnkpohdlilpaaDiskLem
import Derived.Test.YtjhnkpohdlilpaaRead
import Derived.Test.YtjhnkpohdlilpaaOut
import Derived.Test.YtjhnkpohdlilpaaDiskSmall
import Derived.Test.YtjhnkpohdlilpaaDisk
import Derived.Test.YtjhnkpohdlilpaaAtom
import Derived.Test.YtjhnkpohdlilpaaDecode
import Derived.Test.YtjhnkpohdlilpaaEncode
import Derived.Test.YtjhnkpohdlilpaaTake
import Derived.Test.YtjhnkpohdlilpaaCopy
import Derived.Laws.CopyOwn
import Derived.Deep.OwnRows
import Derived.Deep.MidRow
import Derived.Test.YtjhnkpohdlilpaaPut
import Derived.Test.YtjhnkpohdlilpaaRows
import Derived.Test.YtjhnkpohdlilpaaWords
import Derived.Test.YtjhnkpohdlilpaaMem
import Derived.Test.YtjhnkpohdlilpaaTail
import Derived.Test.YtjhnkpohdlilpaaCrc
import Derived.Test.YtjhnkpohdlilpaaArr
import Derived.RangeFuncNested
import Derived.RangeFuncBound
import Derived.RangeFuncCalls
import Derived.RangeFuncLeaves
import Derived.Shelf.Abstract
import Derived.Shelf.RegionOpen
import Derived.WalkKit
import Derived.OwnWalkIn
import Derived.TacticsInMore
import Derived.LoopNIn
import Derived.LoopIn
import Derived.WalkSpells
import Derived.WalkLawsBesides
import Derived.Lib.Hide
import Derived.BigQuiet
import Derived.Outline
import Derived.Deep.DeepFit
namespace Go.Proofs.Ytjhnkpohdlilpaa
open Go.RowKit Go.Shelf
attribute [local go_sem] Oper.semAt_some
theorem srcv_own {w : World} {base n : Nat} {a : Option Addr} {c : Nat} {l : List ByteArray} (h : w.ownsRow base 9 1 (.slice a n c) l.length (l.map Value.string)) : SrcV (fun _ => False) w a (l.map Value.string) := by
  intro hne
  have hpos : 0 < l.length := by
    rcases l with _ | ⟨x, l⟩
    · exact absurd rfl hne
    · simp
  obtain ⟨g, cap, hv, _, _⟩ := h.form (by omega)
  injection hv with ha hn hc
  subst ha
  refine ⟨g, 0, rfl, id, fun j y hy => ?_⟩
  have := h.cells (g := g) rfl j y hy
  rw [addr_add] at this
  exact this
theorem DS.over {w0 w w' : World} {F S : Nat → Prop} {D : Nat} {d : DM} (h : DS w0 w F D d) (hc : Ch S w w') (h1 : ∀ i, S i → ¬ F i ∧ w0.heap.size ≤ i) : DS w0 w' F D d :=
  ⟨h.dk.keep hc (fun i hi e => (h1 i e).1 hi), h.ch.trans hc (fun i hi e => by have := (h1 i e).2; omega), h.old⟩
/-- a list of strings of the call's own -/
structure OwnL (w : World) (base : Nat) (F : Nat → Prop) (B : Nat) (v : Value) (l : List ByteArray) : Prop where
  own : w.ownsRow base 9 1 v l.length (l.map Value.string)
  off : ∀ i, v.ownBlock = some i → ¬ F i ∧ i ≠ B
set_option maxHeartbeats 4000000 in
set_option maxRecDepth 100000 in
theorem back_true (ss : List ByteArray) (ep other : BitVec 32) (a0 : Option Addr) (c0 : Nat) (w : World) (hs : SrcV (fun _ => False) w a0 (ss.map Value.string)) (hlen : ss.length ≤ 140737488355328) (hsz : ∀ s ∈ ss, s.size ≤ 140737488355328) :
    Calls Try.prog 3 #[.slice a0 ss.length c0, U32 ep, U32 other] w fun e w' => e = .returned (.bool true) ∧ Ch (fun _ => False) w w' := by
  go_enter Try.func3, Try.ntmps3
  go_wp2_with fail
  refine (awake_any w).mono ?_
  rintro e w1 ⟨rfl, hc1⟩
  go_wp2_with fail
  refine (new_any 300 w1).mono ?_
  rintro e w2 (⟨hb, _⟩ | ⟨hn1, hn2, D, F, rfl, hdk, hc2, hold⟩)
  · omega
  have s2 : DS w w2 F D (DM.new 300) := ⟨hdk, hc1.trans hc2 (fun _ _ e => e), fun i hi => Nat.le_trans hc1.size (hold i hi)⟩
  clear hdk hc2 hold hc1
  have ho := open_new 300 50 200 ep (by omega) (by omega)
  go_wp2_with fail
  refine (open_ds s2 50 200 ep (by omega) (by show 50 + 200 ≤ 300; omega) (by show 0 ≤ _; omega) (by rw [ho]) (by rw [ho])).mono ?_
  rintro e w3 ⟨B, ra, rc, rfl, F3, s3, hl3, hB, -, hFB3, mv3, -, -⟩
  rw [ho] at s3
  clear ho s2
  clear mv3
  change DS w w3 F3 D (DM.born 300 50) at s3
  go_wp2_with fail
  have hg0 : Grown (DM.born 300 50) ⟨50, 200, ep, 1, 1⟩ [] [] 50 200 ep 1 0 := (begun_new 300 50 200 ep (by omega) (by omega) (by omega)).grown
  go_loopw [13, 14] (fun v i wr => ∃ (j : Nat) (F' : Nat → Prop) (d : DM) (m : LM) (N : List ByteArray), j ≤ ss.length ∧ j ≤ 100 ∧ i = .int .i64 j ∧ DS w wr F' D d ∧ LogAt wr B D m ∧ ¬ F' B ∧ OwnL wr w.heap.size F' B v N ∧ Grown d m [] (N.map strBytes) 50 200 ep 1 0 ∧ d.down = false ∧ d.left < 0 ∧ d.pend.length ≤ 42 * j ∧ N.length ≤ j) (fun _ i _ => 100 - (intOf i).toNat)
  case atStart => exact ⟨0, F3, DM.born 300 50, ⟨50, 200, ep, 1, 1⟩, [], Nat.zero_le _, Nat.zero_le _, rfl, s3, hl3, hFB3, ⟨World.ownsRow_nil _ _ _ _, fun i hi => (by cases hi)⟩, hg0, rfl, (by show (-1 : Int) < 0; omega), Nat.zero_le _, Nat.zero_le _⟩
  case round =>
    obtain ⟨j, F', d, m, N, hj, hj60, rfl, sr, hlr, hFBr, hN, hg, hdn, hlf, hpr, hNl⟩ := hrel
    obtain ⟨wo, rfl⟩ : ∃ x, x = wr := ⟨_, rfl⟩
    have hbd := hg.bound
    have hrg := hg.kept.reg
    by_cases hlt : j < ss.length
    · by_cases h60 : j < 100
      · have l1 : (j : Int) < ss.length := by omega
        have l2 : (j : Int) < 100 := by omega
        go_wp2_with fail
        obtain ⟨ob, off, rfl, -, hcell⟩ := hs (by intro e; rw [List.map_eq_nil_iff] at e; rw [e] at hlt; simp at hlt)
        have hlen' := hsz ss[j] (List.getElem_mem hlt)
        have cw := hcell j (.string ss[j]) (by rw [List.getElem?_map, List.getElem?_eq_getElem hlt]; rfl)
        have ck := (sr.ch).cell cw id
        generalize ss[j] = s at *
        have HM := Lib.hid hbd
        have gs : (s.size : Int) ≤ 140737488355328 := by omega
        have hmn : m.next ≤ m.count := by omega
        have hmc : m.count ≤ 4096 := by omega
        have hm1 : m.first + m.count ≤ 4096 := by omega
        have hmd : m.first + m.count ≤ d.n := by omega
        have HR := Lib.hid hrg
        have HG := Lib.hid hg
        have HS := Lib.hid hN
        have HD := Lib.hid (And.intro hdn hlf)
        clear hbd hrg hg hN
        refine (room_any B D m wo hlr hmc hmn).mono ?_
        rintro e w4 ⟨rfl, q4, rfl⟩
        have hl4 : LogAt (wo.drewN q4) B D m := hlr
        have s4 := sr.ch' ((Ch.refl (fun _ => False) wo).drewN q4)
        have hN4 : OwnL (wo.drewN q4) w.heap.size F' B _ N := ⟨own_ch HS.out.own ((Ch.refl (fun _ => False) wo).drewN q4) (fun _ _ e => e), HS.out.off⟩
        clear hlr sr HS
        go_wp2_with fail
        have hfa := m.append_facts d (strBytes s)
        have hun := m.append_un d (strBytes s) hdn hlf hmd hmn
        have hga := HG.out.append (strBytes s)
        rw [strBytes_length] at hfa hun
        have happ := app_ds s4 hl4 hB hFBr s (by omega) hm1 hmn hlen'
        generalize m.append d (strBytes s) = r at *
        obtain ⟨x, m', d'⟩ := r
        have HFA := Lib.hid hfa
        have HUN := Lib.hid hun
        have HGA := Lib.hid hga
        clear hfa hun hga HG
        refine happ.mono ?_
        clear happ
        rintro e w5 ⟨rfl, F5, s5, hl5, hFB5, mv5⟩
        have hpr5 : d'.pend.length ≤ 42 * (j + 1) := by have h9 : d'.pend.length ≤ d.pend.length + 42 := HFA.out.2.2.1; omega
        have hN5 := mv5.own hN4.own hN4.off
        have ck5 := (s5.ch).cell cw id
        clear s4 hl4 hFBr mv5 hN4 hdn hlf HD
        have hux : (2000 < s.size ∧ x = 2) ∨ (s.size ≤ 2000 ∧ m.count - m.next < secs s.size ∧ x = 3) ∨ (s.size ≤ 2000 ∧ secs s.size ≤ m.count - m.next ∧ x = 0) := HUN.out.2.2
        have hex : (x = 0 ∧ s.size ≤ 2000 ∧ secs s.size ≤ m.count - m.next ∧ m' = { m with next := m.next + secs s.size }) ∨ (x ≠ 0 ∧ m' = m) := HFA.out.1
        have hgx : (x = 0 ∧ Grown d' m' [] (N.map strBytes ++ [strBytes s]) 50 200 ep 1 0) ∨ (x ≠ 0 ∧ Grown d' m' [] (N.map strBytes) 50 200 ep 1 0) := HGA.out
        change LogAt w5 B D m' at hl5
        rcases hux with ⟨hz, rfl⟩ | ⟨hz, hroom, rfl⟩ | ⟨hz, hroom, rfl⟩
        · have g2 : (2000 : Int) < s.size := by omega
          have HGX := Lib.hid (hgx.resolve_left (fun e => by omega)).2
          have HN5 := Lib.hid hN5
          clear hgx hex hN5
          go_wp2_with fail
          exact ⟨⟨j + 1, F5, d', m', N, by omega, by omega, by go_num, s5, hl5, hFB5, ⟨HN5.out.1, HN5.out.2⟩, HGX.out, HUN.out.1, HUN.out.2.1, hpr5, by omega⟩, by simp [intOf]; omega⟩
        · have g2 : ¬ (2000 : Int) < s.size := by omega
          have HGX := Lib.hid (hgx.resolve_left (fun e => by omega)).2
          have HN5 := Lib.hid hN5
          have bF : decide (((secs s.size : Nat) : Int) ≤ ((m.count - m.next : Nat) : Int)) = false := by simp; omega
          clear hgx hex hN5
          go_wp2_with fail
          refine (sectors13 s.size _ hlen').mono ?_
          rintro e w6 ⟨rfl, rfl⟩
          go_wp2_with fail
          exact ⟨⟨j + 1, F5, d', m', N, by omega, by omega, by go_num, s5, hl5, hFB5, ⟨HN5.out.1, HN5.out.2⟩, HGX.out, HUN.out.1, HUN.out.2.1, hpr5, by omega⟩, by simp [intOf]; omega⟩
        · have g2 : ¬ (2000 : Int) < s.size := by omega
          have HGX := Lib.hid (hgx.resolve_right (fun e => e.1 rfl)).2
          have bF : decide (((secs s.size : Nat) : Int) ≤ ((m.count - m.next : Nat) : Int)) = true := by simp; omega
          have hb5 : w.heap.size ≤ w5.heap.size := s5.ch.size
          clear hgx hex
          go_wp2_with fail
          refine (sectors13 s.size _ hlen').mono ?_
          rintro e w6 ⟨rfl, rfl⟩
          go_wp2_with ((refine wpList_append_str rfl (.tmp 101) (.tmp 106) rfl w.heap.size _ N rfl (hN5.1.alloc _) w6.heap.size s (Blk.new w6 9 _) rfl (by omega) (by rw [World.size_alloc]; omega) ?_
                        intro rv' w7 hR7 hc7 hnew7))
          have hc67 := ((Ch.refl _ w6).alloc _).trans hc7 (fun _ _ e => e)
          have s7 := s5.over hc67 (fun i hi => ⟨(hN5.2 i hi).1, (hN5.1.lt i hi).1⟩)
          have hl7 : LogAt w7 B D m' := hc67.blk hl5 (fun e => (hN5.2 B e).2 rfl)
          have hlt7 : ∀ i, F5 i → i < w6.heap.size := fun i hi => s5.dk.lt i hi
          have hBl := Blk.lt hl5
          refine ⟨⟨j + 1, F5, d', m', N ++ [s], by omega, by omega, by go_num, s7, hl7, hFB5, ⟨hR7, fun i hi => ?_⟩, by rw [List.map_append]; exact HGX.out, HUN.out.1, HUN.out.2.1, hpr5, by rw [List.length_append]; show N.length + 1 ≤ j + 1; omega⟩, by simp [intOf]; omega⟩
          rcases hnew7 i hi with h | h
          · exact hN5.2 i h
          · have h9 : i = w6.heap.size + 1 := by rw [← h, World.size_alloc]
            exact ⟨fun e => by have := hlt7 i e; omega, by omega⟩
      · obtain rfl : j = 100 := by omega
        have b0 : decide ((100 : Int) < ss.length) = true := by simp; omega
        clear hlen hsz hs
        obtain ⟨av, cv, rfl⟩ := own_len hN.own
        have hflu := DM.flush_un d hdn hlf
        have hg4 : Grown d.flush.2 m [] (N.map strBytes) 50 200 ep 1 (N.map strBytes).length ∧ d.flush.2.down = false ∧ d.flush.2.pend = [] := by
          rcases hg.flush with ⟨_, _, x1, x2, x3⟩ | ⟨x, _⟩
          · exact ⟨x3, x1, x2⟩
          · rw [hflu.1] at x; cases x
        have hlf4 : d.flush.2.left < 0 := by rw [hflu.2]; exact hlf
        have hN100 : N.length ≤ 100 := by omega
        have hb2 := Lib.hid hbd
        have hr2 := Lib.hid hrg
        clear hg hbd hrg
        go_wp2_with fail
        refine (sync_any B m F' D d wo hlr sr.dk (by omega)).mono ?_
        rintro e w4 ⟨F4, rfl, st4⟩
        rw [hflu.1]
        have s4 := sr.step st4
        obtain ⟨hN4, hN4o⟩ := (st4.mv B).own hN.own hN.off
        generalize d.flush.2 = d4 at *
        have HG := Lib.hid hg4
        clear sr st4 hlr hflu hlf hdn hpr hN hFBr hg4
        go_wp2_with fail
        have s4' := s4.alloc (.cells #[.bool true, .bool true, .bool true] 4)
        have hN4' := hN4.alloc (.cells #[.bool true, .bool true, .bool true] 4)
        have hsrc : SrcV F4 (w4.alloc (.cells #[.bool true, .bool true, .bool true] 4)) (some ⟨w4.heap.size, 0, none⟩) ([true, true, true].map Value.bool) := fun _ => ⟨w4.heap.size, 0, rfl, fun e => by have := s4.dk.lt _ e; omega, fun j y hy => by
          rw [Nat.zero_add]
          exact (Blk.new w4 4 #[.bool true, .bool true, .bool true]).cell (by simpa using hy)⟩
        have hcr := crash_any F4 D d4 [true, true, true] (some ⟨w4.heap.size, 0, none⟩) 3 _ s4'.dk hsrc (by decide) (by rw [HG.out.2.2]; decide)
        refine hcr.mono ?_
        clear hcr hsrc
        rintro e w5 ⟨F5, rfl, st5⟩
        have s5 := s4'.step st5
        obtain ⟨hN5, hN5o⟩ := (st5.mv B).own hN4' hN4o
        have hk5 : Kept (d4.crash [true, true, true]) [] (N.map strBytes) 50 200 ep 1 (N.map strBytes).length := HG.out.1.kept.crash _
        have hd5 : (d4.crash [true, true, true]).down = false := rfl
        have hlf5 : (d4.crash [true, true, true]).left < 0 := by show (-1 : Int) < 0; omega
        have hp5 : (d4.crash [true, true, true]).pend = [] := rfl
        generalize crCnt [true, true, true] d4.pend.length = cc at *
        generalize d4.crash [true, true, true] = d5 at *
        clear s4 s4' st5 hN4 hN4o hN4' hlf4 HG
        have hh5 : (headOf (d5.now 50)).toNat < 4294967295 := by have := hk5.own.2.2; omega
        have hun5 := d5.open_un 50 200 ep hk5.reg.1 (by omega) hd5 hlf5 hh5
        have ho5 : ∃ m6, (d5.open 50 200 ep).2.2 = some (m6, N.map strBytes) ∧ Begun (d5.open 50 200 ep).2.1 m6 (N.map strBytes) 50 200 ep 2 := by
          rcases hk5.open (by omega) hd5 with ⟨_, m6, recs, jj, x1, x2, x3, x4, x5⟩ | ⟨x, _⟩
          · rw [show jj = (N.map strBytes).length by omega, List.nil_append, take_all] at x4
            subst x4
            exact ⟨m6, x1, x5⟩
          · rw [hun5.1] at x; cases x
        obtain ⟨m6, ho6, hb6⟩ := ho5
        have hreg5 := hk5.reg.1
        have HK := Lib.hid hk5
        clear hk5 hh5
        go_wp2_with fail
        refine (open_ds s5 50 200 ep (by omega) hreg5 (by rw [hp5]; exact Nat.zero_le _) hun5.1 ho6).mono ?_
        rintro e w6 ⟨B6, ra, rc, he, F6, s6, hl6, hB6, hBw6, hFB6, mv6, hown6, hne6⟩
        obtain ⟨hN6, hN6o⟩ := mv6.own hN5 (fun i hi => ⟨(hN5o i hi).1, by have := (hN5.lt i hi).2; omega⟩)
        have hmm : (N.map strBytes).map strOf = N := by
          rw [List.map_map]
          have hid : (strOf ∘ strBytes) = (id : ByteArray → ByteArray) := funext fun s => strOf_strBytes s
          rw [hid, List.map_id]
        have hu6 : (d5.open 50 200 ep).2.1.left < 0 := by rw [hun5.2]; exact hlf5
        rw [hmm, List.length_map] at hown6
        rw [List.length_map] at he
        subst he
        have hkb := hb6.grown.kept
        have hoo := hkb.open_other (by omega) hb6.on hu6 other
        have hreg6 := hkb.reg.1
        have hp6 := hb6.pend
        have HB6 := Lib.hid hb6
        generalize (d5.open 50 200 ep).2.1 = d6 at *
        clear s5 hN5 hN5o ho6 hun5 hlf5 hd5 hp5 mv6 HK hkb hb6 hne6 HB6
        have src1 := srcv_own hown6
        have src2 := srcv_own hN6
        go_wp2_with fail
        refine (texts_any N N _ _ rc cv w6 src1 src2 (by omega)).mono ?_
        rintro e w7 ⟨rfl, hc7⟩
        have s7 := s6.ch' hc7
        clear src1 src2 hown6 hN6 hN6o s6 hl6
        rw [decide_eq_true rfl]
        obtain ⟨hoo1, m8, recs8, hoo2, hoo3⟩ := hoo
        go_wp2_with fail
        refine (open_ds s7 50 200 other (by omega) hreg6 (by rw [hp6]; exact Nat.zero_le _) hoo1 hoo2).mono ?_
        rintro e w8 ⟨B8, ra8, rc8, rfl, F8, s8, hl8, hB8, -, hFB8, -, -, -⟩
        clear hoo2 hoo1 s7
        have hch := s8.ch
        by_cases heq : ep = other
        · subst heq
          have hoo3' := Lib.hid hoo3
          clear hoo3
          go_wp2
          go_ret
          exact ⟨rfl, hch⟩
        · obtain rfl := hoo3 (fun e => heq e.symm)
          have hne : (ep == other) = false := by simpa using heq
          go_wp2
          go_ret
          exact ⟨rfl, hch⟩
    · obtain rfl : j = ss.length := by omega
      have hle : ss.length ≤ 100 := hj60
      clear hlen hsz hs
      obtain ⟨av, cv, rfl⟩ := own_len hN.own
      have hflu := DM.flush_un d hdn hlf
      have hg4 : Grown d.flush.2 m [] (N.map strBytes) 50 200 ep 1 (N.map strBytes).length ∧ d.flush.2.down = false ∧ d.flush.2.pend = [] := by
        rcases hg.flush with ⟨_, _, x1, x2, x3⟩ | ⟨x, _⟩
        · exact ⟨x3, x1, x2⟩
        · rw [hflu.1] at x; cases x
      have hlf4 : d.flush.2.left < 0 := by rw [hflu.2]; exact hlf
      have hN100 : N.length ≤ 100 := by omega
      have hb2 := Lib.hid hbd
      have hr2 := Lib.hid hrg
      clear hg hbd hrg
      go_wp2_with fail
      refine (sync_any B m F' D d wo hlr sr.dk (by omega)).mono ?_
      rintro e w4 ⟨F4, rfl, st4⟩
      rw [hflu.1]
      have s4 := sr.step st4
      obtain ⟨hN4, hN4o⟩ := (st4.mv B).own hN.own hN.off
      generalize d.flush.2 = d4 at *
      have HG := Lib.hid hg4
      clear sr st4 hlr hflu hlf hdn hpr hN hFBr hg4
      go_wp2_with fail
      have s4' := s4.alloc (.cells #[.bool true, .bool true, .bool true] 4)
      have hN4' := hN4.alloc (.cells #[.bool true, .bool true, .bool true] 4)
      have hsrc : SrcV F4 (w4.alloc (.cells #[.bool true, .bool true, .bool true] 4)) (some ⟨w4.heap.size, 0, none⟩) ([true, true, true].map Value.bool) := fun _ => ⟨w4.heap.size, 0, rfl, fun e => by have := s4.dk.lt _ e; omega, fun j y hy => by
        rw [Nat.zero_add]
        exact (Blk.new w4 4 #[.bool true, .bool true, .bool true]).cell (by simpa using hy)⟩
      have hcr := crash_any F4 D d4 [true, true, true] (some ⟨w4.heap.size, 0, none⟩) 3 _ s4'.dk hsrc (by decide) (by rw [HG.out.2.2]; decide)
      refine hcr.mono ?_
      clear hcr hsrc
      rintro e w5 ⟨F5, rfl, st5⟩
      have s5 := s4'.step st5
      obtain ⟨hN5, hN5o⟩ := (st5.mv B).own hN4' hN4o
      have hk5 : Kept (d4.crash [true, true, true]) [] (N.map strBytes) 50 200 ep 1 (N.map strBytes).length := HG.out.1.kept.crash _
      have hd5 : (d4.crash [true, true, true]).down = false := rfl
      have hlf5 : (d4.crash [true, true, true]).left < 0 := by show (-1 : Int) < 0; omega
      have hp5 : (d4.crash [true, true, true]).pend = [] := rfl
      generalize crCnt [true, true, true] d4.pend.length = cc at *
      generalize d4.crash [true, true, true] = d5 at *
      clear s4 s4' st5 hN4 hN4o hN4' hlf4 HG
      have hh5 : (headOf (d5.now 50)).toNat < 4294967295 := by have := hk5.own.2.2; omega
      have hun5 := d5.open_un 50 200 ep hk5.reg.1 (by omega) hd5 hlf5 hh5
      have ho5 : ∃ m6, (d5.open 50 200 ep).2.2 = some (m6, N.map strBytes) ∧ Begun (d5.open 50 200 ep).2.1 m6 (N.map strBytes) 50 200 ep 2 := by
        rcases hk5.open (by omega) hd5 with ⟨_, m6, recs, jj, x1, x2, x3, x4, x5⟩ | ⟨x, _⟩
        · rw [show jj = (N.map strBytes).length by omega, List.nil_append, take_all] at x4
          subst x4
          exact ⟨m6, x1, x5⟩
        · rw [hun5.1] at x; cases x
      obtain ⟨m6, ho6, hb6⟩ := ho5
      have hreg5 := hk5.reg.1
      have HK := Lib.hid hk5
      clear hk5 hh5
      go_wp2_with fail
      refine (open_ds s5 50 200 ep (by omega) hreg5 (by rw [hp5]; exact Nat.zero_le _) hun5.1 ho6).mono ?_
      rintro e w6 ⟨B6, ra, rc, he, F6, s6, hl6, hB6, hBw6, hFB6, mv6, hown6, hne6⟩
      obtain ⟨hN6, hN6o⟩ := mv6.own hN5 (fun i hi => ⟨(hN5o i hi).1, by have := (hN5.lt i hi).2; omega⟩)
      have hmm : (N.map strBytes).map strOf = N := by
        rw [List.map_map]
        have hid : (strOf ∘ strBytes) = (id : ByteArray → ByteArray) := funext fun s => strOf_strBytes s
        rw [hid, List.map_id]
      have hu6 : (d5.open 50 200 ep).2.1.left < 0 := by rw [hun5.2]; exact hlf5
      rw [hmm, List.length_map] at hown6
      rw [List.length_map] at he
      subst he
      have hkb := hb6.grown.kept
      have hoo := hkb.open_other (by omega) hb6.on hu6 other
      have hreg6 := hkb.reg.1
      have hp6 := hb6.pend
      have HB6 := Lib.hid hb6
      generalize (d5.open 50 200 ep).2.1 = d6 at *
      clear s5 hN5 hN5o ho6 hun5 hlf5 hd5 hp5 mv6 HK hkb hb6 hne6 HB6
      have src1 := srcv_own hown6
      have src2 := srcv_own hN6
      go_wp2_with fail
      refine (texts_any N N _ _ rc cv w6 src1 src2 (by omega)).mono ?_
      rintro e w7 ⟨rfl, hc7⟩
      have s7 := s6.ch' hc7
      clear src1 src2 hown6 hN6 hN6o s6 hl6
      rw [decide_eq_true rfl]
      obtain ⟨hoo1, m8, recs8, hoo2, hoo3⟩ := hoo
      go_wp2_with fail
      refine (open_ds s7 50 200 other (by omega) hreg6 (by rw [hp6]; exact Nat.zero_le _) hoo1 hoo2).mono ?_
      rintro e w8 ⟨B8, ra8, rc8, rfl, F8, s8, hl8, hB8, -, hFB8, -, -, -⟩
      clear hoo2 hoo1 s7
      have hch := s8.ch
      by_cases heq : ep = other
      · subst heq
        have hoo3' := Lib.hid hoo3
        clear hoo3
        go_wp2
        go_ret
        exact ⟨rfl, hch⟩
      · obtain rfl := hoo3 (fun e => heq e.symm)
        have hne : (ep == other) = false := by simpa using heq
        go_wp2
        go_ret
        exact ⟨rfl, hch⟩
end Go.Proofs.Ytjhnkpohdlilpaa
