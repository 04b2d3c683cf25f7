/-
  LogElder: the walk
-/
import Derived.Test.YtjhnkpohdlilpaaElder
import Derived.Test.YtjhnkpohdlilpaaBackWalk
import Derived.Test.YtjhnkpohdlilpaaTexts
import Derived.Test.YtjhnkpohdlilpaaGrown
import Derived.Test.YtjhnkpohdlilpaaRoomWalk
import Derived.Test.YtjhnkpohdlilpaaPlainA
import Derived.Test.YtjhnkpohdlilpaaAwake
import Derived.Test.YtjhnkpohdlilpaaSys
import Derived.Test.YtjhnkpohdlilpaaAwakePlain
import Derived.Test.YtjhnkpohdlilpaaOpen
import Derived.Test.YtjhnkpohdlilpaaOpenMain
import Derived.Test.YtjhnkpohdlilpaaOpenBad
import Derived.Test.YtjhnkpohdlilpaaReadAll
import Derived.Test.YtjhnkpohdlilpaaReadLem
import Derived.Test.YtjhnkpohdlilpaaSteps
import Derived.Maps.AppendAt
import Derived.Laws.BytesString
import Derived.Test.YtjhnkpohdlilpaaAppend
import Derived.Test.YtjhnkpohdlilpaaAppendOk
import Derived.Test.YtjhnkpohdlilpaaAppendLem
import Derived.Test.YtjhnkpohdlilpaaLogSmall
import Derived.Test.YtjhnkpohdlilpaaNewDisk
import Derived.Test.YtjhnkpohdlilpaaCrash
import Derived.Test.YtjhnkpohdlilpaaFlush
import Derived.Test.YtjhnkpohdlilpaaWrite
import Derived.Test.YtjhnkpohdlilpaaAppendPend
import Derived.Deep.AppendLies
import Derived.Great.BuildSlice
import Derived.Test.YtjhnkpohdlilpaaDiskLem
import Derived.Test.YtjhnkpohdlilpaaRead
import Derived.Test.YtjhnkpohdlilpaaOut
import Derived.Test.YtjhnkpohdlilpaaDiskSmall
import Derived.Test.YtjhnkpohdlilpaaDisk
import Derived.Test.YtjhnkpohdlilpaaAtom
import Derived.Test.YtjhnkpohdlilpaaDecode
import Derived.Test.YtjhnkpohdlilpaaEncode
import Derived.Test.YtjhnkpohdlilpaaTake
import Derived.Test.YtjhnkpohdlilpaaCopy
import Derived.Laws.CopyOwn
import Derived.Deep.OwnRows
import Derived.Deep.MidRow
import Derived.Test.YtjhnkpohdlilpaaPut
import Derived.Test.YtjhnkpohdlilpaaRows
import Derived.Test.YtjhnkpohdlilpaaWords
import Derived.Test.YtjhnkpohdlilpaaMem
import Derived.Test.YtjhnkpohdlilpaaTail
import Derived.Test.YtjhnkpohdlilpaaCrc
import Derived.Test.YtjhnkpohdlilpaaArr
import Derived.RangeFuncNested
import Derived.RangeFuncBound
import Derived.RangeFuncCalls
import Derived.RangeFuncLeaves
import Derived.Shelf.Abstract
import Derived.Shelf.RegionOpen
import Derived.WalkKit
import Derived.OwnWalkIn
import Derived.TacticsInMore
import Derived.LoopNIn
import Derived.LoopIn
import Derived.WalkSpells
import Derived.WalkLawsBesides
import Derived.Lib.Hide
import Derived.BigQuiet
import Derived.Outline
import Derived.Deep.DeepFit
namespace Go.Proofs.Ytjhnkpohdlilpaa
open Go.RowKit Go.Shelf
attribute [local go_sem] Oper.semAt_some
theorem info4 : (Try.prog.info? 4).map (fun i => (i.zero, i.size, i.bytes)) = some (some (.bool false), 1, 1) := by kernel_rfl
theorem und39 : Try.prog.underlying 39 = some (.slice 4) := by kernel_rfl
/-- 'append(list, x)' of a bool -/
theorem wpList_append_bool {ops : Array Oper} {rest : List Oper} {o : Oper} {a : Act} {w : World} {Q : Exit → Act → World → Prop} (hgd : o.guard = none) (s x : Operand) (ho : o.op = .call { callee := .builtin .append, args := #[s, x], argTypes := #[39, 39] })
    (base : Nat) (v : Value) (l : List Bool) (hs : a.eval s = v) (hown : w.ownsRow base 4 1 v l.length (l.map Value.bool)) (A : Nat) (y : Bool) (hA : Blk w A 4 #[.bool y]) (hx : a.eval x = .slice (some ⟨A, 0, none⟩) 1 1) (hn : l.length ≤ 1099511627776) (hbase : base ≤ w.heap.size)
    (next : ∀ v' w', w'.ownsRow base 4 1 v' (l ++ [y]).length ((l ++ [y]).map Value.bool) → Ch (fun i => v.ownBlock = some i) w w' → (∀ i, v'.ownBlock = some i → v.ownBlock = some i ∨ w.heap.size = i) → wpList Try.prog ops Q rest (a.put o.dst v') w') : wpList Try.prog ops Q (o :: rest) a w := by
  obtain ⟨i0, hi, hz0, hz1, hz2⟩ := info_parts info4
  refine wpList_append_own_at _ hgd s x 39 ho base 4 i0 _ 1 1 und39 hi hz0 hz1 hz2 rfl (by omega) v l.length (l.map Value.bool) hs hown ⟨A, 0, none⟩ 1 1 [.bool y] hx rfl ?_ ?_ (by unfold maxLen; omega) (by omega) hbase ?_
  · intro j u hu
    rw [addr_add, Nat.zero_add]
    exact hA.cell (by simpa using hu)
  · intro u hu
    rw [List.mem_singleton.1 hu]
    rfl
  · intro v' w' h1 h2 _ h4
    refine next v' w' (by simpa using h1) ⟨h2.os, h2.tape, h2.output, h2.size, fun k hk hn => h2.block k hk (fun e => hn e.symm)⟩ ?_
    intro i hi'
    rcases h4 with h4 | h4
    · rw [h4] at hi'; exact Or.inl hi'
    · rw [h4] at hi'; exact Or.inr (Option.some.inj hi')
/-- a new block is the call's own -/
theorem own_new (w : World) (t : TypeId) (cs : Array Value) (base : Nat) (hb : base ≤ w.heap.size) (hc : cs.size ≤ maxLen) : (w.alloc (.cells cs t)).ownsRow base t 1 (.slice (some ⟨w.heap.size, 0, none⟩) cs.size cs.size) cs.size cs.toList := by
  refine ⟨by simp, Or.inr ⟨w.heap.size, cs.size, cs, rfl, hb, ?_, Nat.le_refl _, hc, by simp, by rw [Nat.mul_one]; exact List.take_of_length_le (by simp)⟩⟩
  exact (Blk.new w t cs)
theorem srcv_ownX {X : Nat → Prop} {w : World} {base t n m : Nat} {a : Option Addr} {c : Nat} {xs : List Value} (h : w.ownsRow base t 1 (.slice a n c) m xs) (hX : ∀ i, (Value.slice a n c).ownBlock = some i → ¬ X i) : SrcV X w a xs := by
  intro hne
  have hpos : 0 < m := by
    have := h.1
    rcases xs with _ | ⟨x, l⟩
    · exact absurd rfl hne
    · simp at this; omega
  obtain ⟨g, cap, hv, _, _⟩ := h.form (by omega)
  injection hv with ha hn hc
  subst ha
  refine ⟨g, 0, rfl, hX g rfl, fun j y hy => ?_⟩
  have := h.cells (g := g) rfl j y hy
  rw [addr_add] at this
  exact this
set_option maxHeartbeats 4000000 in
set_option maxRecDepth 100000 in
theorem elder_true (s1 s2 : ByteArray) (ss : List ByteArray) (a0 : Option Addr) (c0 : Nat) (w : World) (hs : SrcV (fun _ => False) w a0 (ss.map Value.string)) (hsz : ∀ s ∈ ss, s.size ≤ 140737488355328) (hz1 : s1.size ≤ 140737488355328) (hz2 : s2.size ≤ 140737488355328) :
    Calls Try.prog 4 #[.string s1, .slice a0 ss.length c0, .string s2] w fun e w' => e = .returned (.bool true) ∧ Ch (fun _ => False) w w' := by
  go_enter Try.func4, Try.ntmps4
  go_wp2_with fail
  refine (awake_any w).mono ?_
  rintro e w1 ⟨rfl, hc1⟩
  go_wp2_with fail
  refine (new_any 300 w1).mono ?_
  rintro e w2 (⟨hb, _⟩ | ⟨hn1, hn2, D, F, rfl, hdk, hc2, hold⟩)
  · omega
  have s2' : DS w w2 F D (DM.new 300) := ⟨hdk, hc1.trans hc2 (fun _ _ e => e), fun i hi => Nat.le_trans hc1.size (hold i hi)⟩
  clear hdk hc2 hold hc1
  have ho := open_new 300 0 300 1 (by omega) (by omega)
  go_wp2_with fail
  refine (open_ds s2' 0 300 1 (by omega) (by show 0 + 300 ≤ 300; omega) (by show 0 ≤ _; omega) (by rw [ho]) (by rw [ho])).mono ?_
  rintro e w3 ⟨B, ra, rc, rfl, F3, s3, hl3, hB, -, hFB3, mv3, -, -⟩
  rw [ho] at s3
  clear ho s2'
  clear mv3
  change DS w w3 F3 D (DM.born 300 0) at s3
  have hg0 : Grown (DM.born 300 0) ⟨0, 300, 1, 1, 1⟩ [] [] 0 300 1 1 0 := (begun_new 300 0 300 1 (by omega) (by omega) (by omega)).grown
  have hch3 := s3.ch
  by_cases g1 : 48 < s1.size
  · have g1' : (48 : Int) < s1.size := by omega
    clear hg0
    go_wp2
    go_ret
    exact ⟨rfl, hch3⟩
  have g1' : ¬ (48 : Int) < s1.size := by omega
  by_cases g2 : 48 < s2.size
  · have g2' : (48 : Int) < s2.size := by omega
    clear hg0
    go_wp2
    go_ret
    exact ⟨rfl, hch3⟩
  have g2' : ¬ (48 : Int) < s2.size := by omega
  have h1s : secs s1.size = 1 := by unfold secs; rw [if_pos (by omega)]
  have h2s : secs s2.size = 1 := by unfold secs; rw [if_pos (by omega)]
  have HG0 := Lib.hid hg0
  clear hg0
  go_wp2_with fail
  have happ := app_ds s3 hl3 hB hFB3 s1 (by show 0 ≤ _; omega) (by decide) (by decide) hz1
  have hga := HG0.out.append (strBytes s1)
  have hel := Elder1.begin (strBytes s1) (by rw [strBytes_length]; omega)
  have hun := (⟨0, 300, 1, 1, 1⟩ : LM).append_un (DM.born 300 0) (strBytes s1) rfl (by decide) (by decide) (by decide)
  have hfa := (⟨0, 300, 1, 1, 1⟩ : LM).append_facts (DM.born 300 0) (strBytes s1)
  rw [strBytes_length] at hun
  have hx : ((⟨0, 300, 1, 1, 1⟩ : LM).append (DM.born 300 0) (strBytes s1)).1 = 0 := by
    rcases hun.2.2 with ⟨e1, _⟩ | ⟨_, e1, _⟩ | ⟨_, _, e1⟩
    · omega
    · have e2 : 300 - 1 < secs s1.size := e1; omega
    · exact e1
  have hpl : ((⟨0, 300, 1, 1, 1⟩ : LM).append (DM.born 300 0) (strBytes s1)).2.2.pend.length ≤ 42 := by have := hfa.2.2.1; exact Nat.le_trans this (by decide)
  generalize (⟨0, 300, 1, 1, 1⟩ : LM).append (DM.born 300 0) (strBytes s1) = r at *
  obtain ⟨x, m, d⟩ := r
  have hx' : x = 0 := hx
  subst hx'
  have hg : ∃ N, Grown d m [] N 0 300 1 1 0 := hga.elim (fun h => ⟨_, h.2⟩) (fun h => ⟨_, h.2⟩)
  have hel' : Elder1 d m := hel
  have hdn : d.down = false := hun.1
  have hlf : d.left < 0 := hun.2.1
  have hpl' : d.pend.length ≤ 42 := hpl
  clear hga hel hun hfa hx hpl
  refine happ.mono ?_
  clear happ
  rintro e w5 ⟨rfl, F5, s5, hl5, hFB5, mv5⟩
  change LogAt w5 B D m at hl5
  change DS w w5 F5 D d at s5
  have HG := Lib.hid hg
  have HE := Lib.hid hel'
  have HD := Lib.hid (And.intro hdn hlf)
  clear s3 hl3 hFB3 mv5 hg hel' hdn hlf HG0 hch3
  go_wp2_with fail
  have hk5 : (w5.alloc (.cells #[.bool false] 4)).ownsRow w.heap.size 4 1 (.slice (some ⟨w5.heap.size, 0, none⟩) 1 1) 1 [.bool false] := own_new w5 4 #[.bool false] w.heap.size s5.ch.size (by decide)
  have hBl5 := Blk.lt hl5
  have ho5 : ∀ i, (Value.slice (some ⟨w5.heap.size, 0, none⟩) 1 1).ownBlock = some i → ¬ F5 i ∧ i ≠ B := fun i hi => by
    obtain rfl : w5.heap.size = i := Option.some.inj hi
    exact ⟨fun e => by have := s5.dk.lt _ e; omega, by omega⟩
  have s6 := s5.alloc (.cells #[.bool false] 4)
  have hl6 : LogAt (w5.alloc (.cells #[.bool false] 4)) B D m := Blk.alloc hl5 _
  generalize w5.alloc (.cells #[.bool false] 4) = w6 at *
  generalize Value.slice (some ⟨w5.heap.size, 0, none⟩) 1 1 = kv at *
  clear s5 hl5 hBl5
  go_loopw [15] (fun i wr => ∃ (j : Nat) (F' : Nat → Prop) (d : DM) (m : LM), j ≤ ss.length ∧ j ≤ 40 ∧ i = .int .i64 j ∧ DS w wr F' D d ∧ LogAt wr B D m ∧ ¬ F' B ∧ (wr.ownsRow w.heap.size 4 1 kv 1 [.bool false] ∧ ∀ i, kv.ownBlock = some i → ¬ F' i ∧ i ≠ B) ∧ (∃ N, Grown d m [] N 0 300 1 1 0) ∧ Elder1 d m ∧ d.down = false ∧ d.left < 0 ∧ d.pend.length ≤ 42 * (j + 1)) (fun i _ => 40 - (intOf i).toNat)
  case atStart => exact ⟨0, F5, d, m, Nat.zero_le _, Nat.zero_le _, rfl, s6, hl6, hFB5, ⟨hk5, ho5⟩, HG.out, HE.out, HD.out.1, HD.out.2, hpl'⟩
  case round =>
    clear HG HE HD s6 hl6 hFB5 hk5 ho5 hpl'
    obtain ⟨j, F', d, m, hj, hj60, rfl, sr, hlr, hFBr, hN, hg, hel, hdn, hlf, hpr⟩ := hrel
    obtain ⟨wo, rfl⟩ : ∃ x, x = wr := ⟨_, rfl⟩
    obtain ⟨N, hg⟩ := hg
    have hbd := hg.bound
    have hrg := hg.kept.reg
    by_cases hlt : j < ss.length
    · by_cases h60 : j < 40
      · have l1 : (j : Int) < ss.length := by omega
        have l2 : (j : Int) < 40 := by omega
        obtain ⟨ob, off, rfl, -, hcell⟩ := hs (by intro e; rw [List.map_eq_nil_iff] at e; rw [e] at hlt; simp at hlt)
        have hlen' := hsz ss[j] (List.getElem_mem hlt)
        have cw := hcell j (.string ss[j]) (by rw [List.getElem?_map, List.getElem?_eq_getElem hlt]; rfl)
        have ck := (sr.ch).cell cw id
        generalize ss[j] = s at *
        have gs : (s.size : Int) ≤ 140737488355328 := by omega
        have hmn : m.next ≤ m.count := by omega
        have hm1 : m.first + m.count ≤ 4096 := by omega
        have hmd : m.first + m.count ≤ d.n := by omega
        have hfa := (m.append_facts d (strBytes s)).2.2.1
        have hun := m.append_un d (strBytes s) hdn hlf hmd hmn
        have hga := hg.append (strBytes s)
        have hea := hel.append (strBytes s) hmd hg.kept.own.2.1 hmn
        have happ := app_ds sr hlr hB hFBr s (by omega) hm1 hmn hlen'
        generalize m.append d (strBytes s) = r at *
        obtain ⟨x, m', d'⟩ := r
        have hg' : ∃ N, Grown d' m' [] N 0 300 1 1 0 := hga.elim (fun h => ⟨_, h.2⟩) (fun h => ⟨_, h.2⟩)
        have HFA := Lib.hid hfa
        have HUN := Lib.hid hun
        have HGA := Lib.hid hg'
        have HEA := Lib.hid hea
        have HN := Lib.hid hN
        clear hfa hun hga hg' hea hg hbd hrg hel hdn hlf hN
        go_wp2_with fail
        refine happ.mono ?_
        clear happ
        rintro e w7 ⟨rfl, F7, s7, hl7, hFB7, mv7⟩
        have hpr7 : d'.pend.length ≤ 42 * (j + 1 + 1) := by have h9 : d'.pend.length ≤ d.pend.length + 42 := HFA.out; omega
        have hN7 := mv7.own HN.out.1 HN.out.2
        have HN7 := Lib.hid hN7
        clear hN7 HN mv7 sr hlr hFBr
        go_wp2_with fail
        exact ⟨⟨j + 1, F7, d', m', by omega, by omega, by go_num, s7, hl7, hFB7, HN7.out, HGA.out, HEA.out, HUN.out.1, HUN.out.2.1, hpr7⟩, by simp [intOf]; omega⟩
      · have l1 : (j : Int) < ss.length := by omega
        have l2 : ¬ (j : Int) < 40 := by omega
        have hG := Lib.hid hg
        have hE := Lib.hid hel
        have hD := Lib.hid (And.intro hdn hlf)
        have HB := Lib.hid hbd
        have HR := Lib.hid hrg
        clear hg hel hdn hlf hbd hrg
        go_wp2_with fail
        go_loopw [14, 16] (fun v i wr => ∃ (k : Nat), k ≤ 300 ∧ i = .int .i64 k ∧ DS w wr F' D d ∧ (wr.ownsRow w.heap.size 4 1 v (false :: List.replicate k true).length ((false :: List.replicate k true).map Value.bool) ∧ ∀ i, v.ownBlock = some i → ¬ F' i)) (fun _ i _ => 300 - (intOf i).toNat)
        case atStart => exact ⟨0, Nat.zero_le _, rfl, sr, hN.1, fun i hi => (hN.2 i hi).1⟩
        case round =>
          obtain ⟨k, hk, rfl, sk, hK, hKo⟩ := hrel
          obtain ⟨wq, rfl⟩ : ∃ x, x = wr := ⟨_, rfl⟩
          clear sr hlr hFBr hN
          by_cases hk3 : k < 300
          · have l3 : (k : Int) < 300 := by omega
            have hbk : w.heap.size ≤ wq.heap.size := sk.ch.size
            have hkl : (false :: List.replicate k true).length ≤ 1099511627776 := by rw [List.length_cons, List.length_replicate]; omega
            go_wp2_with ((refine wpList_append_bool rfl (.tmp 87) (.tmp 88) rfl w.heap.size _ (false :: List.replicate k true) rfl (hK.alloc _) wq.heap.size true (Blk.new wq 4 _) rfl hkl (by rw [World.size_alloc]; omega) ?_
                          intro rv' w7 hR7 hc7 hnew7))
            have hc67 := ((Ch.refl _ wq).alloc _).trans hc7 (fun _ _ e => e)
            have s7 := sk.over hc67 (fun i hi => ⟨hKo i hi, (hK.lt i hi).1⟩)
            have hlt7 : ∀ i, F' i → i < wq.heap.size := fun i hi => sk.dk.lt i hi
            have hrep : (false :: List.replicate k true) ++ [true] = false :: List.replicate (k + 1) true := by rw [List.cons_append, List.replicate_succ']
            rw [hrep] at hR7
            refine ⟨⟨k + 1, by omega, by go_num, s7, hR7, fun i hi => ?_⟩, by simp [intOf]; omega⟩
            rcases hnew7 i hi with h | h
            · exact hKo i h
            · have h9 : i = wq.heap.size + 1 := by rw [← h, World.size_alloc]
              exact fun e => by have := hlt7 i e; omega
          · obtain rfl : k = 300 := by omega
            obtain ⟨kb, hkb⟩ : ∃ kb, kb = false :: List.replicate 300 true := ⟨_, rfl⟩
            have hkl : kb.length = 301 := by rw [hkb]; simp
            have hk0 : kb[0]? = some false := by rw [hkb]; rfl
            rw [← hkb, hkl] at hK
            obtain ⟨ka, kc, rfl⟩ := own_len hK
            have hKo' := hKo
            have hsrc := srcv_ownX hK hKo'
            clear hkb
            go_wp2_with fail
            have hcr := crash_any F' D d kb ka kc _ sk.dk hsrc (by omega) (by omega)
            rw [hkl] at hcr
            refine hcr.mono ?_
            clear hcr hsrc hK hKo hKo'
            rintro e w8 ⟨F8, rfl, st8⟩
            have s8 := sk.step st8
            have hk8 : Kept (d.crash kb) [] N 0 300 1 1 0 := hG.out.kept.crash _
            have hs8 : sumOk ((d.crash kb).now (0 + 1)) = false := hE.out.lost kb hk0
            have hd8 : (d.crash kb).down = false := rfl
            have hlf8 : (d.crash kb).left < 0 := by show (-1 : Int) < 0; omega
            have hp8 : (d.crash kb).pend = [] := rfl
            generalize crCnt kb d.pend.length = cc at *
            generalize d.crash kb = d8 at *
            clear st8 sk hG hE hD HB HR hpr
            obtain ⟨ho1, ho2, m9, ho3, ho4, ho5⟩ := hk8.open_bare (by omega) hd8 hlf8 hs8
            have hreg8 := hk8.reg.1
            clear hk8 hs8 hd8 hlf8
            go_wp2_with fail
            refine (open_ds s8 0 300 1 (by omega) hreg8 (by rw [hp8]; exact Nat.zero_le _) ho1 ho3).mono ?_
            rintro e w9 ⟨B9, ra9, rc9, rfl, F9, s9, hl9, hB9, -, hFB9, -, -, -⟩
            have hon9 := ho5.on
            have hpe9 := ho5.pend
            have hg9 := ho5.grown
            generalize (d8.open 0 300 1).2.1 = d9 at *
            clear s8 hp8 hreg8 ho1 ho3 ho5
            have hbd9 := hg9.bound
            have hrg9 := hg9.kept.reg
            have happ := app_ds s9 hl9 hB9 hFB9 s2 (by rw [hpe9]; exact Nat.zero_le _) (by omega) (by omega) hz2
            have hga := hg9.append (strBytes s2)
            have hun := m9.append_un d9 (strBytes s2) hon9 ho2 (by omega) (by omega)
            have hfa := m9.append_facts d9 (strBytes s2)
            rw [strBytes_length] at hun
            have hx : (m9.append d9 (strBytes s2)).1 = 0 := by
              rcases hun.2.2 with ⟨e1, _⟩ | ⟨_, e1, _⟩ | ⟨_, _, e1⟩
              · omega
              · omega
              · exact e1
            have hpl : (m9.append d9 (strBytes s2)).2.2.pend.length ≤ 42 := by have := hfa.2.2.1; rw [hpe9] at this; exact this
            clear hfa hg9 hbd9 hrg9 hon9 ho2 ho4
            generalize m9.append d9 (strBytes s2) = r at *
            obtain ⟨x, m10, d10⟩ := r
            have hx' : x = 0 := hx
            subst hx'
            have hg10 : Grown d10 m10 [] [strBytes s2] 0 300 1 2 0 := hga.elim (fun h => h.2) (fun h => absurd rfl h.1)
            have hd10 : d10.down = false := hun.1
            have hl10' : d10.left < 0 := hun.2.1
            have hp10 : d10.pend.length ≤ 42 := hpl
            clear hga hun hx hpl
            have HG := Lib.hid hg10
            clear hg10
            go_wp2_with fail
            refine happ.mono ?_
            clear happ
            rintro e w10 ⟨rfl, F10, s10, hl10, hFB10, mv10⟩
            change LogAt w10 B9 D m10 at hl10
            change DS w w10 F10 D d10 at s10
            clear s9 hl9 hFB9 mv10
            have hflu := DM.flush_un d10 hd10 hl10'
            have hg11 : Grown d10.flush.2 m10 [] [strBytes s2] 0 300 1 2 1 ∧ d10.flush.2.pend = [] := by
              rcases HG.out.flush with ⟨_, _, x1, x2, x3⟩ | ⟨x, _⟩
              · exact ⟨x3, x2⟩
              · rw [hflu.1] at x; cases x
            go_wp2_with fail
            refine (sync_any B9 m10 F10 D d10 w10 hl10 s10.dk (by omega)).mono ?_
            rintro e w11 ⟨F11, rfl, st11⟩
            rw [hflu.1]
            have s11 := s10.step st11
            generalize d10.flush.2 = d11 at *
            clear s10 hl10 hFB10 st11 hflu hd10 hl10' hp10 HG
            have HG := Lib.hid hg11
            clear hg11
            go_wp2_with fail
            have hcr := crash_any F11 D d11 [] none 0 w11 s11.dk (fun e => absurd rfl e) (by decide) (by rw [HG.out.2]; exact Nat.zero_le _)
            refine hcr.mono ?_
            clear hcr
            rintro e w12 ⟨F12, rfl, st12⟩
            have s12 := s11.step st12
            have hk12 : Kept (d11.crash []) [] [strBytes s2] 0 300 1 2 1 := HG.out.1.kept.crash _
            have hd12 : (d11.crash []).down = false := rfl
            have hlf12 : (d11.crash []).left < 0 := by show (-1 : Int) < 0; omega
            have hp12 : (d11.crash []).pend = [] := rfl
            generalize crCnt [] d11.pend.length = cc2 at *
            generalize d11.crash [] = d12 at *
            clear s11 st12 HG
            have hreg12 := hk12.reg.1
            have hun12 := d12.open_un 0 300 1 hreg12 (by omega) hd12 hlf12 (by have := hk12.own.2.2; omega)
            have ho12 : ∃ m13, (d12.open 0 300 1).2.2 = some (m13, [strBytes s2]) := by
              rcases hk12.open (by omega) hd12 with ⟨_, m6, recs, jj, x1, x2, x3, x4, x5⟩ | ⟨x, _⟩
              · have x3' : jj ≤ 1 := x3
                obtain rfl : jj = 1 := by omega
                subst x4
                exact ⟨m6, x1⟩
              · rw [hun12.1] at x; cases x
            obtain ⟨m13, ho13⟩ := ho12
            clear hk12
            go_wp2_with fail
            refine (open_ds s12 0 300 1 (by omega) hreg12 (by rw [hp12]; exact Nat.zero_le _) hun12.1 ho13).mono ?_
            rintro e w13 ⟨B13, ra13, rc13, rfl, F13, s13, hl13, hB13, -, hFB13, -, hown, hne⟩
            have hsrc13 := srcv_ownX (X := fun _ => False) hown (fun _ _ e => e)
            obtain ⟨ob13, off13, rfl, -, hcell13⟩ := hsrc13 (by simp)
            have c13 := hcell13 0 (.string s2) (by rw [List.map_cons, List.map_cons, strOf_strBytes]; rfl)
            rw [Nat.add_zero] at c13
            have hch := s13.ch
            clear s12 hreg12 hun12 ho13 hd12 hlf12 hp12 hown hne
            go_wp2
            go_ret
            exact ⟨rfl, hch⟩
    · have l1 : ¬ (j : Int) < ss.length := by omega
      have hG := Lib.hid hg
      have hE := Lib.hid hel
      have hD := Lib.hid (And.intro hdn hlf)
      have HB := Lib.hid hbd
      have HR := Lib.hid hrg
      clear hg hel hdn hlf hbd hrg
      go_wp2_with fail
      go_loopw [14, 16] (fun v i wr => ∃ (k : Nat), k ≤ 300 ∧ i = .int .i64 k ∧ DS w wr F' D d ∧ (wr.ownsRow w.heap.size 4 1 v (false :: List.replicate k true).length ((false :: List.replicate k true).map Value.bool) ∧ ∀ i, v.ownBlock = some i → ¬ F' i)) (fun _ i _ => 300 - (intOf i).toNat)
      case atStart => exact ⟨0, Nat.zero_le _, rfl, sr, hN.1, fun i hi => (hN.2 i hi).1⟩
      case round =>
        obtain ⟨k, hk, rfl, sk, hK, hKo⟩ := hrel
        obtain ⟨wq, rfl⟩ : ∃ x, x = wr := ⟨_, rfl⟩
        clear sr hlr hFBr hN
        by_cases hk3 : k < 300
        · have l3 : (k : Int) < 300 := by omega
          have hbk : w.heap.size ≤ wq.heap.size := sk.ch.size
          have hkl : (false :: List.replicate k true).length ≤ 1099511627776 := by rw [List.length_cons, List.length_replicate]; omega
          go_wp2_with ((refine wpList_append_bool rfl (.tmp 87) (.tmp 88) rfl w.heap.size _ (false :: List.replicate k true) rfl (hK.alloc _) wq.heap.size true (Blk.new wq 4 _) rfl hkl (by rw [World.size_alloc]; omega) ?_
                        intro rv' w7 hR7 hc7 hnew7))
          have hc67 := ((Ch.refl _ wq).alloc _).trans hc7 (fun _ _ e => e)
          have s7 := sk.over hc67 (fun i hi => ⟨hKo i hi, (hK.lt i hi).1⟩)
          have hlt7 : ∀ i, F' i → i < wq.heap.size := fun i hi => sk.dk.lt i hi
          have hrep : (false :: List.replicate k true) ++ [true] = false :: List.replicate (k + 1) true := by rw [List.cons_append, List.replicate_succ']
          rw [hrep] at hR7
          refine ⟨⟨k + 1, by omega, by go_num, s7, hR7, fun i hi => ?_⟩, by simp [intOf]; omega⟩
          rcases hnew7 i hi with h | h
          · exact hKo i h
          · have h9 : i = wq.heap.size + 1 := by rw [← h, World.size_alloc]
            exact fun e => by have := hlt7 i e; omega
        · obtain rfl : k = 300 := by omega
          obtain ⟨kb, hkb⟩ : ∃ kb, kb = false :: List.replicate 300 true := ⟨_, rfl⟩
          have hkl : kb.length = 301 := by rw [hkb]; simp
          have hk0 : kb[0]? = some false := by rw [hkb]; rfl
          rw [← hkb, hkl] at hK
          obtain ⟨ka, kc, rfl⟩ := own_len hK
          have hKo' := hKo
          have hsrc := srcv_ownX hK hKo'
          clear hkb
          go_wp2_with fail
          have hcr := crash_any F' D d kb ka kc _ sk.dk hsrc (by omega) (by omega)
          rw [hkl] at hcr
          refine hcr.mono ?_
          clear hcr hsrc hK hKo hKo'
          rintro e w8 ⟨F8, rfl, st8⟩
          have s8 := sk.step st8
          have hk8 : Kept (d.crash kb) [] N 0 300 1 1 0 := hG.out.kept.crash _
          have hs8 : sumOk ((d.crash kb).now (0 + 1)) = false := hE.out.lost kb hk0
          have hd8 : (d.crash kb).down = false := rfl
          have hlf8 : (d.crash kb).left < 0 := by show (-1 : Int) < 0; omega
          have hp8 : (d.crash kb).pend = [] := rfl
          generalize crCnt kb d.pend.length = cc at *
          generalize d.crash kb = d8 at *
          clear st8 sk hG hE hD HB HR hpr
          obtain ⟨ho1, ho2, m9, ho3, ho4, ho5⟩ := hk8.open_bare (by omega) hd8 hlf8 hs8
          have hreg8 := hk8.reg.1
          clear hk8 hs8 hd8 hlf8
          go_wp2_with fail
          refine (open_ds s8 0 300 1 (by omega) hreg8 (by rw [hp8]; exact Nat.zero_le _) ho1 ho3).mono ?_
          rintro e w9 ⟨B9, ra9, rc9, rfl, F9, s9, hl9, hB9, -, hFB9, -, -, -⟩
          have hon9 := ho5.on
          have hpe9 := ho5.pend
          have hg9 := ho5.grown
          generalize (d8.open 0 300 1).2.1 = d9 at *
          clear s8 hp8 hreg8 ho1 ho3 ho5
          have hbd9 := hg9.bound
          have hrg9 := hg9.kept.reg
          have happ := app_ds s9 hl9 hB9 hFB9 s2 (by rw [hpe9]; exact Nat.zero_le _) (by omega) (by omega) hz2
          have hga := hg9.append (strBytes s2)
          have hun := m9.append_un d9 (strBytes s2) hon9 ho2 (by omega) (by omega)
          have hfa := m9.append_facts d9 (strBytes s2)
          rw [strBytes_length] at hun
          have hx : (m9.append d9 (strBytes s2)).1 = 0 := by
            rcases hun.2.2 with ⟨e1, _⟩ | ⟨_, e1, _⟩ | ⟨_, _, e1⟩
            · omega
            · omega
            · exact e1
          have hpl : (m9.append d9 (strBytes s2)).2.2.pend.length ≤ 42 := by have := hfa.2.2.1; rw [hpe9] at this; exact this
          clear hfa hg9 hbd9 hrg9 hon9 ho2 ho4
          generalize m9.append d9 (strBytes s2) = r at *
          obtain ⟨x, m10, d10⟩ := r
          have hx' : x = 0 := hx
          subst hx'
          have hg10 : Grown d10 m10 [] [strBytes s2] 0 300 1 2 0 := hga.elim (fun h => h.2) (fun h => absurd rfl h.1)
          have hd10 : d10.down = false := hun.1
          have hl10' : d10.left < 0 := hun.2.1
          have hp10 : d10.pend.length ≤ 42 := hpl
          clear hga hun hx hpl
          have HG := Lib.hid hg10
          clear hg10
          go_wp2_with fail
          refine happ.mono ?_
          clear happ
          rintro e w10 ⟨rfl, F10, s10, hl10, hFB10, mv10⟩
          change LogAt w10 B9 D m10 at hl10
          change DS w w10 F10 D d10 at s10
          clear s9 hl9 hFB9 mv10
          have hflu := DM.flush_un d10 hd10 hl10'
          have hg11 : Grown d10.flush.2 m10 [] [strBytes s2] 0 300 1 2 1 ∧ d10.flush.2.pend = [] := by
            rcases HG.out.flush with ⟨_, _, x1, x2, x3⟩ | ⟨x, _⟩
            · exact ⟨x3, x2⟩
            · rw [hflu.1] at x; cases x
          go_wp2_with fail
          refine (sync_any B9 m10 F10 D d10 w10 hl10 s10.dk (by omega)).mono ?_
          rintro e w11 ⟨F11, rfl, st11⟩
          rw [hflu.1]
          have s11 := s10.step st11
          generalize d10.flush.2 = d11 at *
          clear s10 hl10 hFB10 st11 hflu hd10 hl10' hp10 HG
          have HG := Lib.hid hg11
          clear hg11
          go_wp2_with fail
          have hcr := crash_any F11 D d11 [] none 0 w11 s11.dk (fun e => absurd rfl e) (by decide) (by rw [HG.out.2]; exact Nat.zero_le _)
          refine hcr.mono ?_
          clear hcr
          rintro e w12 ⟨F12, rfl, st12⟩
          have s12 := s11.step st12
          have hk12 : Kept (d11.crash []) [] [strBytes s2] 0 300 1 2 1 := HG.out.1.kept.crash _
          have hd12 : (d11.crash []).down = false := rfl
          have hlf12 : (d11.crash []).left < 0 := by show (-1 : Int) < 0; omega
          have hp12 : (d11.crash []).pend = [] := rfl
          generalize crCnt [] d11.pend.length = cc2 at *
          generalize d11.crash [] = d12 at *
          clear s11 st12 HG
          have hreg12 := hk12.reg.1
          have hun12 := d12.open_un 0 300 1 hreg12 (by omega) hd12 hlf12 (by have := hk12.own.2.2; omega)
          have ho12 : ∃ m13, (d12.open 0 300 1).2.2 = some (m13, [strBytes s2]) := by
            rcases hk12.open (by omega) hd12 with ⟨_, m6, recs, jj, x1, x2, x3, x4, x5⟩ | ⟨x, _⟩
            · have x3' : jj ≤ 1 := x3
              obtain rfl : jj = 1 := by omega
              subst x4
              exact ⟨m6, x1⟩
            · rw [hun12.1] at x; cases x
          obtain ⟨m13, ho13⟩ := ho12
          clear hk12
          go_wp2_with fail
          refine (open_ds s12 0 300 1 (by omega) hreg12 (by rw [hp12]; exact Nat.zero_le _) hun12.1 ho13).mono ?_
          rintro e w13 ⟨B13, ra13, rc13, rfl, F13, s13, hl13, hB13, -, hFB13, -, hown, hne⟩
          have hsrc13 := srcv_ownX (X := fun _ => False) hown (fun _ _ e => e)
          obtain ⟨ob13, off13, rfl, -, hcell13⟩ := hsrc13 (by simp)
          have c13 := hcell13 0 (.string s2) (by rw [List.map_cons, List.map_cons, strOf_strBytes]; rfl)
          rw [Nat.add_zero] at c13
          have hch := s13.ch
          clear s12 hreg12 hun12 ho13 hd12 hlf12 hp12 hown hne
          go_wp2
          go_ret
          exact ⟨rfl, hch⟩
end Go.Proofs.Ytjhnkpohdlilpaa
