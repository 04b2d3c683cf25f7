/-
  The reference's padding: the bytes, 0x80, zeros up to 56 mod 64, the bit length.
-/
import Derived.Test.YtnnffibnonkocaaDoorRows
import Derived.Test.YtnnffibnonkocaaDoorBlock
import Derived.Test.YtnnffibnonkocaaDoorMac
import Derived.Test.YtnnffibnonkocaaDoorBOwn
import Derived.Test.YtnnffibnonkocaaDoorChain
import Derived.Test.YtnnffibnonkocaaDoorDigest
import Derived.RangeFuncNested
import Derived.RangeFuncBound
import Derived.RangeFuncCalls
import Derived.RangeFuncLeaves
import Derived.Shelf.Abstract
import Derived.Shelf.RegionOpen
import Derived.WalkKit
import Derived.OwnWalkIn
import Derived.TacticsInMore
import Derived.LoopNIn
import Derived.LoopIn
import Derived.WalkSpells
import Derived.WalkLawsBesides
import Derived.Lib.Hide
import Derived.BigQuiet
namespace Go.Proofs.YtnnffibnonkocaaDoor
open Go.RowKit Go.Shelf
attribute [local go_sem] Oper.semAt_some
set_option maxHeartbeats 1000000 in
set_option maxRecDepth 100000 in
theorem padded_any (xs : List (BitVec 8)) (a0 : Option Addr) (c0 : Nat) (w : World) (_hc0 : xs.length ≤ c0) (hnil : a0 = none → c0 = 0) (hs : Src (fun _ => False) w a0 xs) (hn : xs.length ≤ 140737488355200) :
    Calls Tryd.prog 16 #[.slice a0 xs.length c0] w fun e w' => ∃ a' c', e = .returned (.slice a' (padded xs).length c') ∧ BOwn w' w.heap.size (.slice a' (padded xs).length c') (padded xs) ∧ Ch (fun _ => False) w w' := by
  have gn : (xs.length : Int) ≤ 140737488355200 := by omega
  have HN := Lib.hid hnil
  clear hnil
  go_enter Tryd.func16, Tryd.ntmps16
  go_wp2_with (first | (refine wpList_append_bytes rfl (.tmp 6) (.tmp 7) rfl w.heap.size (.slice (some ⟨w.heap.size, 0, none⟩) 0 0) [] rfl (BOwn.made w) xs a0 xs.length c0 rfl rfl HN.out (hs.ch ((Ch.refl (fun _ => False) w).alloc _) (fun _ e => e)) xs.length (by simp) (by omega) (by simp) ?_; intro a1 c1 w1 hown1 hch1) | (refine wpList_append_byte rfl (.tmp 9) (.tmp 10) rfl w.heap.size (.slice a1 xs.length c1) ([] ++ xs) rfl hown1 0x80 _ rfl rfl (xs.length + 1) rfl (by omega) (by have := hch1.size; rw [World.size_alloc] at this; omega) ?_; intro a2 c2 w2 hown2 hch2))
  have hc1 : Ch (fun _ => False) w w1 := ((Ch.refl _ w).alloc _).trans hch1 (fun i hi e => by have e' : some w.heap.size = some i := e; injection e' with e'; omega)
  have hc2 : Ch (fun _ => False) w w2 := hc1.trans hch2 (fun i hi e => by have := hown1.block_le i e; omega)
  clear hown1 hch1 hch2 hc1
  have hz := zpad_lt xs.length
  rw [List.nil_append] at hown2
  go_loopw [3] (fun v wr => ∃ (k : Nat) (a : Option Addr) (c : Nat), k ≤ zpad xs.length ∧ v = .slice a (xs.length + 1 + k) c ∧ BOwn wr w.heap.size v (xs ++ [0x80] ++ List.replicate k 0) ∧ Ch (fun _ => False) w wr) (fun v _ => xs.length + 1 + zpad xs.length - sliceLen v)
  case atStart => exact ⟨0, a2, c2, Nat.zero_le _, rfl, by rw [List.replicate_zero, List.append_nil]; exact hown2, hc2⟩
  case round =>
    obtain ⟨k, a, c, hk, rfl, hown, hch⟩ := hrel
    have lw := hch.size
    by_cases hkz : k = zpad xs.length
    · have hat := (zpad_at xs.length k hk).2 hkz
      generalize hm : xs.length + 1 + k = m at *
      have em : (m : Int) % 64 = 56 := by omega
      have HM := Lib.hid hm
      clear hm
      go_wp2_with fail
      subst hkz
      generalize hT : xs ++ [0x80#8] ++ List.replicate (zpad xs.length) 0 = T at *
      have HT := Lib.hid hT
      clear hT hat em
      go_loopw [3, 5] (fun v i wr2 => ∃ (j : Nat) (q : Int) (a : Option Addr) (c : Nat), j ≤ 8 ∧ q = 7 - (j : Int) ∧ i = .int .i64 q ∧ v = .slice a (m + j) c ∧ BOwn wr2 w.heap.size v (T ++ (List.range j).map (lenByte xs.length)) ∧ Ch (fun _ => False) w wr2)
        (fun _ i _ => ((intOf i) + 1).toNat)
      case atStart => exact ⟨0, 7, a, c, by omega, by omega, rfl, rfl, by simpa using hown, hch⟩
      case round =>
        obtain ⟨j, q, a, c, hj, hq, rfl, rfl, hown, hch⟩ := hrel
        have lw := hch.size
        by_cases hlt : j < 8
        · obtain ⟨e, rfl⟩ : ∃ e : Nat, q = (e : Int) := ⟨7 - j, by omega⟩
          have he : 8 * e = 56 - 8 * j := by omega
          have hej : e + j = 7 := by omega
          have l7 : (e : Int) ≤ 7 := by omega
          have HE := Lib.hid he
          have HQ := Lib.hid hq
          have HJ := Lib.hid hej
          clear he hq hej
          have g1 : 8 * (e : Int) ≤ 64 := by omega
          have g3 : (8 * (e : Int)).toNat = 8 * e := by omega
          have gT : T.length = m := by rw [← HT.out]; have := HM.out; simp; omega
          have GT := Lib.hid gT
          clear gT
          have hv : Value.int .u8 ((xs.length : Int) * 8 / 2 ^ (8 * e) % 256) = U8 (lenByte xs.length j) := by rw [HE.out]; exact u8_lenByte _ _
          have HV := Lib.hid hv
          clear hv
          go_wp2_with (refine wpList_append_byte rfl (.tmp 27) (.tmp 33) rfl w.heap.size (.slice a (m + j) c) _ rfl hown (lenByte xs.length j) _ HV.out rfl (m + j + 1) (by rw [List.length_append, GT.out]; simp) (by have := HM.out; omega) lw ?_; intro a3 c3 w3 hown3 hch3)
          go_roundw
          case rel =>
            refine ⟨j + 1, _, a3, c3, by omega, ?_, rfl, rfl, ?_, hch.trans hch3 (fun i hi e => by have := hown.block_le i e; omega)⟩
            · have := HJ.out; omega
            · rw [List.range_succ, List.map_append, List.map_singleton, ← List.append_assoc]
              exact hown3
          case measure => simp only [intOf]; omega
        · obtain rfl : j = 8 := by omega
          have hq' : q = -1 := by omega
          subst hq'
          clear hq
          go_wp2_with fail
          have hfin : T ++ (List.range 8).map (lenByte xs.length) = padded xs := by
            rw [← HT.out]
            unfold padded padding lenBytes
            simp
          have hlen : (padded xs).length = m + 8 := by rw [← hfin, List.length_append, ← HT.out]; have := HM.out; simp; omega
          rw [hfin] at hown
          go_ret
          exact ⟨a, c, by rw [hlen]; rfl, by rw [hlen]; exact hown, hch⟩
    · have hat : ¬ (xs.length + 1 + k) % 64 = 56 := fun h => hkz ((zpad_at xs.length k hk).1 h)
      generalize hm : xs.length + 1 + k = m at *
      have em : ((m : Int) % 64 != 56) = true := by rw [bne_iff_ne]; omega
      have HM := Lib.hid hm
      have HAT := Lib.hid hat
      clear hm hat
      go_wp2_with (refine wpList_append_byte rfl (.tmp 16) (.tmp 17) rfl w.heap.size (.slice a m c) _ rfl hown 0 _ rfl rfl (m + 1) (by have := HM.out; simp; omega) (by have := HM.out; omega) lw ?_; intro a3 c3 w3 hown3 hch3)
      go_roundw
      case rel =>
        refine ⟨k + 1, a3, c3, by omega, by have := HM.out; rw [← this]; rfl, ?_, hch.trans hch3 (fun i hi e => by have := hown.block_le i e; omega)⟩
        rw [List.replicate_succ', ← List.append_assoc]
        exact hown3
      case measure =>
        have := HM.out
        simp only [sliceLen]
        omega
end Go.Proofs.YtnnffibnonkocaaDoor
