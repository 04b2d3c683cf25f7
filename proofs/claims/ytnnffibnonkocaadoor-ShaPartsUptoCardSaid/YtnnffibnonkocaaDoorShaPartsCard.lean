/-
  ShaParts, where what it reads is of bulk at most 1048576: the card.
-/
import Derived.Test.YtnnffibnonkocaaDoorFrame
import Derived.Test.YtnnffibnonkocaaDoorLawsC
import Derived.Deep.Slices
namespace Go.Proofs.YtnnffibnonkocaaDoor
open Go.ChangeShapes Go.WideShapes Go.ChangeAt Go.RowKit Go.Deep

theorem lits_bulk {H : Type} (k : IntKind) (zs : List Int) : zs.length ≤ Rows.uptoBulkAll (lits (H := H) k zs) := by
  induction zs with
  | nil => simp [lits, Rows.uptoBulkAll]
  | cons z zs ih =>
    have e : lits (H := H) k (z :: zs) = .lit (.int k z) :: lits k zs := rfl
    rw [e, Rows.uptoBulkAll, List.length_cons]
    have : Rows.uptoBulk (H := H) (.lit (.int k z)) = 1 := rfl
    omega
/-- a slice's cell that is read as bytes -/
theorem bytes_cells {H : Type} {enc : TypeId × Value → H} {W : World} {b : Nat} {held : Bool} {fuel : Nat} {cs : List Value} {x : DataW H × List MemPlace}
    (h : DataW.trod enc Tryd.prog W b (fun _ => true) held fuel 22 cs = some x) :
    ∃ (xs : List (BitVec 8)) (a0 : Option Addr) (c0 : Nat), cs = [.slice a0 xs.length c0] ∧ xs.length ≤ c0 ∧ (a0 = none → c0 = 0) ∧ Src (fun _ => False) W a0 xs ∧ xs.length ≤ Rows.uptoBulk x.1 := by
  rcases open_ints Tryd.underlying22 Tryd.underlying5 cells5 h with ⟨hcs, hx⟩ | ⟨a, len', cap', zs, hcs, _, hl, hm, hz, hx, hcell, hwz⟩
  · exact ⟨[], none, 0, hcs, Nat.le_refl _, fun _ => rfl, fun e => absurd rfl e, Nat.zero_le _⟩
  · simp only [if_true] at hz
    have hlen : ((zs.take len').map fun z => BitVec.ofInt 8 z).length = len' := by simp; omega
    refine ⟨(zs.take len').map fun z => BitVec.ofInt 8 z, some a, cap', by rw [hlen]; exact hcs, by rw [hlen]; exact hl, (fun e => by cases e), fun hne => ?_, ?_⟩
    · have hpos : 0 < len' := by
        rw [← hlen]; exact List.length_pos_iff.2 hne
      obtain ⟨ob, off, spot⟩ := a
      have hspot : spot = none := by simpa [Addr.add] using World.cell?_spot (hcell 0 (by omega))
      subst hspot
      refine ⟨ob, off, rfl, id, fun j y hy => ?_⟩
      have hj : j < len' := by
        have := (List.getElem?_eq_some_iff.1 hy).1
        omega
      rw [← addr_add, hcell j (by omega)]
      have hzj : zs.getD j 0 ∈ zs := by
        rw [List.getD_eq_getElem?_getD, List.getElem?_eq_getElem (by omega)]
        exact List.getElem_mem _
      have hw := hwz _ hzj
      rw [List.getElem?_map, List.getElem?_take_of_lt hj, List.getElem?_eq_getElem (by omega)] at hy
      injection hy with hy
      rw [List.getD_eq_getElem?_getD, List.getElem?_eq_getElem (by omega)] at hw ⊢
      simp only [Option.getD_some] at hw ⊢
      simp only [Lit.wf, Bool.and_eq_true, decide_eq_true_eq] at hw
      rw [← hy, U8]
      congr 2
      rw [BitVec.toNat_ofInt]
      have h1 : IntKind.u8.min = 0 := by decide
      have h2 : IntKind.u8.max = 255 := by decide
      omega
    · rw [hlen, hx]
      show len' ≤ Rows.uptoBulkAll (lits .u8 (zs.take len')) + _ + 1
      have := lits_bulk (H := H) .u8 (zs.take len')
      rw [List.length_take] at this
      omega
theorem flatten_bulk {H : Type} (f : Nat → List (BitVec 8)) (D : Nat → DataW H) : ∀ l : List Nat, (∀ i ∈ l, (f i).length ≤ Rows.uptoBulk (D i)) → ((l.map f).flatten).length ≤ Rows.uptoBulkAll (l.map D)
  | [], _ => Nat.le_refl _
  | i :: l, h => by
    rw [List.map_cons, List.map_cons, List.flatten_cons, List.length_append, Rows.uptoBulkAll]
    have h1 := h i (by simp)
    have h2 := flatten_bulk f D l (fun j hj => h j (by simp [hj]))
    omega
theorem cells22 : Tryd.prog.cellsOf 22 = 1 := by kernel_rfl
/-- an argument of parts -/
theorem parts_of {H : Type} {enc : TypeId × Value → H} {W : World} {base b : Nat} {held : Bool} {fuel : Nat} {v : Value} {x : DataW H × List MemPlace}
    (h : DataW.trod enc Tryd.prog W b (fun _ => true) held fuel 31 v.cells.toList = some x) (hv : Value.okWide Tryd.prog W .any base 31 v) :
    ∃ ps pa pc, v = .slice pa ps.length pc ∧ PartsAt W pa ps ∧ ps.length ≤ maxLen ∧ ps.flatten.length ≤ Rows.uptoBulk x.1 ∧ (ps = [] ∨ ∃ e s, x.1 = .slice e s ∧ e.length = ps.length) := by
  obtain ⟨a0, len, cap, rfl⟩ := okWide_slice Tryd.underlying31 hv
  rcases open_slice Tryd.underlying31 h with ⟨hcs, hx⟩ | ⟨a, len', cap', m, n, D, Pl, hcs, _, hl, hm, hz, hx, hcell⟩
  · simp [Value.cells] at hcs
    obtain ⟨rfl, rfl, rfl⟩ := hcs
    exact ⟨[], none, 0, rfl, ⟨fun e => absurd rfl e⟩, Nat.zero_le _, Nat.zero_le _, Or.inl rfl⟩
  · simp [Value.cells] at hcs
    obtain ⟨rfl, rfl, rfl⟩ := hcs
    simp only [if_true] at hz
    subst hz
    have hex : ∀ i, ∃ xs : List (BitVec 8), i < len → ∃ (ai : Option Addr) (ci : Nat), W.cell? (a.add i) = some (.slice ai xs.length ci) ∧ xs.length ≤ ci ∧ (ai = none → ci = 0) ∧ Src (fun _ => False) W ai xs ∧ xs.length ≤ Rows.uptoBulk (D i) := by
      intro i
      by_cases hi : i < len
      · obtain ⟨cs', h1, h2⟩ := hcell i (by omega)
        obtain ⟨xs, ai, ci, hcs', hc1, hc2, hc3, hc4⟩ := bytes_cells h2
        refine ⟨xs, fun _ => ⟨ai, ci, ?_, hc1, hc2, hc3, hc4⟩⟩
        rw [cells22, Nat.mul_one, hcs'] at h1
        exact cell_of_cells?_one h1
      · exact ⟨[], fun e => absurd e hi⟩
    obtain ⟨f, hf⟩ := Classical.axiomOfChoice hex
    have hfl : ((List.range len).map f).length = len := by simp
    refine ⟨(List.range len).map f, some a, m, by rw [hfl], ⟨fun hne => ?_⟩, by rw [hfl]; omega, ?_, Or.inr ⟨_, _, by rw [hx], by simp⟩⟩
    · have hpos : 0 < len := by rw [← hfl]; exact List.length_pos_iff.2 hne
      obtain ⟨_, _, hc0, _⟩ := hf 0 hpos
      obtain ⟨ob, off, spot⟩ := a
      have hspot : spot = none := by simpa [Addr.add] using World.cell?_spot hc0
      subst hspot
      refine ⟨ob, off, rfl, fun k hk => ?_⟩
      rw [hfl] at hk
      obtain ⟨ai, ci, h1, h2, h3, h4, _⟩ := hf k hk
      have e : ((List.range len).map f).getD k [] = f k := by simp [List.getD, hk]
      rw [e]
      exact ⟨ai, ci, by rw [← addr_add]; exact h1, h2, h3, h4⟩
    · rw [hx]
      show _ ≤ Rows.uptoBulkAll ((List.range len).map D) + _ + 1
      have := flatten_bulk f D (List.range len) (fun i hi => by
        obtain ⟨_, _, _, _, _, _, h5⟩ := hf i (List.mem_range.1 hi)
        exact h5)
      omega

theorem bulk_pos {H : Type} (d : DataW H) : 1 ≤ Rows.uptoBulk d := by
  cases d with
  | lit l => cases l <;> simp [Rows.uptoBulk]
  | _ => simp [Rows.uptoBulk]
theorem len_bulk {H : Type} : ∀ l : List (DataW H), l.length ≤ Rows.uptoBulkAll l
  | [] => Nat.le_refl _
  | d :: l => by
    rw [Rows.uptoBulkAll, List.length_cons]
    have := bulk_pos d
    have := len_bulk l
    omega
set_option maxRecDepth 100000 in
theorem contract5 (H : Type) (enc : TypeId × Value → H) (W : World) (base : Nat) (args : Array Value) (ds gs : List (DataW H)) (before : List MemPlace)
    (hval0 : ∀ (j : Nat) t v, Tryd.f5.params[j]? = some t → args[j]? = some v → Value.okWide Tryd.prog W .any base t v)
    (hW : DataW.Whole enc Tryd.prog Tryd.f5.params.toList Rows.shaPartsSpec.vars false W args.toList ds gs before)
    (hcond : Rows.uptoSmall H (ds ++ gs) = true)
    (hL : laidMetH Tryd.prog Rows.shaPartsRow.laid W) :
    Calls Tryd.prog 5 args W fun e W' => ∃ v, e = .returned v ∧ Rows.shaPartsSpec.post enc Tryd.prog Tryd.f5 false true false false W args v W' := by
  have hval : ∀ (j : Nat) t v, Tryd.f5.params[j]? = some t → args[j]? = some v → Value.okWide Tryd.prog W .any base t v := hval0
  have hbulk : Rows.uptoBulkAll (ds ++ gs) ≤ 1048576 := of_decide_eq_true hcond
  have hW' := hW
  obtain ⟨p, q, hA0, hV, rfl, hfz, hnd⟩ := hW
  have hA : DataW.TrodAll enc Tryd.prog W 0 (fun _ => true) true Tryd.f5.params.toList args.toList ds p := hA0
  rw [Tryd.params5] at hA hval
  obtain ⟨v0, d0, rfl, rfl, h0⟩ := trodAll_one hA
  obtain ⟨rfl, rfl⟩ := trodVars_none hV
  have h0k := h0
  obtain ⟨fuel0, hf⟩ := h0
  obtain ⟨ps, pa, pc, hv, hp, _, hfl, hpl⟩ := parts_of hf (hval 0 31 v0 rfl rfl)
  have hpl2 : ps.length ≤ 140737488355328 := by
    rcases hpl with rfl | ⟨e, s, hx, hl⟩
    · simp
    · have hx' : d0 = .slice e s := hx
      have e1 : Rows.uptoBulkAll ([d0] ++ []) = Rows.uptoBulk d0 + 0 := rfl
      have e2 : Rows.uptoBulk d0 = Rows.uptoBulkAll e + Rows.uptoBulkAll s + 1 := by rw [hx']; rfl
      have := len_bulk e
      omega
  have hn : ps.flatten.length ≤ 1048576 := by
    have e : Rows.uptoBulkAll ([d0] ++ []) = Rows.uptoBulk d0 + 0 := rfl
    have h2 : ps.flatten.length ≤ Rows.uptoBulk d0 := hfl
    omega
  clear hA0 hval0 hval hA hcond
  simp only [List.append_nil] at hW'
  have hlt : ∀ x ∈ p, x.block < W.heap.size := fun x hx => by simpa using hW'.lt x hx
  have hargs : ∀ (W' : World), Below W.heap.size W W' → DataW.Trod enc Tryd.prog W' 0 (fun b => decide (b < W.heap.size)) true 31 v0 d0 p :=
    fun W' hn => Below.trod laidOut (by kernel_rfl) (of_decide_eq_true (by kernel_rfl)) h0k hn hlt
  obtain rfl := hv
  refine (law5_any ps pa pc W (laid_of hL) hp (by omega) hn).mono fun e W' ⟨he, hc⟩ => ?_
  have hB := hc.none_below
  subst he
  refine ⟨_, rfl, _, _, _, [], p, [], hW', ?_, ?_, ?_, hB.frame _, fun h => by cases h⟩
  · exact trodAll_cons_mk (shut_bool Tryd.underlying4 _) trodAll_mk0
  · exact trodAll_mk1 (hargs W' hB)
  · rfl

namespace shaParts
theorem laid_met (os : Os) : laidMet Tryd.prog Rows.shaPartsUptoRow.laid ((laidWorld os).forCall (fun _ _ => 0) ⟨#[], #[.slice none 0 0], []⟩).memory :=
  laidMet_of_run' 8 (by kernel_rfl) (by kernel_rfl)
theorem reads (os : Os) {H : Type} (enc : TypeId × Value → H) : ∃ places, DataW.whole enc Tryd.prog ((laidWorld os).forCall (fun _ _ => 0) ⟨#[], #[.slice none 0 0], []⟩).memory Tryd.f5.params.toList Rows.shaPartsSpec.vars false #[.slice none 0 0].toList 8 = some ([.nil], [], places) :=
  ⟨[], by kernel_rfl⟩

set_option maxRecDepth 100000 in
theorem lifted (os : Os) (started : os.Started) (H : Type) (enc : TypeId × Value → H) (F : Stop.Interp) :
    ReturnsInHanded {} Tryd.checked os 5 .any ((Rows.OpenSpec.upto Rows.shaPartsSpec).preRow enc Tryd.prog Tryd.f5 Rows.shaPartsUptoRow.domain false Rows.shaPartsUptoRow.laid) (((Rows.OpenSpec.upto Rows.shaPartsSpec).at F).post enc Tryd.prog Tryd.f5 false true false false) := by
  obtain ⟨places, hx⟩ := reads os enc
  refine returnsInHanded_of_row (C := Tryd.checked) (s := Rows.OpenSpec.upto Rows.shaPartsSpec) own started (by kernel_rfl) Tryd.func5
    (witness_row_at (enc := enc) (C := Tryd.checked) false (laidWorld os) #[.slice none 0 0] rfl (by kernel_rfl) (by kernel_rfl) (by kernel_rfl)
      (OpenSpec.preRow_of_cond 8 hx (by kernel_rfl) (fun k hk => by cases hk; kernel_rfl) (by kernel_rfl) (laid_met os))) ?_
  intro W base args ds gs before hval hW _ hcond _ hL _ _
  exact contract5 H enc W base args ds gs before hval hW (hcond _ rfl) hL

theorem said : Rows.ShaPartsUptoSaid :=
  OpenClaim.holds_of_cond 5 Tryd.f5 rfl rfl rfl rfl rfl rfl rfl ⟨rfl, rfl, rfl, rfl, rfl⟩ rfl rfl rfl rfl rfl (by kernel_rfl) Tryd.func5 (by kernel_rfl)
    (of_decide_eq_true (by kernel_rfl)) (by unfold Func.isWrapper; first | (rw [if_pos (by decide +kernel)]; kernel_rfl) | (rw [if_neg (by decide +kernel)]; exact ⟨rfl, rfl⟩))
    (fun os started H enc _ F => by rw [OpenClaim.pre_eq_preRow]; exact lifted os started H enc F)

theorem plain (f : FuncId) (fn : Func) (hf : Tryd.pinned.checked.prog.funcNamed "palatine/palatinelaw07.ShaParts" = some f) (hfn : Tryd.pinned.checked.prog.funcs[f]? = some fn) :
    false = Tryd.pinned.checked.prog.looks [] ∧ ∀ (j : Nat) t, fn.params[j]? = some t → Tryd.pinned.checked.prog.wantsStandIn t = false := by
  obtain rfl : f = 5 := Option.some.inj ((show Tryd.prog.funcNamed "palatine/palatinelaw07.ShaParts" = some 5 by kernel_rfl).symm.trans hf) |>.symm
  obtain rfl : fn = Tryd.f5 := (Option.some.inj (Tryd.func5.symm.trans hfn)).symm
  refine ⟨by kernel_rfl, fun j t ht => ?_⟩
  rw [Tryd.params5] at ht
  obtain rfl : t = 31 := by simpa using Array.mem_of_getElem? ht
  exact (show Tryd.prog.wantsStandIn 31 = false by kernel_rfl)

theorem card : Rows.ShaPartsUptoCardSaid :=
  Claim7.holds_tied_plain_at .later [] _ _ _ _ said (fun _ h => by cases h) (by kernel_rfl) (fun _ h => by cases h) shaPartsUpto_row_tie rfl ⟨rfl, rfl⟩ (by kernel_rfl) rfl plain (by kernel_rfl)
end shaParts
end Go.Proofs.YtnnffibnonkocaaDoor
