/-
  The rows' frame: what the list of variables gives, what an argument of bytes is, a world for the witness.
-/
import Derived.Test.YtnnffibnonkocaaDoorCards
import Derived.Test.YtnnffibnonkocaaDoorTie
import Derived.Test.YtnnffibnonkocaaDoorLawsA
import Derived.WalkKit
import Derived.ProofKit
import Derived.OpenShut
import Derived.SizedLaws
import Derived.ChangeSlices
import Derived.Deep.DeepHandedRow
import Derived.Lib.LaidTab
import Derived.LaidSub
import Derived.Carry
namespace Go.Proofs.YtnnffibnonkocaaDoor
open Go.ChangeShapes Go.WideShapes Go.ChangeAt Go.RowKit

theorem own : ownKnob Tryd.prog.godebug = none := by kernel_rfl
theorem laidOut : laidOutB Tryd.prog = true := by kernel_rfl
theorem gFirst : Tryd.prog.globalNamed "palatine/sha.first" = some 0 := by kernel_rfl
theorem gFirstType : (Tryd.prog.globals[0]?).map (·.type) = some 41 := by kernel_rfl
theorem gConst : Tryd.prog.globalNamed "palatine/sha.constants" = some 1 := by kernel_rfl
theorem gConstType : (Tryd.prog.globals[1]?).map (·.type) = some 43 := by kernel_rfl
theorem cells41 : Tryd.prog.cellsOf 41 = 8 := by kernel_rfl
theorem cells43 : Tryd.prog.cellsOf 43 = 64 := by kernel_rfl
theorem cells40 : Tryd.prog.cellsOf 40 = 1 := by kernel_rfl
theorem cells5 : Tryd.prog.cellsOf 5 = 1 := by kernel_rfl
theorem bytes5 : Tryd.prog.bytesOf 5 = 1 := by kernel_rfl
def firstZ : List Int := (List.range 8).map fun i => ((h0s.get i).toNat : Int)
def constZ : List Int := (List.range 64).map fun i => ((kAt i).toNat : Int)
def laidList : List (String × DataW Unit) := [("palatine/sha.first", Rows.laid_palatine_sha_first), ("palatine/sha.constants", Rows.laid_palatine_sha_constants)]

/-- what the row's list gives -/
theorem laid_of {W : World} (h : laidMetH Tryd.prog laidList W) : Laid W := by
  have h1 : Lib.TabIs Tryd.prog W "palatine/sha.first" .u32 firstZ := Lib.tabIs_of_head (rest := [("palatine/sha.constants", Rows.laid_palatine_sha_constants)]) gFirst gFirstType Tryd.underlying41 Tryd.underlying40 cells40 cells41 h
  have h2 : Lib.TabIs Tryd.prog W "palatine/sha.constants" .u32 constZ := Lib.tabIs_of_head (rest := []) gConst gConstType Tryd.underlying43 Tryd.underlying40 cells40 cells43 (laidMet.filter (fun x => x.1 == "palatine/sha.constants") h)
  refine ⟨fun j hj => ?_, fun j hj => ?_⟩
  · rw [h1.cell gFirst j (by simp [firstZ, hj])]
    simp [firstZ, hj, U32, List.getD]
  · rw [h2.cell gConst j (by simp [constZ, hj])]
    simp [constZ, hj, U32, List.getD]

/-- what an argument of bytes is -/
structure Bytes (W : World) (v : Value) (xs : List (BitVec 8)) (a0 : Option Addr) (c0 : Nat) : Prop where
  val : v = .slice a0 xs.length c0
  cap : xs.length ≤ c0
  nil : a0 = none → c0 = 0
  src : Src (fun _ => False) W a0 xs
theorem bytes_of {H : Type} {enc : TypeId × Value → H} {W : World} {base b : Nat} {held : Bool} {fuel : Nat} {v : Value} {x : DataW H × List MemPlace}
    (h : DataW.trod enc Tryd.prog W b (fun _ => true) held fuel 22 v.cells.toList = some x) (hv : Value.okWide Tryd.prog W .any base 22 v) :
    ∃ xs a0 c0, Bytes W v xs a0 c0 ∧ (xs = [] ∨ ∃ e s, x.1 = .slice e s ∧ e.length = xs.length) := by
  obtain ⟨a0, len, cap, rfl⟩ := okWide_slice Tryd.underlying22 hv
  rcases open_ints Tryd.underlying22 Tryd.underlying5 cells5 h with ⟨hcs, hx⟩ | ⟨a, len', cap', zs, hcs, _, hl, hm, hz, hx, hcell, hwz⟩
  · simp [Value.cells] at hcs
    obtain ⟨rfl, rfl, rfl⟩ := hcs
    exact ⟨[], none, 0, ⟨rfl, Nat.le_refl _, fun _ => rfl, fun e => absurd rfl e⟩, Or.inl rfl⟩
  · simp [Value.cells] at hcs
    obtain ⟨rfl, rfl, rfl⟩ := hcs
    simp only [if_true] at hz
    have hlen : ((zs.take len).map fun z => BitVec.ofInt 8 z).length = len := by simp; omega
    refine ⟨(zs.take len).map fun z => BitVec.ofInt 8 z, some a, cap, ⟨by rw [hlen], by rw [hlen]; exact hl, (fun e => by cases e), fun hne => ?_⟩, Or.inr ⟨_, _, by rw [hx], by simp [lits]⟩⟩
    have hpos : 0 < len := by
      rw [← hlen]; exact List.length_pos_iff.2 hne
    obtain ⟨ob, off, spot⟩ := a
    have hspot : spot = none := by simpa [Addr.add] using World.cell?_spot (hcell 0 (by omega))
    subst hspot
    refine ⟨ob, off, rfl, id, fun j y hy => ?_⟩
    have hj : j < len := by
      have := (List.getElem?_eq_some_iff.1 hy).1
      omega
    rw [← addr_add, hcell j (by omega)]
    have hzj : zs.getD j 0 ∈ zs := by
      rw [List.getD_eq_getElem?_getD, List.getElem?_eq_getElem (by omega)]
      exact List.getElem_mem _
    have hw := hwz _ hzj
    rw [List.getElem?_map, List.getElem?_take_of_lt hj, List.getElem?_eq_getElem (by omega)] at hy
    injection hy with hy
    rw [List.getD_eq_getElem?_getD, List.getElem?_eq_getElem (by omega)] at hw ⊢
    simp only [Option.getD_some] at hw ⊢
    simp only [Lit.wf, Bool.and_eq_true, decide_eq_true_eq] at hw
    rw [← hy, U8]
    congr 2
    rw [BitVec.toNat_ofInt]
    have h1 : IntKind.u8.min = 0 := by decide
    have h2 : IntKind.u8.max = 255 := by decide
    omega


/-- a variable's cells, laid -/
def layCells (cs : Array Value) : Obj → Obj
  | .cells _ t frozen => .cells cs t frozen
  | o => o
/-- a world for the witness: the settled one, the two tables as their initialisers lay them -/
noncomputable def laidWorld (os : Os) : World :=
  { World.holding Tryd.prog os ⟨#[], #[], []⟩ with heap := ((World.holding Tryd.prog os ⟨#[], #[], []⟩).heap.modify 0 (layCells (firstZ.map (Value.int .u32)).toArray)).modify 1 (layCells (constZ.map (Value.int .u32)).toArray) }
end Go.Proofs.YtnnffibnonkocaaDoor
