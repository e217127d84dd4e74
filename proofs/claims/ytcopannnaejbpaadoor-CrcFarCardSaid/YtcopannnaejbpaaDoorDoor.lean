/-
  The library's table at the beginning of a call; a world that meets the rows' condition; contracts that keep the table.
-/
import Derived.Test.YtcopannnaejbpaaDoorRows
import Derived.Test.YtcopannnaejbpaaDoorWalkB
import Derived.Test.YtcopannnaejbpaaDoorWalkE
import Derived.Test.YtcopannnaejbpaaDoorLaw
import Derived.OpenShut
import Derived.Lib.LaidTab
import Derived.LaidLaws
import Derived.LaidHandle
import Derived.Stop.Joined
namespace Go.Proofs.YtcopannnaejbpaaDoor
open Go.ChangeShapes Go.WideShapes Go.ChangeAt Go.RowKit
open Go.ChangeMaps (open_string shut_string)

/-- An integer of 64 bits is that of a row of 64 bits. -/
theorem bv_of {n : Int} (h : (Lit.int .u64 n).wf = true) : ∃ x : BitVec 64, n = (x.toNat : Int) := by
  obtain ⟨h0, h1⟩ := bounds_u64 h
  refine ⟨BitVec.ofNat 64 n.toNat, ?_⟩
  rw [BitVec.toNat_ofNat]
  omega

/-- The table's variable on a row's list. -/
def laid : List (String × DataW Unit) := [("math/bits.deBruijn64tab", Rows.laid_math_bits_deBruijn64tab)]
theorem Tryd.dbt : Tryd.prog.globalNamed "math/bits.deBruijn64tab" = some 0 := by kernel_rfl
theorem Tryd.dbtType : (Tryd.prog.globals[0]?).map (·.type) = some 38 := by kernel_rfl
def numbers : List Int := Crc.tab.map fun (n : Nat) => (n : Int)
theorem laid_is : laid = [("math/bits.deBruijn64tab", Lib.tabData .u8 numbers)] := by rfl
theorem tab_of_laid {W : World} (h : laidMetH Tryd.prog laid W) : Tab W ∧ 0 < W.heap.size := by
  have h' : laidMet Tryd.prog laid W := h
  rw [laid_is] at h'
  have hT := Lib.tabIs_of_head Tryd.dbt Tryd.dbtType Tryd.underlying38 Tryd.underlying5 (by kernel_rfl) (by kernel_rfl) h'
  have hl : numbers.length = 64 := by decide
  refine ⟨fun i hi => ?_, ?_⟩
  · rw [hT.cell Tryd.dbt i (by rw [hl]; exact hi)]
    have : numbers.getD i 0 = ((Crc.tab.getD i 0 : Nat) : Int) := by
      simp only [numbers, List.getD_eq_getElem?_getD, List.getElem?_map]
      cases Crc.tab[i]? <;> rfl
    rw [this]
  · have := hT.cell Tryd.dbt 0 (by rw [hl]; omega)
    exact block_lt_of_cell this
/-- A world that meets the condition: the settled one, the variable's cells laid. -/
noncomputable def laidWorld (os : Os) : World :=
  let w0 := World.holding Tryd.prog os ⟨#[], #[], []⟩
  { w0 with heap := w0.heap.modify 0 fun
      | .cells _ t frozen => .cells (numbers.map (Value.int .u8)).toArray t frozen
      | o => o }
theorem laidWorld_met (os : Os) (args : Array Value) : laidMetH Tryd.prog laid ((laidWorld os).forCall (fun _ _ => 0) ⟨#[], args, []⟩).memory :=
  laidMet_of_run' 8 (by kernel_rfl) (by kernel_rfl)

/-- The table is there; below the heap's size when the law was called nothing has turned. -/
structure Keeps (w0 w : World) : Prop where
  tab : Tab w
  pos : 0 < w.heap.size
  below : Below w0.heap.size w0 w
theorem Keeps.start {w : World} (h : Tab w ∧ 0 < w.heap.size) : Keeps w w := ⟨h.1, h.2, Below.refl _ _⟩
theorem Keeps.joins {w0 w : World} (h : Keeps w0 w) (a b : BitVec 64) (n : Int) (hn : n ≤ 9223372036854775807) :
    Calls Tryd.prog 7 #[.int .u64 (a.toNat : Int), .int .u64 (b.toNat : Int), .int .i64 n] w fun e w' => e = .returned (.int .u64 ((Crc.join a b n.toNat).toNat : Int)) ∧ Keeps w0 w' :=
  (join_any a b n w h.tab h.pos hn).mono fun _ _ hq => ⟨hq.1,
    ⟨fun i hi => (hq.2.cell (p := ⟨0, i, none⟩) h.pos).trans (h.tab i hi), Nat.lt_of_lt_of_le h.pos hq.2.size, h.below.trans (hq.2.mono h.below.size)⟩⟩
theorem join_nat (a b : BitVec 64) (n : Nat) : Crc.join a b (n : Int).toNat = Crc.join a b n := by rw [Int.toNat_natCast]
end Go.Proofs.YtcopannnaejbpaaDoor
