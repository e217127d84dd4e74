/-
  THE WALKS of Join's closures.
-/
import Derived.Test.YtcopannnaejbpaaDoorWalkC
import Derived.Laws.Rows
import Derived.Deep.WholeRow
import Derived.BigRegion
import Derived.Laws.EntriesVeiled
namespace Go.Proofs.YtcopannnaejbpaaDoor
open Go.RowKit

/-- The cells of a matrix: up to k what m steps make of each bit, behind that what n make. -/
def cells (m n k : Nat) : Array Value := (Array.range 64).map fun i => .int .u64 ((Crc.steps (if i < k then m else n) (1#64 <<< i)).toNat : Int)
theorem cells_size (m n k : Nat) : (cells m n k).size = 64 := by simp [cells]
theorem cells_one (m n k : Nat) : (cells m n k).all (·.oneCell') = true := by
  rw [Array.all_eq_true]
  intro i hi
  simp [cells, Value.oneCell']
theorem size31 (m n k : Nat) : (Tryd.prog.info? 31).map (·.size) = some (cells m n k).size := by
  rw [cells_size]
  kernel_rfl
/-- Block g is such a matrix. -/
def Whole (w : World) (g m n k : Nat) : Prop := w.heap[g]? = some (.cells (cells m n k) 31 (0, 0))

theorem cells_get (m n k i : Nat) (hi : i < 64) : (cells m n k)[i]? = some (.int .u64 ((Crc.steps (if i < k then m else n) (1#64 <<< i)).toNat : Int)) := by
  simp [cells, hi]
theorem cells_set (m n k : Nat) : (cells m n k).setIfInBounds k (.int .u64 ((Crc.steps m (1#64 <<< k)).toNat : Int)) = cells m n (k + 1) := by
  apply Array.ext_getElem?
  intro i
  by_cases hi : i < 64
  · by_cases h : k = i
    · subst h
      rw [Array.getElem?_setIfInBounds, if_pos rfl, if_pos (by rw [cells_size]; exact hi), cells_get _ _ _ _ hi, if_pos (by omega)]
    · rw [Array.getElem?_setIfInBounds, if_neg h, cells_get _ _ _ _ hi, cells_get _ _ _ _ hi]
      by_cases hlt : i < k
      · rw [if_pos hlt, if_pos (by omega)]
      · rw [if_neg hlt, if_neg (by omega)]
  · rw [Array.getElem?_eq_none (by rw [Array.size_setIfInBounds, cells_size]; omega), Array.getElem?_eq_none (by rw [cells_size]; omega)]
theorem cells_all (m n : Nat) : cells m n 64 = cells m m 0 := by
  apply Array.ext_getElem?
  intro i
  by_cases hi : i < 64
  · rw [cells_get _ _ _ _ hi, cells_get _ _ _ _ hi, if_pos hi, if_neg (by omega)]
  · rw [Array.getElem?_eq_none (by rw [cells_size]; omega), Array.getElem?_eq_none (by rw [cells_size]; omega)]
theorem Whole.mat {w : World} {g n : Nat} (h : Whole w g n n 0) : Mat w g n := by
  intro i hi
  rw [cell_of_row w g i _ _ _ h, cells_get _ _ _ _ hi, if_neg (by omega)]
theorem Whole.lt {w : World} {g m n k : Nat} (h : Whole w g m n k) : g < w.heap.size := by
  rcases Nat.lt_or_ge g w.heap.size with hlt | hge
  · exact hlt
  · unfold Whole at h; rw [Array.getElem?_eq_none hge] at h; cases h

/-- What holds at the head of the loop of 'each', behind k rounds. -/
structure Each (w : World) (g g2 gw n k : Nat) (wr : World) : Prop where
  le : k ≤ 64
  tab : Tab wr
  mat : Mat wr g2 n
  was : Whole wr gw n n 0
  cur : Whole wr g (n + n) n k
  grown : w.grownBy wr (some g)

theorem grown_drewN {w wr : World} {r : Option Nat} (h : w.grownBy wr r) (n : Nat) : w.grownBy (wr.drewN n) r := ⟨h.os, h.tape, h.output, h.size, h.block⟩
theorem Each.next {w wr : World} {g g2 gw n k : Nat} (h : Each w g g2 gw n k wr) (hk : k < 64) (h0 : g ≠ 0) (h2 : g ≠ g2) (hw : g ≠ gw) (q : Nat) :
    Each w g g2 gw n (k + 1) ((wr.drewN q).setCell ⟨g, k, none⟩ (.int .u64 ((Crc.steps n (Crc.steps n (1#64 <<< k))).toNat : Int))) := by
  have hother : ∀ b, b ≠ g → ((wr.drewN q).setCell ⟨g, k, none⟩ (.int .u64 ((Crc.steps n (Crc.steps n (1#64 <<< k))).toNat : Int))).heap[b]? = wr.heap[b]? := fun b hb => Below.heap_setCell _ _ _ b hb
  refine ⟨by omega, fun i hi => ?_, fun i hi => ?_, ?_, ?_, ?_⟩
  · rw [World.cell?_of_block (w := wr) (hother 0 (Ne.symm h0))]
    exact h.tab i hi
  · rw [World.cell?_of_block (w := wr) (hother g2 (Ne.symm h2))]
    exact h.mat i hi
  · unfold Whole
    rw [hother gw (Ne.symm hw)]
    exact h.was
  · unfold Whole
    have hb : (wr.drewN q).heap[g]? = some (.cells (cells (n + n) n k) 31 (0, 0)) := h.cur
    rw [heap_setCell_same _ _ _ _ _ _ hb, ← Crc.steps_add, cells_set]
  · refine ⟨h.grown.os, h.grown.tape, h.grown.output, by simpa [World.setCell] using h.grown.size, fun i hi hne => ?_⟩
    rw [hother i (fun e => hne (by rw [e]))]
    exact h.grown.block i hi hne

theorem each_start (g g2 n : Nat) (w : World) (ht : Tab w) (hm : Whole w g n n 0) (hm2 : Mat w g2 n) (hg2 : g2 < w.heap.size) :
    Each w g g2 w.heap.size n 0 (w.alloc (.cells (cells n n 0) 31)) := by
  have hz := hm.lt
  have hold : ∀ b, b < w.heap.size → (w.alloc (.cells (cells n n 0) 31)).heap[b]? = w.heap[b]? := fun b hb => Below.heap_alloc w _ b hb
  refine ⟨by omega, fun i hi => ?_, fun i hi => ?_, heap_alloc_last w _, ?_, World.grownBy_alloc w _ _⟩
  · rw [World.cell?_of_block (w := w) (hold 0 (by omega))]
    exact ht i hi
  · rw [World.cell?_of_block (w := w) (hold g2 hg2)]
    exact hm2 i hi
  · unfold Whole
    rw [hold g hz]
    have e : cells (n + n) n 0 = cells n n 0 := by
      apply Array.ext_getElem?
      intro i
      by_cases hi : i < 64
      · rw [cells_get _ _ _ _ hi, cells_get _ _ _ _ hi, if_neg (by omega), if_neg (by omega)]
      · rw [Array.getElem?_eq_none (by rw [cells_size]; omega), Array.getElem?_eq_none (by rw [cells_size]; omega)]
    rw [e]
    exact hm

set_option maxRecDepth 100000 in
set_option maxHeartbeats 400000 in
theorem each_any (g g2 n : Nat) (w : World) (ht : Tab w) (hm : Whole w g n n 0) (hm2 : Mat w g2 n) (h2 : g ≠ g2) (h0 : g ≠ 0) (hg2 : g2 < w.heap.size) :
    Calls Tryd.prog 11 #[.func (.func 14) #[.pointer (some ⟨g2, 0, none⟩)] #[], .pointer (some ⟨g, 0, none⟩)] w fun e w' => e = .returned (.tuple #[]) ∧
      Whole w' g (n + n) (n + n) 0 ∧ w.grownBy w' (some g) := by
  have hz := hm.lt
  have hat := each_start g g2 n w ht hm hm2 hg2
  go_enter Tryd.func11, Tryd.ntmps11
  go_wp2_with (first
    | (refine wpList_load_row rfl 31 _ rfl g rfl 31 (cells n n 0) (0, 0) _ hm Tryd.underlying31 rfl (size31 n n 0) ?_)
    | (refine wpList_store_row rfl 31 _ _ rfl w.heap.size (cells n n 0) rfl rfl 31 _ (heap_alloc_last w _) (size31 n n 0) (by rw [cells_size]; rfl) (cells_one n n 0) ?_; rw [World.setRow_alloc_new]))
  go_loopw [6] (fun i wr => ∃ k : Nat, i = .int .i64 (k : Int) ∧ Each w g g2 w.heap.size n k wr) (fun i _ => 64 - (intOf i).toNat)
  case atStart => exact ⟨0, rfl, hat⟩
  case round =>
    clear ht hm hm2 hat hg2
    obtain ⟨k, rfl, hE⟩ := hrel
    by_cases hk : k < 64
    · have hc1 := hE.was.mat k hk
      have hc2 : wr.cell? ⟨g, k, none⟩ = some (.int .u64 ((Crc.steps n (1#64 <<< k)).toNat : Int)) := by
        rw [cell_of_row wr g k _ _ _ hE.cur, cells_get _ _ _ _ hk, if_neg (by omega)]
      have hf2 := frozen_of_row wr g k _ _ hE.cur
      have hk0 : (0 : Int) ≤ (k : Int) := by omega
      have hk1 : (k : Int) < 64 := by omega
      go_wp2_with (go_at_call 14; refine (of_any _ g2 n _ hE.tab hE.mat).mono ?_; rintro e w' ⟨rfl, q, rfl⟩)
      have hn := hE.next hk h0 h2 (by omega) q
      go_roundw
      case rel => exact ⟨k + 1, by go_num, hn⟩
      case measure => simp [intOf]; omega
    · have hle := hE.le
      obtain rfl : k = 64 := by omega
      go_wp2_with fail
      go_end0
      exact ⟨rfl, by have := hE.cur; unfold Whole at this ⊢; rw [cells_all] at this; exact this, hE.grown⟩

/-- 'each' on the copy that 'square' has made. -/
theorem each_on (g n : Nat) (w : World) (ht : Tab w) (hm : Whole w g n n 0) (h0 : g ≠ 0) :
    Calls Tryd.prog 11 #[.func (.func 14) #[.pointer (some ⟨w.heap.size, 0, none⟩)] #[], .pointer (some ⟨g, 0, none⟩)] (w.alloc (.cells (cells n n 0) 31)) fun e w' => e = .returned (.tuple #[]) ∧
      Whole w' g (n + n) (n + n) 0 ∧ (w.alloc (.cells (cells n n 0) 31)).grownBy w' (some g) := by
  have hz := hm.lt
  have hnew : Whole (w.alloc (.cells (cells n n 0) 31)) w.heap.size n n 0 := heap_alloc_last w _
  refine each_any g w.heap.size n _ (fun i hi => ?_) ?_ hnew.mat (by omega) h0 (by simp)
  · rw [World.cell?_of_block (w := w) (Below.heap_alloc w _ 0 (by omega))]
    exact ht i hi
  · unfold Whole
    rw [Below.heap_alloc w _ g hz]
    exact hm

theorem grown_of_alloc {w w' : World} {o : Obj} {g : Nat} (h : (w.alloc o).grownBy w' (some g)) : w.grownBy w' (some g) :=
  ⟨h.os, h.tape, h.output, Nat.le_trans (by simp) h.size, fun i hi hne => (h.block i (by simp; omega) hne).trans (Below.heap_alloc w o i hi)⟩

set_option maxRecDepth 100000 in
set_option maxHeartbeats 400000 in
theorem square_any (g gE n : Nat) (w : World) (ht : Tab w) (hm : Whole w g n n 0) (hE : w.cell? ⟨gE, 0, none⟩ = some (.func (.func 11) #[] #[.pointer (some ⟨g, 0, none⟩)])) (h0 : g ≠ 0) (hgE : gE < w.heap.size) :
    Calls Tryd.prog 13 #[.pointer (some ⟨g, 0, none⟩), .pointer (some ⟨gE, 0, none⟩)] w fun e w' => e = .returned (.tuple #[]) ∧
      Whole w' g (n + n) (n + n) 0 ∧ w.grownBy w' (some g) := by
  have hz := hm.lt
  have hE1 : (w.alloc (.cells (cells n n 0) 31)).cell? ⟨gE, 0, none⟩ = some (.func (.func 11) #[] #[.pointer (some ⟨g, 0, none⟩)]) := by
    rw [World.cell?_alloc_lt w _ _ hgE]
    exact hE
  have hst := each_on g n w ht hm h0
  go_enter Tryd.func13, Tryd.ntmps13
  go_wp2_with (first
    | (refine wpList_load_row rfl 31 _ rfl g rfl 31 (cells n n 0) (0, 0) _ hm Tryd.underlying31 rfl (size31 n n 0) ?_)
    | (refine wpList_store_row rfl 31 _ _ rfl w.heap.size (cells n n 0) rfl rfl 31 _ (heap_alloc_last w _) (size31 n n 0) (by rw [cells_size]; rfl) (cells_one n n 0) ?_; rw [World.setRow_alloc_new])
    | (go_at_call 11; refine hst.mono ?_; rintro e w' ⟨rfl, hw1, hw2⟩))
  go_end0
  exact ⟨rfl, hw1, grown_of_alloc hw2⟩
end Go.Proofs.YtcopannnaejbpaaDoor
