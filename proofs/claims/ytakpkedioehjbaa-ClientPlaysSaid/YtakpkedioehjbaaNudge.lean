/-
  THE WALK of a client's Nudge.
-/
import Derived.Test.YtakpkedioehjbaaOwn
namespace Go.Proofs.Ytakpkedioehjbaa
open Go.RowKit Go.Maps

/-- What a method leaves: the client's new state; nothing else that was there has turned. -/
structure Upd (w w' : World) (g : Nat) (s : St) : Prop where
  st : St.At w' g s
  grown : w.grownBy w' (some g)
theorem grown_below {w w' : World} {B : Nat} {r : Option Nat} (h : Below B w w') (hB : w.heap.size ≤ B) : w.grownBy w' r := ⟨h.os, h.tape, h.output, h.size, fun k hk _ => h.block k (by omega)⟩
theorem grown_trans {a b c : World} {r : Option Nat} (h : a.grownBy b r) (k : b.grownBy c r) : a.grownBy c r :=
  ⟨k.os.trans h.os, k.tape.trans h.tape, k.output.trans h.output, Nat.le_trans h.size k.size, fun i hi hne => (k.block i (Nat.lt_of_lt_of_le hi h.size) hne).trans (h.block i hi hne)⟩
theorem grown_set {a b : World} {g i : Nat} (h : a.grownBy b (some g)) (v : Value) : a.grownBy (b.setCell ⟨g, i, none⟩ v) (some g) :=
  ⟨h.os, h.tape, h.output, by simpa [World.setCell] using h.size, fun k hk hne => (Below.heap_setCell b ⟨g, i, none⟩ v k (by intro e; exact hne (by rw [e]))).trans (h.block k hk hne)⟩
theorem grown_drew {a b : World} {r : Option Nat} (h : a.grownBy b r) : a.grownBy b.drew r := ⟨h.os, h.tape, h.output, h.size, h.block⟩
theorem grown_row {a b : World} {g B : Nat} (h : a.grownBy b (some g)) (hB : a.heap.size ≤ B) (cs : Array Value) : a.grownBy (b.setRow B cs) (some g) :=
  ⟨h.os, h.tape, h.output, by simpa using h.size, fun k hk hne => (setRow_other b B k cs (by omega)).trans (h.block k hk hne)⟩
theorem st_set {w : World} {g i : Nat} {s s' : St} {v : Value} (h : St.At w g s) (he : s.cells.setIfInBounds i v = s'.cells) : St.At (w.setCell ⟨g, i, none⟩ v) g s' := by
  unfold St.At at h ⊢
  rw [heap_setCell_same _ _ _ _ _ _ h, he]
theorem st_row {w : World} {g B : Nat} {s : St} (h : St.At w g s) (hB : g ≠ B) (cs : Array Value) : St.At (w.setRow B cs) g s := (setRow_other w B g cs hB).trans h

theorem letter_lt {w : World} {b : Nat} {l : Letter} (h : Letter.In w b l) : b < w.heap.size := by
  rcases Nat.lt_or_ge b w.heap.size with hlt | hge
  · exact hlt
  · unfold Letter.In at h; rw [Array.getElem?_eq_none hge] at h; cases h

set_option maxRecDepth 100000 in
set_option maxHeartbeats 1600000 in
theorem nudge_nil (w : World) :
    Calls Try.prog 14 #[.pointer none] w fun r w' => r = .returned (.tuple #[.agg Letter.zero.cells, .int .i64 1]) ∧ Below w.heap.size w w' := by
  go_enter Try.func14, Try.ntmps14
  go_wp2_with (first | (refine wpList_store_row (P := Try.prog) rfl 47 (.tmp 2) (.tmp 7) rfl w.heap.size Letter.zero.cells rfl rfl 47 _ (heap_alloc_new w _) (size_letter _) rfl (one_letter _ rfl rfl) ?_))
  exact ret_letter Letter.zero w.heap.size rfl rfl (setRow_heap _ _ _ _ _ _ (heap_alloc_new w _)) rfl ⟨rfl, below_setRow ((Below.refl _ _).alloc (Nat.le_refl _) _) (Nat.le_refl _) _⟩

set_option maxRecDepth 100000 in
set_option maxHeartbeats 1600000 in
theorem nudge_no (g : Nat) (s : St) (w : World) (hs : St.At w g s) (hw : s.waits = false) :
    Calls Try.prog 14 #[.pointer (some ⟨g, 0, none⟩)] w fun r w' => r = .returned (.tuple #[.agg Letter.zero.cells, .int .i64 13]) ∧ Below w.heap.size w w' := by
  have hlt := st_lt hs
  have c3 : w.cell? ⟨g, 3, none⟩ = some (.bool s.waits) := st_cell hs 3
  rw [hw] at c3
  clear hs hw
  go_enter Try.func14, Try.ntmps14
  go_wp2_with (first | (refine wpList_store_row (P := Try.prog) rfl 47 (.tmp 2) (.tmp 14) rfl w.heap.size Letter.zero.cells rfl rfl 47 _ (heap_alloc_new w _) (size_letter _) rfl (one_letter _ rfl rfl) ?_))
  exact ret_letter Letter.zero w.heap.size rfl rfl (setRow_heap _ _ _ _ _ _ (heap_alloc_new w _)) rfl ⟨rfl, below_setRow ((Below.refl _ _).alloc (Nat.le_refl _) _) (Nat.le_refl _) _⟩

/-- Behind a nudge. -/
def St.nudged (s : St) : St := { s with dst := (s.dst + 1) % s.n }
theorem nudged_ok {s : St} (h : s.Ok) : s.nudged.Ok :=
  ⟨h.id0, h.id1, h.n0, h.n1, Int.emod_nonneg _ (by have := h.n0; omega), Int.emod_lt_of_pos _ (by have := h.n0; omega), h.seq0, h.seq1⟩

set_option maxRecDepth 100000 in
set_option maxHeartbeats 1600000 in
theorem nudge_yes (g : Nat) (s : St) (w : World) (hs : St.At w g s) (hok : s.Ok) (hw : s.waits = true) :
    Calls Try.prog 14 #[.pointer (some ⟨g, 0, none⟩)] w fun r w' => r = .returned (.tuple #[.agg s.nudged.asks.cells, .int .i64 0]) ∧ Upd w w' g s.nudged := by
  have hlt := st_lt hs
  have c3 : w.cell? ⟨g, 3, none⟩ = some (.bool s.waits) := st_cell hs 3
  rw [hw] at c3
  have hw' := Lib.hid hw
  clear hw
  go_enter Try.func14, Try.ntmps14
  go_upto_region 5 with fail
  refine code_from (fun wc => Letter.In wc w.heap.size Letter.zero ∧ Below w.heap.size w wc) ⟨heap_alloc_new w _, (Below.refl _ _).alloc (Nat.le_refl _) _⟩ ?_
  rintro wc ⟨hB, hbel⟩
  have hs' := st_below hs hbel hlt
  have hnok := nudged_ok hok
  obtain ⟨id, n, seq, waits, x, dst⟩ := s
  have e1 : wc.cell? ⟨g, 1, none⟩ = some (.int .i64 n) := st_cell hs' 1
  have e11 : wc.cell? ⟨g, 11, none⟩ = some (.int .u8 dst) := st_cell hs' 11
  have f11 : wc.frozen? ⟨g, 11, none⟩ = false := frozen_of_row wc g 11 _ _ hs'
  have hn0 : 1 ≤ n := hok.n0
  have hn1 : n ≤ 7 := hok.n1
  have hd0 : 0 ≤ dst := hok.dst0
  have hd1 : dst < n := hok.dst1
  have hm0 := Int.emod_nonneg (dst + 1) (show n ≠ 0 by omega)
  have hm1 := Int.emod_lt_of_pos (dst + 1) (show 0 < n by omega)
  clear c3 hs
  go_region
  go_wp2_with fail
  have hset : St.At ((wc.setCell ⟨g, 11, none⟩ (.int .u8 ((dst + 1) % n))).drew) g (St.nudged ⟨id, n, seq, waits, x, dst⟩) := st_set (s' := St.nudged ⟨id, n, seq, waits, x, dst⟩) hs' rfl
  have hbs : ((wc.setCell ⟨g, 11, none⟩ (.int .u8 ((dst + 1) % n))).drew).heap[w.heap.size]? = some (.cells Letter.zero.cells 47 (0, 0)) := (Below.heap_setCell wc _ _ _ (by show w.heap.size ≠ g; omega)).trans hB
  have hgr : w.grownBy ((wc.setCell ⟨g, 11, none⟩ (.int .u8 ((dst + 1) % n))).drew) (some g) := grown_drew (grown_set (grown_below hbel (Nat.le_refl _)) _)
  refine (sends_yes g _ _ hset hnok).mono ?_
  rintro e w1 ⟨rfl, hb⟩
  have hlt2 := letter_lt hbs
  have hB1 : Letter.In w1 w.heap.size Letter.zero := (hb.block _ hlt2).trans hbs
  have hst1 := st_below hset hb (st_lt hset)
  have hgr1 := grown_trans hgr (grown_below (r := some g) hb (Nat.le_refl _))
  clear hset hbs hgr hb hlt2 hB hbel e1 e11 f11 hs' hok hnok
  go_wp2_with (first | (refine wpList_store_row (P := Try.prog) rfl 47 (.tmp 2) (.tmp 33) rfl w.heap.size (St.nudged ⟨id, n, seq, waits, x, dst⟩).asks.cells rfl rfl 47 _ hB1 (size_letter _) rfl (one_letter _ rfl rfl) ?_))
  exact ret_letter _ w.heap.size rfl rfl (setRow_heap _ _ _ _ _ _ hB1) rfl ⟨rfl, st_row hst1 (by omega) _, grown_row hgr1 (Nat.le_refl _) _⟩
end Go.Proofs.Ytakpkedioehjbaa
