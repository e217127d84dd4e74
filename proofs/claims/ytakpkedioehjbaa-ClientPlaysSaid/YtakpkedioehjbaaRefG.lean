/-
  THE WALK of the reference client's Invoke of a client that waits, and of a command that may not be. What an append leaves.
-/
import Derived.Test.YtakpkedioehjbaaRefF
import Derived.Test.YtakpkedioehjbaaRefC
import Derived.Deep.AppendLies
import Derived.OwnWalk
namespace Go.Proofs.Ytakpkedioehjbaa
open Go.RowKit Go.Maps Go.BigFrame

def ccells (l : List Cmd) : List Value := l.flatMap fun c => c.cells.toList
theorem ccells_snoc (l : List Cmd) (x : Cmd) : ccells (l ++ [x]) = ccells l ++ x.cells.toList := by simp [ccells]
theorem ccells_len (l : List Cmd) : (ccells l).length = l.length * 7 := by
  induction l with
  | nil => rfl
  | cons x l ih =>
    have e : ccells (x :: l) = x.cells.toList ++ ccells l := rfl
    rw [e, List.length_append, ih]
    simp [Cmd.cells]
    omega
theorem ccells_get : ∀ (l : List Cmd) (i : Nat) (x : Cmd), l[i]? = some x → ∀ (j : Nat) (v : Value), x.cells[j]? = some v → (ccells l)[i * 7 + j]? = some v
  | [], i, x, h => by cases h
  | y :: l, 0, x, h => by
    cases h
    intro j v hv
    have e : ccells (y :: l) = y.cells.toList ++ ccells l := rfl
    have hj : j < y.cells.toList.length := by
      rcases Nat.lt_or_ge j y.cells.size with h | h
      · simpa using h
      · rw [Array.getElem?_eq_none h] at hv; cases hv
    rw [e, Nat.zero_mul, Nat.zero_add, List.getElem?_append_left hj]
    simpa using hv
  | y :: l, i + 1, x, h => by
    intro j v hv
    have h2 := ccells_get l i x h j v hv
    have e : ccells (y :: l) = y.cells.toList ++ ccells l := rfl
    have hl : y.cells.toList.length = 7 := rfl
    rw [e, List.getElem?_append_right (by rw [hl]; omega), hl, show (i + 1) * 7 + j - 7 = i * 7 + j by omega]
    exact h2
theorem ccells_one (l : List Cmd) : ∀ u ∈ ccells l, u.oneCell' = true := by
  intro u hu
  obtain ⟨x, _, hx⟩ := List.mem_flatMap.1 hu
  simp [Cmd.cells] at hx
  rcases hx with rfl | rfl | rfl | rfl | rfl | rfl | rfl <;> rfl
theorem liesC_news {w : World} {g : Nat} {l : List Cmd} (h : LiesC w (some ⟨g, 0, none⟩) l) : ∀ (j : Nat) (u : Value), (ccells l)[j]? = some u → w.cell? ((⟨g, 0, none⟩ : Addr).add j) = some u := by
  intro j u hu
  rw [add_plain, Nat.zero_add]
  have hlt : j < (ccells l).length := (List.getElem?_eq_some_iff.1 hu).1
  rw [ccells_len] at hlt
  have hi : j / 7 < l.length := by omega
  have hx : l[j / 7]? = some l[j / 7] := List.getElem?_eq_getElem hi
  generalize l[j / 7] = x at *
  obtain ⟨g', e, hc⟩ := h _ _ hx
  injection e with e
  injection e with e
  subst e
  have hj7 : j % 7 < x.cells.size := by show j % 7 < 7; omega
  have hv : x.cells[j % 7]? = some x.cells[j % 7] := Array.getElem?_eq_getElem hj7
  have h1 := ccells_get l _ x hx _ _ hv
  have h2 := hc _ _ hv
  rw [show j / 7 * 7 + j % 7 = j by omega] at h1 h2
  rw [h2]
  exact h1.symm.trans hu
theorem rows_liesC {w : World} {B g n c : Nat} {l : List Cmd} (h : w.ownsRow B 36 7 (.slice (some ⟨g, 0, none⟩) n c) n (ccells l)) : LiesC w (some ⟨g, 0, none⟩) l := by
  intro i x hx
  refine ⟨g, rfl, fun j v hv => ?_⟩
  have h1 := World.ownsRow.cells h (g := g) rfl (i * 7 + j) _ (ccells_get l i x hx j v hv)
  rwa [add_plain, Nat.zero_add] at h1
theorem infoC : (Try.prog.info? 36).map (fun i => (i.zero, i.size, i.bytes)) = some (some (.agg Cmd.zero.cells), 7, 72) := by kernel_rfl
theorem lastC_snoc (l : List Cmd) (x : Cmd) : lastC (l ++ [x]) = x := by simp [lastC]
theorem heap_four_0 (w : World) (A B C D : Obj) : ((((w.alloc A).alloc B).alloc C).alloc D).heap[w.heap.size]? = some A := (Below.heap_alloc _ D w.heap.size (by simp <;> omega)).trans (heap_three_0 w A B C)
theorem heap_four_1 (w : World) (A B C D : Obj) : ((((w.alloc A).alloc B).alloc C).alloc D).heap[w.heap.size + 1]? = some B := (Below.heap_alloc _ D (w.heap.size + 1) (by simp <;> omega)).trans (heap_three_1 w A B C)
theorem heap_four_2 (w : World) (A B C D : Obj) : ((((w.alloc A).alloc B).alloc C).alloc D).heap[w.heap.size + 2]? = some C := (Below.heap_alloc _ D (w.heap.size + 2) (by simp)).trans (heap_three_2 w A B C)
theorem heap_four_3 (w : World) (A B C D : Obj) : ((((w.alloc A).alloc B).alloc C).alloc D).heap[w.heap.size + 3]? = some D := by
  have h := heap_alloc_new (((w.alloc A).alloc B).alloc C) D
  simpa [Nat.add_assoc] using h
theorem below_four (w : World) (A B C D : Obj) : Below w.heap.size w ((((w.alloc A).alloc B).alloc C).alloc D) := (below_three w A B C).alloc (by simp; omega) _
/-- The variables of an Invoke. -/
structure Inv4 (w : World) (s : St) (ad : Option Addr) (n cap : Nat) (x : Cmd) (wd : World) : Prop where
  box : RefIn wd w.heap.size s ad n cap
  cmd : Cmd.In wd (w.heap.size + 1) x
  out : RefIn wd (w.heap.size + 2) rzero none 0 0
  letter : Letter.In wd (w.heap.size + 3) Letter.zero
  bel : Below w.heap.size w wd

set_option maxRecDepth 100000 in
set_option maxHeartbeats 1600000 in
theorem refInvoke_waits (s : St) (ad : Option Addr) (cap n : Nat) (x : Cmd) (w : World) (hw : s.waits = true) :
    Calls Try.prog 13 #[.agg (rcells s ad n cap), .agg x.cells] w fun r w' => r = .returned (.tuple #[.agg (rcells s ad n cap), .agg Letter.zero.cells, .int .i64 13]) ∧ Below w.heap.size w w' := by
  go_enter Try.func13, Try.ntmps13
  go_upto_region 1 with fail
  refine code_from (Inv4 w s ad n cap x) ⟨heap_four_0 _ _ _ _ _, heap_four_1 _ _ _ _ _, heap_four_2 _ _ _ _ _, heap_four_3 _ _ _ _ _, below_four w _ _ _ _⟩ ?_
  rintro wd hI
  obtain ⟨c0, c1, c2, c3, c4⟩ := ref_reads hI.box
  rw [hw] at c3
  have HI := Lib.hid hI
  clear hI
  go_wp2_with (first
    | (refine wpList_load_row rfl 32 _ rfl w.heap.size rfl 32 (rcells s ad n cap) (0, 0) _ HI.out.box Try.underlying32 rfl (size_ref _ _ _ _) ?_)
    | (refine wpList_store_row (P := Try.prog) rfl 32 (.tmp 4) (.tmp 9) rfl (w.heap.size + 2) (rcells s ad n cap) rfl rfl 32 _ HI.out.out (size_ref _ _ _ _) rfl (one_ref _ _ _ _) ?_)
    | (refine wpList_store_row (P := Try.prog) rfl 47 (.tmp 5) (.tmp 10) rfl (w.heap.size + 3) Letter.zero.cells rfl rfl 47 _ ((setRow_other _ _ _ _ (by omega)).trans HI.out.letter) (size_letter _) rfl (one_letter _ rfl rfl) ?_))
  exact ret_told s ad n cap Letter.zero (w.heap.size + 2) (w.heap.size + 3) rfl rfl rfl ((setRow_other _ _ _ _ (by omega)).trans (setRow_heap _ _ _ _ _ _ HI.out.out)) (setRow_heap _ _ _ _ _ _ ((setRow_other _ _ _ _ (by omega)).trans HI.out.letter)) rfl
    ⟨rfl, below_setRow (below_setRow HI.out.bel (by omega) _) (by omega) _⟩
end Go.Proofs.Ytakpkedioehjbaa
