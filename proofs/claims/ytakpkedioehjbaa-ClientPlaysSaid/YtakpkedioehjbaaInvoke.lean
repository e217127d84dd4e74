/-
  THE WALK of a client's Invoke.
-/
import Derived.Test.YtakpkedioehjbaaNudge
namespace Go.Proofs.Ytakpkedioehjbaa
open Go.RowKit Go.Maps

theorem below_two (w : World) (A B : Obj) : Below w.heap.size w ((w.alloc A).alloc B) := ((Below.refl _ _).alloc (Nat.le_refl _) _).alloc (by simp) _

set_option maxRecDepth 100000 in
set_option maxHeartbeats 1600000 in
theorem invoke_nil (x : Cmd) (w : World) :
    Calls Try.prog 12 #[.pointer none, .agg x.cells] w fun r w' => r = .returned (.tuple #[.agg Letter.zero.cells, .int .i64 1]) ∧ Below w.heap.size w w' := by
  go_enter Try.func12, Try.ntmps12
  go_wp2_with (first | (refine wpList_store_row (P := Try.prog) rfl 47 (.tmp 4) (.tmp 10) rfl (w.heap.size + 1) Letter.zero.cells rfl rfl 47 _ (heap_alloc2_new w _ _) (size_letter _) rfl (one_letter _ rfl rfl) ?_))
  exact ret_letter Letter.zero (w.heap.size + 1) rfl rfl (setRow_heap _ _ _ _ _ _ (heap_alloc2_new w _ _)) rfl ⟨rfl, below_setRow (below_two w _ _) (by omega) _⟩

set_option maxRecDepth 100000 in
set_option maxHeartbeats 1600000 in
theorem invoke_waits (g : Nat) (s : St) (x : Cmd) (w : World) (hs : St.At w g s) (hw : s.waits = true) :
    Calls Try.prog 12 #[.pointer (some ⟨g, 0, none⟩), .agg x.cells] w fun r w' => r = .returned (.tuple #[.agg Letter.zero.cells, .int .i64 13]) ∧ Below w.heap.size w w' := by
  have hlt := st_lt hs
  have c3 : w.cell? ⟨g, 3, none⟩ = some (.bool s.waits) := st_cell hs 3
  rw [hw] at c3
  clear hs hw
  go_enter Try.func12, Try.ntmps12
  go_wp2_with (first | (refine wpList_store_row (P := Try.prog) rfl 47 (.tmp 4) (.tmp 16) rfl (w.heap.size + 1) Letter.zero.cells rfl rfl 47 _ (heap_alloc2_new w _ _) (size_letter _) rfl (one_letter _ rfl rfl) ?_))
  exact ret_letter Letter.zero (w.heap.size + 1) rfl rfl (setRow_heap _ _ _ _ _ _ (heap_alloc2_new w _ _)) rfl ⟨rfl, below_setRow (below_two w _ _) (by omega) _⟩

set_option maxRecDepth 100000 in
set_option maxHeartbeats 1600000 in
theorem invoke_full (g : Nat) (s : St) (x : Cmd) (w : World) (hs : St.At w g s) (hw : s.waits = false) (hq : s.seq = 4294967295) :
    Calls Try.prog 12 #[.pointer (some ⟨g, 0, none⟩), .agg x.cells] w fun r w' => r = .returned (.tuple #[.agg Letter.zero.cells, .int .i64 7]) ∧ Below w.heap.size w w' := by
  have hlt := st_lt hs
  have c3 : w.cell? ⟨g, 3, none⟩ = some (.bool s.waits) := st_cell hs 3
  have c2 : w.cell? ⟨g, 2, none⟩ = some (.int .u32 s.seq) := st_cell hs 2
  rw [hw] at c3
  rw [hq] at c2
  clear hs hw hq
  go_enter Try.func12, Try.ntmps12
  go_wp2_with (first | (refine wpList_store_row (P := Try.prog) rfl 47 (.tmp 4) (.tmp 24) rfl (w.heap.size + 1) Letter.zero.cells rfl rfl 47 _ (heap_alloc2_new w _ _) (size_letter _) rfl (one_letter _ rfl rfl) ?_))
  exact ret_letter Letter.zero (w.heap.size + 1) rfl rfl (setRow_heap _ _ _ _ _ _ (heap_alloc2_new w _ _)) rfl ⟨rfl, below_setRow (below_two w _ _) (by omega) _⟩

/-- The command as its own, with its next number. -/
def St.named (s : St) (x : Cmd) : Cmd := { x with client := s.id, seq := s.seq + 1 }
def St.invoked (s : St) (x : Cmd) : St := { s with seq := s.seq + 1, x := s.named x, waits := true }
/-- What Invoke answers and leaves of a client that waits for nothing. -/
def InvokeGoes (g : Nat) (s : St) (x : Cmd) (w : World) (r : Ending) (w' : World) : Prop :=
  ((s.named x).mayB = false → r = .returned (.tuple #[.agg Letter.zero.cells, .int .i64 2]) ∧ Upd w w' g s) ∧
  ((s.named x).mayB = true → r = .returned (.tuple #[.agg (s.invoked x).asks.cells, .int .i64 0]) ∧ Upd w w' g (s.invoked x))
theorem invoked_ok {s : St} {x : Cmd} (hok : s.Ok) (hq : s.seq < 4294967295) : (s.invoked x).Ok :=
  ⟨hok.id0, hok.id1, hok.n0, hok.n1, hok.dst0, hok.dst1, by have := hok.seq0; show 0 ≤ s.seq + 1; omega, by show s.seq + 1 < 4294967296; omega⟩

theorem named_in {w : World} {b : Nat} {s : St} {x : Cmd} (h : Cmd.In w b x) : Cmd.In (((w.setCell ⟨b, 0, none⟩ (.int .u8 s.id)).setCell ⟨b, 1, none⟩ (.int .u32 (s.seq + 1))).drew) b (s.named x) := by
  have h1 : (w.setCell ⟨b, 0, none⟩ (.int .u8 s.id)).heap[b]? = some (.cells (x.cells.setIfInBounds 0 (.int .u8 s.id)) 36 (0, 0)) := heap_setCell_same _ _ _ _ _ _ h
  exact heap_setCell_same _ _ 1 _ _ _ h1
theorem named_fits {s : St} {x : Cmd} (hok : s.Ok) (hq : s.seq < 4294967295) (hx : x.Fits) : (s.named x).Fits := by
  have h0 := hok.id0
  have h1 := hok.id1
  have h2 := hok.seq0
  refine ⟨?_, ?_, hx.kind, hx.set, hx.key, hx.old, hx.new⟩
  · simp [Lit.wf, St.named, IntKind.min, IntKind.max, IntKind.signed, IntKind.bits]; omega
  · simp [Lit.wf, St.named, IntKind.min, IntKind.max, IntKind.signed, IntKind.bits]; omega

theorem block_lt {w : World} {b : Nat} {o : Obj} (h : w.heap[b]? = some o) : b < w.heap.size := by
  rcases Nat.lt_or_ge b w.heap.size with hlt | hge
  · exact hlt
  · rw [Array.getElem?_eq_none hge] at h; cases h

/-- The world behind the stores of an Invoke. -/
abbrev stored (w : World) (g : Nat) (s : St) (x : Cmd) : World :=
  (((((((((w.setCell ⟨g, 2, none⟩ (.int .u32 (s.seq + 1))).setCell ⟨g, 4, none⟩ (.int .u8 s.id)).setCell ⟨g, 5, none⟩ (.int .u32 (s.seq + 1))).setCell ⟨g, 6, none⟩ (.int .u8 x.kind)).setCell ⟨g, 7, none⟩ (.string x.key)).setCell
    ⟨g, 8, none⟩ (.string x.old)).setCell ⟨g, 9, none⟩ (.string x.new)).setCell ⟨g, 10, none⟩ (.int .u8 x.set)).setCell ⟨g, 3, none⟩ (.bool true))
theorem set_cells {w : World} {g : Nat} {cs : Array Value} {t : TypeId} (h : w.heap[g]? = some (.cells cs t (0, 0))) (i : Nat) (v : Value) : (w.setCell ⟨g, i, none⟩ v).heap[g]? = some (.cells (cs.setIfInBounds i v) t (0, 0)) := heap_setCell_same _ _ i _ _ _ h
theorem at_drew {w : World} {g : Nat} {s : St} (h : St.At w g s) : St.At w.drew g s := h
theorem letter_drew {w : World} {g : Nat} {l : Letter} (h : Letter.In w g l) : Letter.In w.drew g l := h
theorem letter_set {w : World} {g i b : Nat} {l : Letter} {v : Value} (h : Letter.In w b l) (hb : b ≠ g) : Letter.In (w.setCell ⟨g, i, none⟩ v) b l := (Below.heap_setCell w ⟨g, i, none⟩ v b hb).trans h
theorem cells_at {w : World} {g : Nat} {s : St} {cs : Array Value} (h : w.heap[g]? = some (.cells cs 70 (0, 0))) (he : cs = s.cells) : St.At w g s := by rw [he] at h; exact h
theorem invoked_at {w : World} {g : Nat} {s : St} {x : Cmd} (h : St.At w g s) : St.At (stored w g s x) g (s.invoked x) := by
  have h2 := set_cells h 2 (.int .u32 (s.seq + 1))
  have h4 := set_cells h2 4 (.int .u8 s.id)
  have h5 := set_cells h4 5 (.int .u32 (s.seq + 1))
  have h6 := set_cells h5 6 (.int .u8 x.kind)
  have h7 := set_cells h6 7 (.string x.key)
  have h8 := set_cells h7 8 (.string x.old)
  have h9 := set_cells h8 9 (.string x.new)
  have h10 := set_cells h9 10 (.int .u8 x.set)
  have h3 := set_cells h10 3 (.bool true)
  exact cells_at h3 (by simp [St.cells, St.invoked, St.named])
theorem set_other (w : World) (g i k : Nat) (v : Value) (h : k ≠ g) : (w.setCell ⟨g, i, none⟩ v).heap[k]? = w.heap[k]? := Below.heap_setCell w ⟨g, i, none⟩ v k h
theorem stored_letter {w : World} {g : Nat} {s : St} {x : Cmd} {b : Nat} {l : Letter} (h : Letter.In w b l) (hb : b ≠ g) : Letter.In (stored w g s x) b l :=
  letter_set (letter_set (letter_set (letter_set (letter_set (letter_set (letter_set (letter_set (letter_set h hb) hb) hb) hb) hb) hb) hb) hb) hb
theorem stored_grown {a w : World} {g : Nat} {s : St} {x : Cmd} (h : a.grownBy w (some g)) : a.grownBy (stored w g s x) (some g) :=
  by
  have h2 := grown_set h (i := 2) (.int .u32 (s.seq + 1))
  have h4 := grown_set h2 (i := 4) (.int .u8 s.id)
  have h5 := grown_set h4 (i := 5) (.int .u32 (s.seq + 1))
  have h6 := grown_set h5 (i := 6) (.int .u8 x.kind)
  have h7 := grown_set h6 (i := 7) (.string x.key)
  have h8 := grown_set h7 (i := 8) (.string x.old)
  have h9 := grown_set h8 (i := 9) (.string x.new)
  have h10 := grown_set h9 (i := 10) (.int .u8 x.set)
  exact grown_set h10 (i := 3) (.bool true)

set_option maxRecDepth 100000 in
set_option maxHeartbeats 1600000 in
theorem invoke_go (g : Nat) (s : St) (x : Cmd) (w : World) (hs : St.At w g s) (hok : s.Ok) (hw : s.waits = false) (hq : s.seq < 4294967295) (hx : x.Fits) :
    Calls Try.prog 12 #[.pointer (some ⟨g, 0, none⟩), .agg x.cells] w (InvokeGoes g s x w) := by
  have hlt := st_lt hs
  have c3 : w.cell? ⟨g, 3, none⟩ = some (.bool s.waits) := st_cell hs 3
  have c2 : w.cell? ⟨g, 2, none⟩ = some (.int .u32 s.seq) := st_cell hs 2
  rw [hw] at c3
  have hq0 : 0 ≤ s.seq := hok.seq0
  have hne : (s.seq + 1 == 0) = false := by rw [beq_eq_false_iff_ne]; omega
  have Hw := Lib.hid hw
  clear hw
  go_enter Try.func12, Try.ntmps12
  go_upto_region 7 with fail
  refine code_from (fun wc => Cmd.In wc w.heap.size x ∧ Letter.In wc (w.heap.size + 1) Letter.zero ∧ Below w.heap.size w wc) ⟨heap_alloc2_old w _ _, heap_alloc2_new w _ _, below_two w _ _⟩ ?_
  rintro wc ⟨hC, hB, hbel⟩
  have hs' := st_below hs hbel hlt
  clear c3 c2
  have e0 : wc.cell? ⟨g, 0, none⟩ = some (.int .u8 s.id) := st_cell hs' 0
  have e2 : wc.cell? ⟨g, 2, none⟩ = some (.int .u32 s.seq) := st_cell hs' 2
  have d0 : wc.cell? ⟨w.heap.size, 0, none⟩ = some (.int .u8 x.client) := cell_of_row wc _ 0 _ _ _ hC
  have d1 : wc.cell? ⟨w.heap.size, 1, none⟩ = some (.int .u32 x.seq) := cell_of_row wc _ 1 _ _ _ hC
  have g0 : wc.frozen? ⟨w.heap.size, 0, none⟩ = false := frozen_of_row wc _ 0 _ _ hC
  have g1 : wc.frozen? ⟨w.heap.size, 1, none⟩ = false := frozen_of_row wc _ 1 _ _ hC
  go_region
  go_upto_region 8 with fail
  refine code_from (fun wd => Cmd.In wd w.heap.size (s.named x) ∧ Letter.In wd (w.heap.size + 1) Letter.zero ∧ St.At wd g s ∧ Below w.heap.size w wd)
    ⟨named_in hC, (Below.heap_setCell _ _ _ _ (by show w.heap.size + 1 ≠ w.heap.size; omega)).trans ((Below.heap_setCell _ _ _ _ (by show w.heap.size + 1 ≠ w.heap.size; omega)).trans hB),
      (Below.heap_setCell _ _ _ _ (by show g ≠ w.heap.size; omega)).trans ((Below.heap_setCell _ _ _ _ (by show g ≠ w.heap.size; omega)).trans hs'), ((hbel.setCell (Nat.le_refl _) _).setCell (Nat.le_refl _) _).drew⟩ ?_
  clear hC hB hbel hs' e0 e2 d0 d1 g0 g1 wc
  rintro wc ⟨hC, hB, hs', hbel⟩
  have hfit := named_fits hok hq hx
  clear hne hs hx
  go_wp2_with (refine wpList_load_row rfl 36 _ rfl w.heap.size rfl 36 (s.named x).cells (0, 0) _ hC Try.underlying36 rfl (size_cmd _) ?_)
  refine (check_any (s.named x) _ hfit).mono ?_
  rintro e w1 ⟨rfl, hb⟩
  have hC1 : Cmd.In w1 w.heap.size (s.named x) := (hb.block _ (block_lt hC)).trans hC
  have hB1 : Letter.In w1 (w.heap.size + 1) Letter.zero := (hb.block _ (block_lt hB)).trans hB
  have hs1 : St.At w1 g s := (hb.block _ (block_lt hs')).trans hs'
  have hbel1 := hbel.trans (hb.mono hbel.size)
  clear hC hB hs' hb hbel wc
  have hgl : g < w1.heap.size := st_lt hs1
  cases hm : (s.named x).mayB with
  | false =>
    rw [Cmd.code_no hm]
    have Hm := Lib.hid hm
    clear hm
    go_wp2_with fail
    refine (sends_no 2 _ _ (by decide)).mono ?_
    rintro e w2 ⟨rfl, hb⟩
    have hB2 : Letter.In w2 (w.heap.size + 1) Letter.zero := (hb.block _ (block_lt hB1)).trans hB1
    have hs2 : St.At w2 g s := (hb.block _ (block_lt hs1)).trans hs1
    have hbel2 := hbel1.trans (hb.mono hbel1.size)
    clear hC1 hB1 hs1 hbel1 hb hfit hok hq hq0 hgl
    go_wp2_with (first | (refine wpList_store_row (P := Try.prog) rfl 47 (.tmp 4) (.tmp 56) rfl (w.heap.size + 1) Letter.zero.cells rfl rfl 47 _ hB2 (size_letter _) rfl (one_letter _ rfl rfl) ?_))
    exact ret_letter _ (w.heap.size + 1) rfl rfl (setRow_heap _ _ _ _ _ _ hB2) rfl ⟨fun _ => ⟨rfl, st_row hs2 (by omega) _, grown_row (grown_below hbel2 (Nat.le_refl _)) (by omega) _⟩, fun h => absurd (Hm.out.symm.trans h) (by decide)⟩
  | true =>
    rw [Cmd.code_yes hm]
    have Hm := Lib.hid hm
    clear hm
    have hok' := invoked_ok (x := x) hok hq
    go_upto_region 10 with fail
    have n0 : w1.cell? ⟨w.heap.size, 0, none⟩ = some (.int .u8 s.id) := cell_of_row w1 _ 0 _ _ _ hC1
    have n1 : w1.cell? ⟨w.heap.size, 1, none⟩ = some (.int .u32 (s.seq + 1)) := cell_of_row w1 _ 1 _ _ _ hC1
    have n2 : w1.cell? ⟨w.heap.size, 2, none⟩ = some (.int .u8 x.kind) := cell_of_row w1 _ 2 _ _ _ hC1
    have n3 : w1.cell? ⟨w.heap.size, 3, none⟩ = some (.string x.key) := cell_of_row w1 _ 3 _ _ _ hC1
    have n4 : w1.cell? ⟨w.heap.size, 4, none⟩ = some (.string x.old) := cell_of_row w1 _ 4 _ _ _ hC1
    have n5 : w1.cell? ⟨w.heap.size, 5, none⟩ = some (.string x.new) := cell_of_row w1 _ 5 _ _ _ hC1
    have n6 : w1.cell? ⟨w.heap.size, 6, none⟩ = some (.int .u8 x.set) := cell_of_row w1 _ 6 _ _ _ hC1
    have b2 : w1.cell? ⟨g, 2, none⟩ = some (.int .u32 s.seq) := st_cell hs1 2
    have b3 : w1.cell? ⟨g, 3, none⟩ = some (.bool s.waits) := st_cell hs1 3
    have b4 : w1.cell? ⟨g, 4, none⟩ = some (.int .u8 s.x.client) := st_cell hs1 4
    have b5 : w1.cell? ⟨g, 5, none⟩ = some (.int .u32 s.x.seq) := st_cell hs1 5
    have b6 : w1.cell? ⟨g, 6, none⟩ = some (.int .u8 s.x.kind) := st_cell hs1 6
    have b7 : w1.cell? ⟨g, 7, none⟩ = some (.string s.x.key) := st_cell hs1 7
    have b8 : w1.cell? ⟨g, 8, none⟩ = some (.string s.x.old) := st_cell hs1 8
    have b9 : w1.cell? ⟨g, 9, none⟩ = some (.string s.x.new) := st_cell hs1 9
    have b10 : w1.cell? ⟨g, 10, none⟩ = some (.int .u8 s.x.set) := st_cell hs1 10
    have hf := fun i => frozen_of_row w1 g i _ _ hs1
    have f2 := hf 2
    have f3 := hf 3
    have f4 := hf 4
    have f5 := hf 5
    have f6 := hf 6
    have f7 := hf 7
    have f8 := hf 8
    have f9 := hf 9
    have f10 := hf 10
    have hne : ¬ g = w.heap.size := by omega
    clear hf hfit hok hq hq0
    go_region
    go_wp2_with fail
    have hset : St.At (stored w1 g s x).drew g (s.invoked x) := at_drew (invoked_at hs1)
    have hbs : Letter.In (stored w1 g s x).drew (w.heap.size + 1) Letter.zero := letter_drew (stored_letter hB1 (by omega))
    have hgr : w.grownBy (stored w1 g s x).drew (some g) := grown_drew (stored_grown (grown_below hbel1 (Nat.le_refl _)))
    refine (sends_yes g (s.invoked x) _ hset hok').mono ?_
    rintro e w2 ⟨rfl, hb⟩
    have hB2 : Letter.In w2 (w.heap.size + 1) Letter.zero := (hb.block _ (letter_lt hbs)).trans hbs
    have hs2 := st_below hset hb (st_lt hset)
    have hgr2 := grown_trans hgr (grown_below (r := some g) hb (Nat.le_refl _))
    clear hC1 hB1 hs1 hbel1 hset hbs hgr hb n0 n1 n2 n3 n4 n5 n6 b2 b3 b4 b5 b6 b7 b8 b9 b10 f2 f3 f4 f5 f6 f7 f8 f9 f10 hgl hok'
    go_wp2_with (first | (refine wpList_store_row (P := Try.prog) rfl 47 (.tmp 4) (.tmp 56) rfl (w.heap.size + 1) (s.invoked x).asks.cells rfl rfl 47 _ hB2 (size_letter _) rfl (one_letter _ rfl rfl) ?_))
    exact ret_letter _ (w.heap.size + 1) rfl rfl (setRow_heap _ _ _ _ _ _ hB2) rfl ⟨fun h => absurd (Hm.out.symm.trans h) (by decide), fun _ => ⟨rfl, st_row hs2 (by omega) _, grown_row hgr2 (by omega) _⟩⟩
end Go.Proofs.Ytakpkedioehjbaa
