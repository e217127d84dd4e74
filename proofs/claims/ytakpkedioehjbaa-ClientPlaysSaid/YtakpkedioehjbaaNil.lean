/-
  THE WALK of the law ClientNil.
-/
import Derived.Test.YtakpkedioehjbaaWakesB
namespace Go.Proofs.Ytakpkedioehjbaa
open Go.RowKit Go.Maps

/-- An act. -/
structure Deed where
  act : Int
  x : Cmd
  l : Letter
theorem old_block {w : World} {k : Nat} {o : Obj} (h : w.heap[k]? = some o) (p : Obj) (cs : Array Value) : ((w.alloc p).setRow w.heap.size cs).heap[k]? = some o := by
  have hlt := block_lt h
  exact (setRow_other _ _ _ _ (by omega)).trans ((Below.heap_alloc w p k hlt).trans h)
def Deed.cells (d : Deed) : Array Value := #[.int .u8 d.act, .int .u8 d.x.client, .int .u32 d.x.seq, .int .u8 d.x.kind, .string d.x.key, .string d.x.old, .string d.x.new, .int .u8 d.x.set,
  .int .u8 d.l.src, .int .u8 d.l.dst, .int .u8 d.l.kind, .int .u64 d.l.bn, .int .u8 d.l.br, .int .u64 d.l.base, .int .u64 d.l.slot, .int .u8 d.l.node, .string d.l.value, d.l.votes, d.l.items,
  .int .u8 d.l.cmd.client, .int .u32 d.l.cmd.seq, .int .u8 d.l.cmd.kind, .string d.l.cmd.key, .string d.l.cmd.old, .string d.l.cmd.new, .int .u8 d.l.cmd.set, .int .u8 d.l.code, .string d.l.text]
theorem deed_cmd (d : Deed) : d.x.cells = d.cells.extract 1 8 := by simp [Cmd.cells, Deed.cells]
theorem deed_letter (d : Deed) : d.l.cells = d.cells.extract 8 28 := by simp [Letter.cells, Deed.cells]

set_option maxRecDepth 100000 in
set_option maxHeartbeats 1600000 in
theorem law_nil (d : Deed) (w : World) : Calls Try.prog 4 #[.agg d.cells] w fun r w' => r = .returned (.bool true) ∧ Below w.heap.size w w' := by
  go_enter Try.func4, Try.ntmps4
  go_upto_region 1 with fail
  refine code_from (fun wc => wc.heap[w.heap.size]? = some (.cells d.cells 49 (0, 0)) ∧ Below w.heap.size w wc) ⟨heap_alloc_new w _, (Below.refl _ _).alloc (Nat.le_refl _) _⟩ ?_
  rintro wc ⟨hA, hbel⟩
  go_wp2_with (refine wpList_load_cells (P := Try.prog) rfl 36 _ rfl ⟨w.heap.size, 1, none⟩ rfl d.x.cells _ (cells_part hA _ (deed_cmd d)) Try.underlying36 rfl (size_cmd _) ?_)
  refine (invoke_nil d.x _).mono ?_
  rintro e w1 ⟨rfl, hb⟩
  replace hA := (hb.block _ (block_lt hA)).trans hA
  replace hbel := hbel.trans (hb.mono hbel.size)
  clear hb wc
  go_upto_region 3 with (first | (refine wpList_store_row (P := Try.prog) rfl 47 (.tmp 4) (.tmp 19) rfl w1.heap.size Letter.zero.cells rfl rfl 47 _ (heap_alloc_new w1 _) (size_letter _) rfl (one_letter _ rfl rfl) ?_))
  refine code_from (fun wc => wc.heap[w.heap.size]? = some (.cells d.cells 49 (0, 0)) ∧ Below w.heap.size w wc) ⟨old_block hA _ _, old_below hbel _ _⟩ ?_
  clear hA hbel
  generalize w1.heap.size = b4
  clear w1
  rintro wc ⟨hA, hbel⟩
  go_wp2_with fail
  refine (nudge_nil _).mono ?_
  rintro e w1 ⟨rfl, hb⟩
  replace hA := (hb.block _ (block_lt hA)).trans hA
  replace hbel := hbel.trans (hb.mono hbel.size)
  clear hb wc
  go_upto_region 4 with (first | (refine wpList_store_row (P := Try.prog) rfl 47 (.tmp 6) (.tmp 24) rfl w1.heap.size Letter.zero.cells rfl rfl 47 _ (heap_alloc_new w1 _) (size_letter _) rfl (one_letter _ rfl rfl) ?_))
  refine code_from (fun wc => wc.heap[w.heap.size]? = some (.cells d.cells 49 (0, 0)) ∧ Below w.heap.size w wc) ⟨old_block hA _ _, old_below hbel _ _⟩ ?_
  clear hA hbel
  generalize w1.heap.size = b6
  clear w1
  rintro wc ⟨hA, hbel⟩
  go_wp2_with (refine wpList_load_cells (P := Try.prog) rfl 47 _ rfl ⟨w.heap.size, 8, none⟩ rfl d.l.cells _ (cells_part hA _ (deed_letter d)) Try.underlying47 rfl (size_letter _) ?_)
  refine (hear_nil d.l _).mono ?_
  rintro e w1 ⟨rfl, hb⟩
  replace hbel := hbel.trans (hb.mono hbel.size)
  clear hb hA wc
  go_upto_region 5 with (first | (refine wpList_store_row (P := Try.prog) rfl 47 (.tmp 8) (.tmp 31) rfl w1.heap.size Letter.zero.cells rfl rfl 47 _ (heap_alloc2_old w1 _ _) (size_letter _) rfl (one_letter _ rfl rfl) ?_) | (refine wpList_store_row (P := Try.prog) rfl 43 (.tmp 10) (.tmp 33) rfl (w1.heap.size + 1) Reply.zero.cells rfl rfl 43 _ (two_new w1 _ _ _) (size_reply _) rfl (one_reply _) ?_))
  refine code_from (fun wc => Below w.heap.size w wc) (two_below hbel) ?_
  clear hbel
  generalize w1.heap.size = b8
  clear w1
  rintro wc hbel
  go_wp2_with fail
  refine (waits_nil _).mono ?_
  rintro e w1 ⟨rfl, hb⟩
  replace hbel := hbel.trans (hb.mono hbel.size)
  clear hb wc
  go_upto_region 6 with (first | (refine wpList_store_row (P := Try.prog) rfl 36 (.tmp 12) (.tmp 38) rfl w1.heap.size Cmd.zero.cells rfl rfl 36 _ (heap_alloc_new w1 _) (size_cmd _) rfl (one_cmd _) ?_))
  refine code_from (fun wc => Below w.heap.size w wc) (old_below hbel _ _) ?_
  clear hbel
  generalize w1.heap.size = b12
  clear w1
  rintro wc hbel
  go_wp2_with fail
  refine (wakes_any _).mono ?_
  rintro e w1 ⟨rfl, hb⟩
  replace hbel := hbel.trans (hb.mono hbel.size)
  go_wp2_with fail
  go_ret
  exact ⟨rfl, hbel⟩
end Go.Proofs.Ytakpkedioehjbaa
