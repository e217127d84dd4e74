/-
  THE WALK of what wakes a client.
-/
import Derived.Test.YtakpkedioehjbaaTakes
namespace Go.Proofs.Ytakpkedioehjbaa
open Go.RowKit Go.Maps

/-- The command 'get', and the name. -/
def getCmd : Cmd := ⟨0, 0, 1, ⟨#[107]⟩, ByteArray.empty, ByteArray.empty, 0⟩
def nameCmd : Cmd := ⟨1, 1, 0, ByteArray.empty, ByteArray.empty, ByteArray.empty, 0⟩
set_option maxRecDepth 100000 in
set_option maxHeartbeats 1600000 in
theorem get_any (w : World) : Calls Try.prog 21 #[] w fun r w' => r = .returned (.agg getCmd.cells) ∧ Below w.heap.size w w' := by
  go_enter Try.func21, Try.ntmps21
  go_wp2_with (first | (refine wpList_store_row (P := Try.prog) rfl 36 (.tmp 0) (.tmp 1) rfl w.heap.size getCmd.cells rfl rfl 36 _ (heap_alloc_new w _) (size_cmd _) rfl (one_cmd _) ?_))
  exact bodyPost_ret (results_cell_row rfl _ _ w.heap.size 36 _ (0, 0) _ rfl (setRow_heap _ _ _ _ _ _ (heap_alloc_new w _)) Try.underlying36 rfl (size_cmd _)) rfl ⟨rfl, below_setRow ((Below.refl _ _).alloc (Nat.le_refl _) _) (Nat.le_refl _) _⟩
set_option maxRecDepth 100000 in
set_option maxHeartbeats 1600000 in
theorem name_any (w : World) : Calls Try.prog 23 #[] w fun r w' => r = .returned (.agg nameCmd.cells) ∧ Below w.heap.size w w' := by
  go_enter Try.func23, Try.ntmps23
  go_wp2_with (first | (refine wpList_store_row (P := Try.prog) rfl 36 (.tmp 0) (.tmp 1) rfl w.heap.size nameCmd.cells rfl rfl 36 _ (heap_alloc_new w _) (size_cmd _) rfl (one_cmd _) ?_))
  exact bodyPost_ret (results_cell_row rfl _ _ w.heap.size 36 _ (0, 0) _ rfl (setRow_heap _ _ _ _ _ _ (heap_alloc_new w _)) Try.underlying36 rfl (size_cmd _)) rfl ⟨rfl, below_setRow ((Below.refl _ _).alloc (Nat.le_refl _) _) (Nat.le_refl _) _⟩

/-- The client that is known, state by state. -/
def wk0 : St := St.new 1 3
def wk1 : St := wk0.invoked getCmd
def wk2 : St := wk1.nudged
def movedLetter : Letter := { Letter.zero with src := 2, dst := 17, kind := 3, node := 0, cmd := nameCmd }
def wk3 : St := wk2.heardMoved movedLetter
def replyLetter : Letter := { Letter.zero with src := 0, dst := 17, kind := 2, cmd := nameCmd, text := ⟨#[120]⟩ }
def wk4 : St := wk3.heardReply
theorem wk0_ok : wk0.Ok := ⟨by decide, by decide, by decide, by decide, by decide, by decide, by decide, by decide⟩
theorem wk1_ok : wk1.Ok := ⟨by decide, by decide, by decide, by decide, by decide, by decide, by decide, by decide⟩
theorem wk2_ok : wk2.Ok := ⟨by decide, by decide, by decide, by decide, by decide, by decide, by decide, by decide⟩
theorem wk3_ok : wk3.Ok := ⟨by decide, by decide, by decide, by decide, by decide, by decide, by decide, by decide⟩
theorem get_fits : getCmd.Fits := ⟨by decide, by decide, by decide, by decide, by decide, by decide, by decide⟩
theorem get_may : (wk0.named getCmd).mayB = true := by kernel_rfl
theorem moved_fits : movedLetter.Fits := ⟨by decide, by decide, by decide, by decide, rfl, rfl⟩
theorem reply_fits : replyLetter.Fits := ⟨by decide, by decide, by decide, by decide, rfl, rfl⟩
theorem wk2_moves : wk2.moves movedLetter = true := by decide
theorem wk3_stays : wk3.moves replyLetter = false := by decide
theorem wk3_takes : wk3.takes replyLetter = true := by decide
end Go.Proofs.Ytakpkedioehjbaa
