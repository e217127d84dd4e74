/-
  '==' of two items; what no row answers to Keep and Jump.
-/
import Derived.Test.YtfkofdhobhalpaaLast
import Derived.Laws.StructEq
namespace Go.Proofs.Ytfkofdhobhalpaa
open Go.RowKit Go.Maps Go.BigFrame

theorem guard_item (op : BinOp) (x y : Operand) (xs ys : Array Value) (w : World) : (eqGuard op 33 x y (.agg xs) (.agg ys)).run Try.prog w = .ok () w :=
  run_eqGuard_agg w op 33 x y xs ys (by kernel_rfl)
theorem item_fields : (Try.prog.fieldsOf 33).toList.map (fun f => (f.name, f.type, f.offset)) = [("Slot", 29, 0), ("Value", 9, 1)] := by kernel_rfl
theorem item_struct : Try.prog.underlying 33 = some (.struct (Try.prog.fieldsOf 33)) := by kernel_rfl
/-- The comparison, field by field, off the fields' names, types and places. -/
def eqAt (d : Nat) (xs ys : Array Value) : List (String × TypeId × Nat) → Sem Bool
  | [] => pure true
  | (n, t, o) :: fs =>
    if n ≠ "_" then do
      let a ← part t xs o
      let b ← part t ys o
      let r ← Op.equalIn d t a b
      if (!r) = true then pure false else eqAt d xs ys fs
    else eqAt d xs ys fs
theorem eqFields_at (d : Nat) (xs ys : Array Value) : ∀ fs : List Field, Op.eqFields d xs ys fs = eqAt d xs ys (fs.map fun f => (f.name, f.type, f.offset))
  | [] => rfl
  | f :: fs => by
    simp only [Op.eqFields, List.map_cons, eqAt, eqFields_at d xs ys fs]
/-- Are two items one? -/
def sameItem (a : Int) (v : ByteArray) (b : Int) (u : ByteArray) : Bool := a == b && v.toList == u.toList
theorem eq_item (a b : Int) (v u : ByteArray) (w : World) : (binOp .eql 33 (.agg #[.int .u64 a, .string v]) (.agg #[.int .u64 b, .string u])).run Try.prog w = .ok (.bool (sameItem a v b u)) w := by
  rw [run_eql_struct, run_equalIn_struct w _ _ _ _ item_struct (by kernel_rfl), eqFields_at, item_fields]
  simp [eqAt, go_sem]
  (repeat' split) <;> simp_all [sameItem]
theorem ne_item (a b : Int) (v u : ByteArray) (w : World) : (binOp .neq 33 (.agg #[.int .u64 a, .string v]) (.agg #[.int .u64 b, .string u])).run Try.prog w = .ok (.bool (!sameItem a v b u)) w := by
  rw [run_neq_struct, run_equalIn_struct w _ _ _ _ item_struct (by kernel_rfl), eqFields_at, item_fields]
  simp [eqAt, go_sem]
  (repeat' split) <;> simp_all [sameItem]
theorem same_self (a : Int) (v : ByteArray) : sameItem a v a v = true := by simp [sameItem]

set_option maxRecDepth 100000 in
set_option maxHeartbeats 800000 in
theorem keep_nil (k : Int) (w : World) : Calls Try.prog 11 #[.pointer none, .int .u64 k] w fun r w' => r = .returned (.int .i64 1) ∧ Below w.heap.size w w' := by
  go_enter Try.func11, Try.ntmps11
  go_upto_region 1 with fail
  refine code_from (fun wd => wd.cell? ⟨w.heap.size, 0, none⟩ = some (.pointer none) ∧ wd.cell? ⟨w.heap.size + 1, 0, none⟩ = some (.int .u64 k) ∧ Below w.heap.size w wd)
    ⟨cell_of_row _ _ 0 _ _ _ (heap_alloc2_old w _ _), cell_of_row _ _ 0 _ _ _ (heap_alloc2_new w _ _), ((Below.refl _ _).alloc (Nat.le_refl _) _).alloc (by simp) _⟩ ?_
  rintro wd ⟨hp, hs, hb⟩
  refine mix_begin (by kernel_rfl) ?_
  refine mix_piece 0 7 (fun w' => ∃ n, w' = wd.drewN n) (by kernel_rfl) ⟨1, rfl⟩ ?_
  simp only [Nat.reduceSub, List.take_succ_cons, List.take_zero, List.drop_zero]
  repeat (go_big_quiet_step ((go_at_call 14; exact quiet_left (top_nil _))))
  refine wpQuiet_nil ?_
  rintro _ ⟨nq, rfl⟩
  refine mix_forced 7 rfl (by kernel_rfl) (by kernel_rfl) (fun K hK => ?_)
  go_simp
  refine (with_nil k _ _ _).mono ?_
  rintro e w1 ⟨rfl, rfl⟩
  refine hK _ _ ?_
  clear hK K
  refine mix_piece 8 9 (fun w' => w' = wd.drewN nq) (by kernel_rfl) rfl ?_
  simp only [Nat.reduceSub, List.take_succ_cons, List.take_zero, List.drop_succ_cons, List.drop_zero]
  repeat (go_big_quiet_step (fail))
  refine wpQuiet_nil ?_
  rintro _ rfl
  refine mix_end 9 rfl (by kernel_rfl) ?_
  go_wp2_with fail
  go_ret
  exact ⟨rfl, ⟨hb.os, hb.tape, hb.output, hb.size, hb.block⟩⟩
set_option maxRecDepth 100000 in
set_option maxHeartbeats 800000 in
theorem jump_nil (k : Int) (w : World) : Calls Try.prog 18 #[.pointer none, .int .u64 k] w fun r w' => r = .returned (.int .i64 1) ∧ Below w.heap.size w w' := by
  go_enter Try.func18, Try.ntmps18
  go_upto_region 1 with fail
  refine code_from (fun wd => wd.cell? ⟨w.heap.size, 0, none⟩ = some (.pointer none) ∧ wd.cell? ⟨w.heap.size + 1, 0, none⟩ = some (.int .u64 k) ∧ Below w.heap.size w wd)
    ⟨cell_of_row _ _ 0 _ _ _ (heap_alloc2_old w _ _), cell_of_row _ _ 0 _ _ _ (heap_alloc2_new w _ _), ((Below.refl _ _).alloc (Nat.le_refl _) _).alloc (by simp) _⟩ ?_
  rintro wd ⟨hp, hs, hb⟩
  refine mix_begin (by kernel_rfl) ?_
  refine mix_piece 0 7 (fun w' => ∃ n, w' = wd.drewN n) (by kernel_rfl) ⟨1, rfl⟩ ?_
  simp only [Nat.reduceSub, List.take_succ_cons, List.take_zero, List.drop_zero]
  repeat (go_big_quiet_step ((go_at_call 14; exact quiet_left (top_nil _))))
  refine wpQuiet_nil ?_
  rintro _ ⟨nq, rfl⟩
  refine mix_forced 7 rfl (by kernel_rfl) (by kernel_rfl) (fun K hK => ?_)
  go_simp
  refine (with_nil k _ _ _).mono ?_
  rintro e w1 ⟨rfl, rfl⟩
  refine hK _ _ ?_
  clear hK K
  refine mix_piece 8 9 (fun w' => w' = wd.drewN nq) (by kernel_rfl) rfl ?_
  simp only [Nat.reduceSub, List.take_succ_cons, List.take_zero, List.drop_succ_cons, List.drop_zero]
  repeat (go_big_quiet_step (fail))
  refine wpQuiet_nil ?_
  rintro _ rfl
  refine mix_end 9 rfl (by kernel_rfl) ?_
  go_wp2_with fail
  go_ret
  exact ⟨rfl, ⟨hb.os, hb.tape, hb.output, hb.size, hb.block⟩⟩
end Go.Proofs.Ytfkofdhobhalpaa
