/-
  '==' of two commands.
-/
import Derived.Test.YtakpkedioehjbaaMeth
import Derived.Laws.StructEq
namespace Go.Proofs.Ytakpkedioehjbaa
open Go.RowKit Go.Maps

/-- Are two commands one? -/
def Cmd.same (c d : Cmd) : Bool := c.client == d.client && c.seq == d.seq && c.kind == d.kind && c.key.toList == d.key.toList && c.old.toList == d.old.toList && c.new.toList == d.new.toList && c.set == d.set
theorem guard_cmd (op : BinOp) (x y : Operand) (xs ys : Array Value) (w : World) : (eqGuard op 36 x y (.agg xs) (.agg ys)).run Try.prog w = .ok () w :=
  run_eqGuard_agg w op 36 x y xs ys (by kernel_rfl)
theorem cmd_fields : (Try.prog.fieldsOf 36).toList.map (fun f => (f.name, f.type, f.offset)) = [("Client", 5, 0), ("Seq", 34, 1), ("Kind", 5, 2), ("Key", 9, 3), ("Old", 9, 4), ("New", 9, 5), ("Set", 5, 6)] := by kernel_rfl
theorem cmd_struct : Try.prog.underlying 36 = some (.struct (Try.prog.fieldsOf 36)) := by kernel_rfl
/-- The comparison, field by field, off the fields' names, types and places. -/
def eqAt (d : Nat) (xs ys : Array Value) : List (String × TypeId × Nat) → Sem Bool
  | [] => pure true
  | (n, t, o) :: fs =>
    if n ≠ "_" then do
      let a ← part t xs o
      let b ← part t ys o
      let r ← Op.equalIn d t a b
      if (!r) = true then pure false else eqAt d xs ys fs
    else eqAt d xs ys fs
theorem eqFields_at (d : Nat) (xs ys : Array Value) : ∀ fs : List Field, Op.eqFields d xs ys fs = eqAt d xs ys (fs.map fun f => (f.name, f.type, f.offset))
  | [] => rfl
  | f :: fs => by
    simp only [Op.eqFields, List.map_cons, eqAt, eqFields_at d xs ys fs]

theorem eq_cmd (c d : Cmd) (w : World) : (binOp .eql 36 (.agg c.cells) (.agg d.cells)).run Try.prog w = .ok (.bool (c.same d)) w := by
  rw [run_eql_struct, run_equalIn_struct w _ _ _ _ cmd_struct (by kernel_rfl), eqFields_at, cmd_fields]
  simp [eqAt, go_sem, Cmd.cells]
  (repeat' split) <;> simp_all [Cmd.same]
theorem ne_cmd (c d : Cmd) (w : World) : (binOp .neq 36 (.agg c.cells) (.agg d.cells)).run Try.prog w = .ok (.bool (!c.same d)) w := by
  rw [run_neq_struct, run_equalIn_struct w _ _ _ _ cmd_struct (by kernel_rfl), eqFields_at, cmd_fields]
  simp [eqAt, go_sem, Cmd.cells]
  (repeat' split) <;> simp_all [Cmd.same]

/-- '==' of two names. -/
theorem same_names (a b c d : Int) : Cmd.same ⟨a, b, 0, ⟨#[]⟩, ⟨#[]⟩, ⟨#[]⟩, 0⟩ ⟨c, d, 0, ⟨#[]⟩, ⟨#[]⟩, ⟨#[]⟩, 0⟩ = (a == c && b == d) := by
  simp [Cmd.same]
theorem eq_names (a b c d : Int) (w : World) : (binOp .eql 36 (.agg #[.int .u8 a, .int .u32 b, .int .u8 0, .string ⟨#[]⟩, .string ⟨#[]⟩, .string ⟨#[]⟩, .int .u8 0]) (.agg #[.int .u8 c, .int .u32 d, .int .u8 0, .string ⟨#[]⟩, .string ⟨#[]⟩, .string ⟨#[]⟩, .int .u8 0])).run Try.prog w =
    .ok (.bool (a == c && b == d)) w := by
  have h := eq_cmd ⟨a, b, 0, ⟨#[]⟩, ⟨#[]⟩, ⟨#[]⟩, 0⟩ ⟨c, d, 0, ⟨#[]⟩, ⟨#[]⟩, ⟨#[]⟩, 0⟩ w
  rw [same_names] at h
  simp only [Cmd.cells] at h
  exact h

/-- A reply. -/
structure Reply where
  code : Int
  text : ByteArray
def Reply.cells (r : Reply) : Array Value := #[.int .u8 r.code, .string r.text]
def Reply.zero : Reply := ⟨0, ByteArray.empty⟩
def Reply.same (r s : Reply) : Bool := r.code == s.code && r.text.toList == s.text.toList
theorem guard_reply (op : BinOp) (x y : Operand) (xs ys : Array Value) (w : World) : (eqGuard op 43 x y (.agg xs) (.agg ys)).run Try.prog w = .ok () w :=
  run_eqGuard_agg w op 43 x y xs ys (by kernel_rfl)
theorem reply_fields : (Try.prog.fieldsOf 43).toList.map (fun f => (f.name, f.type, f.offset)) = [("Code", 5, 0), ("Text", 9, 1)] := by kernel_rfl
theorem reply_struct : Try.prog.underlying 43 = some (.struct (Try.prog.fieldsOf 43)) := by kernel_rfl
theorem eq_reply (c d : Reply) (w : World) : (binOp .eql 43 (.agg c.cells) (.agg d.cells)).run Try.prog w = .ok (.bool (c.same d)) w := by
  rw [run_eql_struct, run_equalIn_struct w _ _ _ _ reply_struct (by kernel_rfl), eqFields_at, reply_fields]
  simp [eqAt, go_sem, Reply.cells]
  (repeat' split) <;> simp_all [Reply.same]
theorem ne_reply (c d : Reply) (w : World) : (binOp .neq 43 (.agg c.cells) (.agg d.cells)).run Try.prog w = .ok (.bool (!c.same d)) w := by
  rw [run_neq_struct, run_equalIn_struct w _ _ _ _ reply_struct (by kernel_rfl), eqFields_at, reply_fields]
  simp [eqAt, go_sem, Reply.cells]
  (repeat' split) <;> simp_all [Reply.same]
theorem size_reply (r : Reply) : (Try.prog.info? 43).map (·.size) = some r.cells.size := by
  rw [show r.cells.size = 2 from rfl]
  kernel_rfl
theorem one_reply (r : Reply) : r.cells.all (·.oneCell') = true := by
  simp [Reply.cells, Value.oneCell']
end Go.Proofs.Ytakpkedioehjbaa
