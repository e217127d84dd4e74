/-
  THE WALKS of the law's same and of the reference's Same, at two letters that are one, without votes and items.
-/
import Derived.Test.YtakpkedioehjbaaRefA
import Derived.Test.YtakpkedioehjbaaOnceA
namespace Go.Proofs.Ytakpkedioehjbaa
open Go.RowKit Go.Maps Go.BigFrame

theorem guard_ballot (op : BinOp) (x y : Operand) (xs ys : Array Value) (w : World) : (eqGuard op 39 x y (.agg xs) (.agg ys)).run Try.prog w = .ok () w :=
  run_eqGuard_agg w op 39 x y xs ys (by kernel_rfl)
theorem eq_ballot (a b : Int) (w : World) : (binOp .eql 39 (.agg #[.int .u64 a, .int .u8 b]) (.agg #[.int .u64 a, .int .u8 b])).run Try.prog w = .ok (.bool true) w := by
  rw [run_eql_struct, run_equalIn_struct w _ _ _ _ ballot_struct (by kernel_rfl), eqFields_at, ballot_fields]
  simp [eqAt, go_sem]
theorem eq_cmd_self (client seq kind : Int) (key old new : ByteArray) (set : Int) (w : World) : (binOp .eql 36 (.agg #[.int .u8 client, .int .u32 seq, .int .u8 kind, .string key, .string old, .string new, .int .u8 set]) (.agg #[.int .u8 client, .int .u32 seq, .int .u8 kind, .string key, .string old, .string new, .int .u8 set])).run Try.prog w = .ok (.bool true) w := by
  have h := eq_cmd ⟨client, seq, kind, key, old, new, set⟩ ⟨client, seq, kind, key, old, new, set⟩ w
  rw [same_self] at h
  exact h
theorem eq_reply_self (code : Int) (text : ByteArray) (w : World) : (binOp .eql 43 (.agg #[.int .u8 code, .string text]) (.agg #[.int .u8 code, .string text])).run Try.prog w = .ok (.bool true) w := by
  have h := eq_reply ⟨code, text⟩ ⟨code, text⟩ w
  rw [show Reply.same ⟨code, text⟩ ⟨code, text⟩ = true by simp [Reply.same]] at h
  exact h

set_option maxRecDepth 100000 in
set_option maxHeartbeats 3200000 in
theorem refSame_any (l : Letter) (w : World) (hv : l.votes = .slice none 0 0) (hi : l.items = .slice none 0 0) : Calls Try.prog 30 #[.agg l.msg, .agg l.msg] w fun r w' => r = .returned (.bool true) ∧ Below w.heap.size w w' := by
  obtain ⟨src, dst, kind, bn, br, base, slot, node, value, votes, items, ⟨client, seq, ckind, key, old, new, set⟩, code, text⟩ := l
  subst hv hi
  go_enter Try.func30, Try.ntmps30
  go_upto_region 1 with fail
  refine code_from (fun wd => wd.heap[w.heap.size]? = some (.cells (Letter.msg ⟨src, dst, kind, bn, br, base, slot, node, value, .slice none 0 0, .slice none 0 0, ⟨client, seq, ckind, key, old, new, set⟩, code, text⟩) 45 (0, 0)) ∧
    wd.heap[w.heap.size + 1]? = some (.cells (Letter.msg ⟨src, dst, kind, bn, br, base, slot, node, value, .slice none 0 0, .slice none 0 0, ⟨client, seq, ckind, key, old, new, set⟩, code, text⟩) 45 (0, 0)) ∧ Below w.heap.size w wd) ⟨heap_alloc2_old w _ _, heap_alloc2_new w _ _, below_two w _ _⟩ ?_
  rintro wd ⟨hA, hB, hb⟩
  have m0 : wd.cell? ⟨w.heap.size, 0, none⟩ = some (.int .u8 kind) := cell_of_row wd _ 0 _ _ _ hA
  have m1 : wd.cell? ⟨w.heap.size, 1, none⟩ = some (.int .u64 bn) := cell_of_row wd _ 1 _ _ _ hA
  have m2 : wd.cell? ⟨w.heap.size, 2, none⟩ = some (.int .u8 br) := cell_of_row wd _ 2 _ _ _ hA
  have m3 : wd.cell? ⟨w.heap.size, 3, none⟩ = some (.int .u64 base) := cell_of_row wd _ 3 _ _ _ hA
  have m4 : wd.cell? ⟨w.heap.size, 4, none⟩ = some (.int .u64 slot) := cell_of_row wd _ 4 _ _ _ hA
  have m5 : wd.cell? ⟨w.heap.size, 5, none⟩ = some (.int .u8 node) := cell_of_row wd _ 5 _ _ _ hA
  have m6 : wd.cell? ⟨w.heap.size, 6, none⟩ = some (.string value) := cell_of_row wd _ 6 _ _ _ hA
  have m7 : wd.cell? ⟨w.heap.size, 7, none⟩ = some (.slice none 0 0) := cell_of_row wd _ 7 _ _ _ hA
  have m8 : wd.cell? ⟨w.heap.size, 8, none⟩ = some (.slice none 0 0) := cell_of_row wd _ 8 _ _ _ hA
  have m9 : wd.cell? ⟨w.heap.size, 9, none⟩ = some (.int .u8 client) := cell_of_row wd _ 9 _ _ _ hA
  have m10 : wd.cell? ⟨w.heap.size, 10, none⟩ = some (.int .u32 seq) := cell_of_row wd _ 10 _ _ _ hA
  have m11 : wd.cell? ⟨w.heap.size, 11, none⟩ = some (.int .u8 ckind) := cell_of_row wd _ 11 _ _ _ hA
  have m12 : wd.cell? ⟨w.heap.size, 12, none⟩ = some (.string key) := cell_of_row wd _ 12 _ _ _ hA
  have m13 : wd.cell? ⟨w.heap.size, 13, none⟩ = some (.string old) := cell_of_row wd _ 13 _ _ _ hA
  have m14 : wd.cell? ⟨w.heap.size, 14, none⟩ = some (.string new) := cell_of_row wd _ 14 _ _ _ hA
  have m15 : wd.cell? ⟨w.heap.size, 15, none⟩ = some (.int .u8 set) := cell_of_row wd _ 15 _ _ _ hA
  have m16 : wd.cell? ⟨w.heap.size, 16, none⟩ = some (.int .u8 code) := cell_of_row wd _ 16 _ _ _ hA
  have m17 : wd.cell? ⟨w.heap.size, 17, none⟩ = some (.string text) := cell_of_row wd _ 17 _ _ _ hA
  have n0 : wd.cell? ⟨w.heap.size + 1, 0, none⟩ = some (.int .u8 kind) := cell_of_row wd _ 0 _ _ _ hB
  have n1 : wd.cell? ⟨w.heap.size + 1, 1, none⟩ = some (.int .u64 bn) := cell_of_row wd _ 1 _ _ _ hB
  have n2 : wd.cell? ⟨w.heap.size + 1, 2, none⟩ = some (.int .u8 br) := cell_of_row wd _ 2 _ _ _ hB
  have n3 : wd.cell? ⟨w.heap.size + 1, 3, none⟩ = some (.int .u64 base) := cell_of_row wd _ 3 _ _ _ hB
  have n4 : wd.cell? ⟨w.heap.size + 1, 4, none⟩ = some (.int .u64 slot) := cell_of_row wd _ 4 _ _ _ hB
  have n5 : wd.cell? ⟨w.heap.size + 1, 5, none⟩ = some (.int .u8 node) := cell_of_row wd _ 5 _ _ _ hB
  have n6 : wd.cell? ⟨w.heap.size + 1, 6, none⟩ = some (.string value) := cell_of_row wd _ 6 _ _ _ hB
  have n7 : wd.cell? ⟨w.heap.size + 1, 7, none⟩ = some (.slice none 0 0) := cell_of_row wd _ 7 _ _ _ hB
  have n8 : wd.cell? ⟨w.heap.size + 1, 8, none⟩ = some (.slice none 0 0) := cell_of_row wd _ 8 _ _ _ hB
  have n9 : wd.cell? ⟨w.heap.size + 1, 9, none⟩ = some (.int .u8 client) := cell_of_row wd _ 9 _ _ _ hB
  have n10 : wd.cell? ⟨w.heap.size + 1, 10, none⟩ = some (.int .u32 seq) := cell_of_row wd _ 10 _ _ _ hB
  have n11 : wd.cell? ⟨w.heap.size + 1, 11, none⟩ = some (.int .u8 ckind) := cell_of_row wd _ 11 _ _ _ hB
  have n12 : wd.cell? ⟨w.heap.size + 1, 12, none⟩ = some (.string key) := cell_of_row wd _ 12 _ _ _ hB
  have n13 : wd.cell? ⟨w.heap.size + 1, 13, none⟩ = some (.string old) := cell_of_row wd _ 13 _ _ _ hB
  have n14 : wd.cell? ⟨w.heap.size + 1, 14, none⟩ = some (.string new) := cell_of_row wd _ 14 _ _ _ hB
  have n15 : wd.cell? ⟨w.heap.size + 1, 15, none⟩ = some (.int .u8 set) := cell_of_row wd _ 15 _ _ _ hB
  have n16 : wd.cell? ⟨w.heap.size + 1, 16, none⟩ = some (.int .u8 code) := cell_of_row wd _ 16 _ _ _ hB
  have n17 : wd.cell? ⟨w.heap.size + 1, 17, none⟩ = some (.string text) := cell_of_row wd _ 17 _ _ _ hB
  have g39 := guard_ballot
  have g36 := guard_cmd
  have g43 := guard_reply
  have e39 := eq_ballot bn br
  have e36 := eq_cmd_self client seq ckind key old new set
  have e43 := eq_reply_self code text
  have Hb := Lib.hid hb
  clear hA hB hb
  go_wp2_with fail
  go_loopg [5] 0 (fun m s5 wr => s5 = .int .i64 0 ∧ wr = wd)
  case atStart => exact ⟨rfl, rfl⟩
  case round =>
    obtain ⟨rfl, rfl⟩ := hrel
    go_wp2_with fail
    go_loopg [6] 0 (fun m s6 wx => s6 = .int .i64 0 ∧ wx = wr)
    case atStart => exact ⟨rfl, rfl⟩
    case round =>
      obtain ⟨rfl, rfl⟩ := hrel
      go_wp2_with fail
      go_ret
      exact ⟨rfl, Hb.out⟩

/-- A struct that lies somewhere, cell by cell, is loaded whole: an operation under a guard that says yes. -/
theorem wpList_load_cells_want {P : Program} {ops : Array Oper} {rest : List Oper} {o : Oper} {a : Act} {w : World} {Q : Exit → Act → World → Prop} (hgd : Region.wanted o (yielded ops a.tmps) = true) (ty : TypeId) (x : Operand) (ho : o.op = .load ty x)
    (ad : Addr) (hx : a.eval x = .pointer (some ad)) (ds : Array Value) (d : TypeDesc) (hc : ∀ j v, ds[j]? = some v → w.cell? (ad.add j) = some v)
    (hu : P.underlying ty = some d) (hd : (match d with | .struct _ | .array _ _ => true | _ => false) = true) (hi : (P.info? ty).map (·.size) = some ds.size)
    (h : wpList P ops Q rest (a.put o.dst (.agg ds)) w) : wpList P ops Q (o :: rest) a w := by
  refine wpList_want hgd fun K hK => ?_
  unfold Oper.wp execOp
  simp only [ho, hx, Instr.loadAt, Instr.sureAddr, Sem.run_bind, Sem.run_pure, Result.andThen_ok, run_loadVar_cells w ad ty ds d hc hu hd hi]
  exact hK _ _ h

set_option maxRecDepth 100000 in
set_option maxHeartbeats 3200000 in
theorem same_any (l : Letter) (w : World) (hv : l.votes = .slice none 0 0) (hi : l.items = .slice none 0 0) : Calls Try.prog 19 #[.agg l.cells, .agg l.cells] w fun r w' => r = .returned (.bool true) ∧ Below w.heap.size w w' := by
  have Hv := Lib.hid hv
  have Hi := Lib.hid hi
  clear hv hi
  go_enter Try.func19, Try.ntmps19
  go_upto_region 1 with fail
  refine code_from (fun wd => Letter.In wd w.heap.size l ∧ Letter.In wd (w.heap.size + 1) l ∧ Below w.heap.size w wd) ⟨heap_alloc2_old w _ _, heap_alloc2_new w _ _, below_two w _ _⟩ ?_
  rintro wd ⟨hA, hB, hb⟩
  have m0 : wd.cell? ⟨w.heap.size, 0, none⟩ = some (.int .u8 l.src) := cell_of_row wd _ 0 _ _ _ hA
  have m1 : wd.cell? ⟨w.heap.size, 1, none⟩ = some (.int .u8 l.dst) := cell_of_row wd _ 1 _ _ _ hA
  have n0 : wd.cell? ⟨w.heap.size + 1, 0, none⟩ = some (.int .u8 l.src) := cell_of_row wd _ 0 _ _ _ hB
  have n1 : wd.cell? ⟨w.heap.size + 1, 1, none⟩ = some (.int .u8 l.dst) := cell_of_row wd _ 1 _ _ _ hB
  have HA := Lib.hid hA
  have HB := Lib.hid hB
  have Hb := Lib.hid hb
  clear hA hB hb
  go_wp2_with (first
    | (refine wpList_load_cells_want (P := Try.prog) (by rfl) 45 _ rfl ⟨w.heap.size, 2, none⟩ rfl l.msg _ (cells_part HA.out _ (msg_part l)) Try.underlying45 rfl (size_msg l) ?_)
    | (refine wpList_load_cells_want (P := Try.prog) (by rfl) 45 _ rfl ⟨w.heap.size + 1, 2, none⟩ rfl l.msg _ (cells_part HB.out _ (msg_part l)) Try.underlying45 rfl (size_msg l) ?_))
  refine (refSame_any l _ Hv.out Hi.out).mono ?_
  rintro e w2 ⟨rfl, hb2⟩
  go_wp2_with fail
  go_ret
  exact ⟨rfl, Hb.out.trans (hb2.mono Hb.out.size)⟩
end Go.Proofs.Ytakpkedioehjbaa
