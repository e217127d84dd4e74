/-
  THE WALK of the reference's May of a command.
-/
import Derived.Test.YtakpkedioehjbaaRefA
namespace Go.Proofs.Ytakpkedioehjbaa
open Go.RowKit Go.Maps Go.BigFrame

set_option maxRecDepth 100000 in
set_option maxHeartbeats 1600000 in
theorem refMay09 (c : Cmd) (w : World) (hq0 : 0 ≤ c.seq) : Calls Try.prog 27 #[.agg c.cells] w fun r w' => r = .returned (.bool c.mayB) ∧ Below w.heap.size w w' := by
  obtain ⟨client, seq, kind, key, old, new, set⟩ := c
  go_enter Try.func27, Try.ntmps27
  go_upto_region 1 with fail
  refine code_from (fun wc => Cmd.In wc w.heap.size ⟨client, seq, kind, key, old, new, set⟩ ∧ Below w.heap.size w wc) ⟨heap_alloc_new w _, (Below.refl _ _).alloc (Nat.le_refl _) _⟩ ?_
  rintro wc ⟨hC, hbel⟩
  have d0 : wc.cell? ⟨w.heap.size, 0, none⟩ = some (.int .u8 client) := cell_of_row wc _ 0 _ _ _ hC
  have d1 : wc.cell? ⟨w.heap.size, 1, none⟩ = some (.int .u32 seq) := cell_of_row wc _ 1 _ _ _ hC
  have d2 : wc.cell? ⟨w.heap.size, 2, none⟩ = some (.int .u8 kind) := cell_of_row wc _ 2 _ _ _ hC
  have d3 : wc.cell? ⟨w.heap.size, 3, none⟩ = some (.string key) := cell_of_row wc _ 3 _ _ _ hC
  have d4 : wc.cell? ⟨w.heap.size, 4, none⟩ = some (.string old) := cell_of_row wc _ 4 _ _ _ hC
  have d5 : wc.cell? ⟨w.heap.size, 5, none⟩ = some (.string new) := cell_of_row wc _ 5 _ _ _ hC
  have d6 : wc.cell? ⟨w.heap.size, 6, none⟩ = some (.int .u8 set) := cell_of_row wc _ 6 _ _ _ hC
  clear hC
  have Hb := Lib.hid hbel
  clear hbel
  have bit : bits .and .i64 1 1 = 1 ∧ bits .and .i64 1 2 = 0 ∧ bits .and .i64 1 4 = 0 ∧ bits .and .i64 1 8 = 0 ∧ bits .and .i64 5 1 = 1 ∧ bits .and .i64 5 2 = 0 ∧ bits .and .i64 5 4 = 4 ∧ bits .and .i64 5 8 = 0 ∧
      bits .and .i64 7 1 = 1 ∧ bits .and .i64 7 2 = 2 ∧ bits .and .i64 7 4 = 4 ∧ bits .and .i64 7 8 = 0 ∧ bits .and .i64 8 1 = 0 ∧ bits .and .i64 8 2 = 0 ∧ bits .and .i64 8 4 = 0 ∧ bits .and .i64 8 8 = 8 := by
    refine ⟨?_, ?_, ?_, ?_, ?_, ?_, ?_, ?_, ?_, ?_, ?_, ?_, ?_, ?_, ?_, ?_⟩ <;> kernel_rfl
  have Hbit := Lib.hid bit
  clear bit
  by_cases b1 : 3 < client
  · go_wp2_with fail
    go_ret
    exact ⟨ret_bool (by simp [Cmd.mayB, show 4 ≤ client by omega]), Hb.out⟩
  by_cases b2 : seq < 1
  · go_wp2_with fail
    go_ret
    exact ⟨ret_bool (by rw [show seq = 0 by have := hq0; omega]; simp [Cmd.mayB]), Hb.out⟩
  by_cases b3 : 16 < (key.size : Int)
  · go_wp2_with fail
    go_ret
    exact ⟨ret_bool (by simp [Cmd.mayB, long, b3]), Hb.out⟩
  by_cases b4 : 64 < (old.size : Int)
  · go_wp2_with fail
    go_ret
    exact ⟨ret_bool (by simp [Cmd.mayB, long, b4]), Hb.out⟩
  by_cases b5 : 64 < (new.size : Int)
  · go_wp2_with fail
    go_ret
    exact ⟨ret_bool (by simp [Cmd.mayB, long, b5]), Hb.out⟩
  have b1' : ¬ 4 ≤ client := by omega
  have b2' : ¬ seq = 0 := by omega
  have HB1 := Lib.hid b1'
  have HB2 := Lib.hid b2'
  clear b1' b2'
  by_cases k1 : kind = 1
  · subst k1
    go_wp2_with fail
    all_goals
      go_ret
      have h1 := HB1.out
      have h2 := HB2.out
      exact ⟨ret_bool (by (simp_all [Cmd.mayB, long, parts, Hbit.out]) <;> (rw [decide_eq_false (show ¬ 4 ≤ client by omega), show (seq == 0) = false from by rw [beq_eq_false_iff_ne]; omega, decide_eq_false (show ¬ (16 : Int) < key.size by omega), decide_eq_false (show ¬ (64 : Int) < old.size by omega), decide_eq_false (show ¬ (64 : Int) < new.size by omega)]; simp [bne])), Hb.out⟩
  by_cases k3 : kind = 3
  · subst k3
    go_wp2_with fail
    all_goals
      go_ret
      have h1 := HB1.out
      have h2 := HB2.out
      exact ⟨ret_bool (by (simp_all [Cmd.mayB, long, parts, Hbit.out]) <;> (rw [decide_eq_false (show ¬ 4 ≤ client by omega), show (seq == 0) = false from by rw [beq_eq_false_iff_ne]; omega, decide_eq_false (show ¬ (16 : Int) < key.size by omega), decide_eq_false (show ¬ (64 : Int) < old.size by omega), decide_eq_false (show ¬ (64 : Int) < new.size by omega)]; simp [bne])), Hb.out⟩
  by_cases k2 : kind = 2
  · subst k2
    go_wp2_with fail
    all_goals
      go_ret
      have h1 := HB1.out
      have h2 := HB2.out
      exact ⟨ret_bool (by (simp_all [Cmd.mayB, long, parts, Hbit.out]) <;> (rw [decide_eq_false (show ¬ 4 ≤ client by omega), show (seq == 0) = false from by rw [beq_eq_false_iff_ne]; omega, decide_eq_false (show ¬ (16 : Int) < key.size by omega), decide_eq_false (show ¬ (64 : Int) < old.size by omega), decide_eq_false (show ¬ (64 : Int) < new.size by omega)]; simp [bne])), Hb.out⟩
  by_cases k4 : kind = 4
  · subst k4
    go_wp2_with fail
    all_goals
      go_ret
      have h1 := HB1.out
      have h2 := HB2.out
      exact ⟨ret_bool (by (simp_all [Cmd.mayB, long, parts, Hbit.out]) <;> (rw [decide_eq_false (show ¬ 4 ≤ client by omega), show (seq == 0) = false from by rw [beq_eq_false_iff_ne]; omega, decide_eq_false (show ¬ (16 : Int) < key.size by omega), decide_eq_false (show ¬ (64 : Int) < old.size by omega), decide_eq_false (show ¬ (64 : Int) < new.size by omega)]; simp [bne])), Hb.out⟩
  by_cases k5 : kind = 5
  · subst k5
    go_wp2_with fail
    all_goals
      go_ret
      have h1 := HB1.out
      have h2 := HB2.out
      exact ⟨ret_bool (by (simp_all [Cmd.mayB, long, parts, Hbit.out]) <;> (rw [decide_eq_false (show ¬ 4 ≤ client by omega), show (seq == 0) = false from by rw [beq_eq_false_iff_ne]; omega, decide_eq_false (show ¬ (16 : Int) < key.size by omega), decide_eq_false (show ¬ (64 : Int) < old.size by omega), decide_eq_false (show ¬ (64 : Int) < new.size by omega)]; simp [bne])), Hb.out⟩
  have t1 : (kind == 1) = false := by simpa using k1
  have t3 : (kind == 3) = false := by simpa using k3
  have t2 : (kind == 2) = false := by simpa using k2
  have t4 : (kind == 4) = false := by simpa using k4
  have t5 : (kind == 5) = false := by simpa using k5
  go_wp2_with fail
  go_ret
  exact ⟨ret_bool (by simp [Cmd.mayB, parts, k1, k2, k3, k4, k5]), Hb.out⟩
end Go.Proofs.Ytakpkedioehjbaa
