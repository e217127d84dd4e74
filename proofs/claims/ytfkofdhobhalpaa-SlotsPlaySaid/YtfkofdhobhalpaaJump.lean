/-
  THE WALKS of a row's Jump.
-/
import Derived.Test.YtfkofdhobhalpaaKeep
namespace Go.Proofs.Ytfkofdhobhalpaa
open Go.RowKit Go.Maps Go.BigFrame

section
variable {w : World} {g m : Nat} {base top : Int} {n : Nat} {M : Vals}
/-- What a Jump to a slot leaves. -/
def Jumped (g m : Nat) (n : Nat) (M : Vals) (w : World) (upto : Int) (k : Int) (w' : World) : Prop := k = 0 ∧ RowAt w' g m upto upto n (M.drop upto) ∧ Only w w' g m

set_option maxRecDepth 100000 in
set_option maxHeartbeats 1600000 in
theorem jump1_any (upto : Int) (bs br : Nat) (h : RowAt w g m base top n M) (hs : w.heap[bs]? = some (.cells #[.int .u64 upto] 29 (0, 0))) (hr : w.heap[br]? = some (.cells #[.pointer (some ⟨g, 0, none⟩)] 25 (0, 0))) (hbs : bs ≠ g) (hbr : br ≠ g) :
    Calls Try.prog 32 #[.pointer (some ⟨bs, 0, none⟩), .pointer (some ⟨br, 0, none⟩)] w (Gives (Jumped g m n M w upto)) := by
  have c1 := h.cell1
  have f1 := h.free 1
  have s0 : w.cell? ⟨bs, 0, none⟩ = some (.int .u64 upto) := cell_of_row _ _ 0 _ _ _ hs
  have r0 : w.cell? ⟨br, 0, none⟩ = some (.pointer (some ⟨g, 0, none⟩)) := cell_of_row _ _ 0 _ _ _ hr
  go_enter Try.func32, Try.ntmps32
  go_upto_region 2 with fail
  refine code_from (fun wd => wd.cell? ⟨br, 0, none⟩ = some (.pointer (some ⟨g, 0, none⟩)) ∧ wd.cell? ⟨bs, 0, none⟩ = some (.int .u64 upto) ∧ RowAt wd g m base upto n M ∧ Only w wd g m)
    ⟨cell_of_row _ _ 0 _ _ _ ((Below.heap_setCell _ _ _ _ hbr).trans hr), cell_of_row _ _ 0 _ _ _ ((Below.heap_setCell _ _ _ _ hbs).trans hs), h.setTop upto, only_set (Only.refl _ _ _) _⟩ ?_
  clear h c1 f1 s0 r0 hs hr
  rintro wd ⟨r0, s0, hr, ho⟩
  go_wp2_with fail
  refine (drop_any g m base upto n M upto _ hr).mono ?_
  rintro e w2 ⟨rfl, hr2, ho2⟩
  go_wp2_with fail
  go_ret
  exact ⟨0, rfl, rfl, hr2, ho.trans ho2⟩

/-- What Jump answers and leaves. -/
def JumpGoes (g m : Nat) (base top : Int) (n : Nat) (M : Vals) (w : World) (upto : Int) (k : Int) (w' : World) : Prop :=
  (¬ (upto ≤ 4611686018427387904 ∧ top ≤ upto) → k = 2 ∧ RowAt w' g m base top n M) ∧
  (upto ≤ 4611686018427387904 → top ≤ upto → k = 0 ∧ RowAt w' g m upto upto n (M.drop upto)) ∧ Only w w' g m

theorem eg_jump : ∀ args w, (callFunc 32 args).run Try.prog w = .ok (.enter 32 args) w := enters_of Try.func32 (by kernel_rfl) rfl

set_option maxRecDepth 100000 in
set_option maxHeartbeats 1600000 in
theorem jump_any (upto : Int) (h : RowAt w g m base top n M) :
    Calls Try.prog 18 #[.pointer (some ⟨g, 0, none⟩), .int .u64 upto] w (Gives (JumpGoes g m base top n M w upto)) := by
  have hlt := h.lt
  have hmt := h.mlt
  go_enter Try.func18, Try.ntmps18
  go_upto_region 1 with fail
  refine code_from (fun wd => wd.heap[w.heap.size]? = some (.cells #[.pointer (some ⟨g, 0, none⟩)] 25 (0, 0)) ∧ wd.heap[w.heap.size + 1]? = some (.cells #[.int .u64 upto] 29 (0, 0)) ∧ RowAt wd g m base top n M ∧ Only w wd g m)
    ⟨heap_alloc2_old w _ _, heap_alloc2_new w _ _, (h.alloc _).alloc _, only_alloc (only_alloc (Only.refl _ _ _) _) _⟩ ?_
  rintro wd ⟨hpb, hsb, hr, ho⟩
  have hp : wd.cell? ⟨w.heap.size, 0, none⟩ = some (.pointer (some ⟨g, 0, none⟩)) := cell_of_row _ _ 0 _ _ _ hpb
  have hs : wd.cell? ⟨w.heap.size + 1, 0, none⟩ = some (.int .u64 upto) := cell_of_row _ _ 0 _ _ _ hsb
  have Hr := Lib.hid hr
  have Ho := Lib.hid ho
  clear h hr ho
  by_cases hab : upto < top
  · have t0 : decide (upto < top) = true := by simpa using hab
    refine mix_begin (by kernel_rfl) ?_
    refine mix_piece 0 7 (fun w' => ∃ n, w' = wd.drewN n) (by kernel_rfl) ⟨1, rfl⟩ ?_
    simp only [Nat.reduceSub, List.take_succ_cons, List.take_zero, List.drop_zero]
    repeat (go_big_quiet_step ((go_at_call 14; exact quiet_left (top_any (Hr.out.drew _)))))
    refine wpQuiet_nil ?_
    rintro _ ⟨nq, rfl⟩
    refine mix_forced 7 rfl (by kernel_rfl) (by kernel_rfl) (fun K hK => ?_)
    go_simp
    refine (with_bad ⟨g, 0, none⟩ upto _ _).mono ?_
    rintro e w1 ⟨rfl, rfl⟩
    refine hK _ _ ?_
    clear hK K
    refine mix_piece 8 9 (fun w' => w' = wd.drewN nq) (by kernel_rfl) rfl ?_
    simp only [Nat.reduceSub, List.take_succ_cons, List.take_zero, List.drop_succ_cons, List.drop_zero]
    repeat (go_big_quiet_step (fail))
    refine wpQuiet_nil ?_
    rintro _ rfl
    refine mix_end 9 rfl (by kernel_rfl) ?_
    go_wp2_with fail
    go_ret
    exact ⟨2, rfl, fun _ => ⟨rfl, Hr.out.drew _⟩, fun _ h => absurd h (by omega), only_drewN Ho.out _⟩
  · have t0 : decide (upto < top) = false := by simpa using hab
    refine mix_begin (by kernel_rfl) ?_
    refine mix_piece 0 7 (fun w' => ∃ n, w' = wd.drewN n) (by kernel_rfl) ⟨1, rfl⟩ ?_
    simp only [Nat.reduceSub, List.take_succ_cons, List.take_zero, List.drop_zero]
    repeat (go_big_quiet_step ((go_at_call 14; exact quiet_left (top_any (Hr.out.drew _)))))
    refine wpQuiet_nil ?_
    rintro _ ⟨nq, rfl⟩
    by_cases hfar : upto ≤ 4611686018427387904
    · refine mix_forced 7 rfl (by kernel_rfl) (by kernel_rfl) (fun K hK => ?_)
      go_simp
      refine (with_run ⟨g, 0, none⟩ upto _ _ _ _ hfar eg_jump (jump1_any upto (w.heap.size + 1) w.heap.size (Hr.out.drew nq) hsb hpb (by omega) (by omega))).mono ?_
      rintro e w1 ⟨k, rfl, rfl, hy, ho⟩
      refine hK _ _ ?_
      clear hK K
      have Hy := Lib.hid hy
      have Ho1 := Lib.hid ho
      clear hy ho
      refine mix_piece 8 9 (fun w' => w' = w1) (by kernel_rfl) rfl ?_
      simp only [Nat.reduceSub, List.take_succ_cons, List.take_zero, List.drop_succ_cons, List.drop_zero]
      repeat (go_big_quiet_step (fail))
      refine wpQuiet_nil ?_
      rintro _ rfl
      refine mix_end 9 rfl (by kernel_rfl) ?_
      go_wp2_with fail
      go_ret
      exact ⟨0, rfl, fun h => absurd ⟨hfar, by omega⟩ h, fun _ _ => ⟨rfl, Hy.out⟩, (only_drewN Ho.out nq).trans Ho1.out⟩
    · refine mix_forced 7 rfl (by kernel_rfl) (by kernel_rfl) (fun K hK => ?_)
      go_simp
      refine (with_far ⟨g, 0, none⟩ upto _ _ _ (by omega)).mono ?_
      rintro e w1 ⟨rfl, rfl⟩
      refine hK _ _ ?_
      clear hK K
      refine mix_piece 8 9 (fun w' => w' = wd.drewN nq) (by kernel_rfl) rfl ?_
      simp only [Nat.reduceSub, List.take_succ_cons, List.take_zero, List.drop_succ_cons, List.drop_zero]
      repeat (go_big_quiet_step (fail))
      refine wpQuiet_nil ?_
      rintro _ rfl
      refine mix_end 9 rfl (by kernel_rfl) ?_
      go_wp2_with fail
      go_ret
      exact ⟨2, rfl, fun _ => ⟨rfl, Hr.out.drew _⟩, fun h => absurd h (by omega), only_drewN Ho.out _⟩
end
end Go.Proofs.Ytfkofdhobhalpaa
