/-
  THE WALKS of a row's drop, with, Keep, Jump.
-/
import Derived.Test.YtfkofdhobhalpaaDrop
import Derived.Test.YtfkofdhobhalpaaMix
import Derived.Shelf.Abstract
namespace Go.Proofs.Ytfkofdhobhalpaa
open Go.RowKit Go.Maps Go.BigFrame

theorem new_set (w : World) (p : Addr) (v : Value) (o : Obj) : ((w.setCell p v).alloc o).heap[w.heap.size]? = some o := by
  have h := heap_alloc_new (w.setCell p v) o
  rw [show (w.setCell p v).heap.size = w.heap.size by simp [World.setCell]] at h
  exact h
set_option maxRecDepth 100000 in
set_option maxHeartbeats 1600000 in
theorem drop_any (g m : Nat) (base top : Int) (n : Nat) (M : Vals) (upto : Int) (w : World) (h : RowAt w g m base top n M) :
    Calls Try.prog 29 #[.pointer (some ⟨g, 0, none⟩), .int .u64 upto] w fun r w' => r = .returned (.tuple #[]) ∧ RowAt w' g m upto top n (M.drop upto) ∧ Only w w' g m := by
  have hlt := h.lt
  have hmt := h.mlt
  have c0 := (h.alloc (.cells #[.int .u64 upto] 29 (0, 0))).cell0
  have f0 := (h.alloc (.cells #[.int .u64 upto] 29 (0, 0))).free 0
  go_enter Try.func29, Try.ntmps29
  go_upto_region 3 with fail
  refine code_from (fun wd => wd.heap[w.heap.size]? = some (.cells #[.int .u64 upto] 29 (0, 0)) ∧ RowAt wd g m upto top n M ∧ Only w wd g m)
    ⟨new_set w _ _ _, (h.setBase upto).alloc _, only_alloc (only_set (Only.refl _ _ _) _) _⟩ ?_
  clear h c0 f0
  rintro wd ⟨hB, hr, ho⟩
  have c2 := hr.cell2
  have hx : wd.cell? ⟨w.heap.size, 0, none⟩ = some (.int .u64 upto) := cell_of_row wd _ 0 _ _ _ hB
  obtain ⟨D, hD, hM⟩ := hr.map
  have hc := deleteFunc_any m n D upto w.heap.size wd hD hx (by omega)
  have Hc := Lib.hid hc
  have HM := Lib.hid (holds_drop hD.isMap hM upto)
  clear hc hM hD
  go_wp2_with fail
  refine Hc.out.mono ?_
  rintro e w2 ⟨rfl, ho2, hg2⟩
  have hne := hr.ne
  have hr2 : RowAt w2 g m upto top n (M.drop upto) := ⟨(hg2.block g hr.lt (by intro e; injection e with e; exact hne e.symm)).trans hr.row, ⟨_, ho2, HM.out⟩, hne⟩
  have ho3 := ho.trans (only_grown hg2)
  clear hr ho hB c2 hx ho2 hg2 HM Hc
  go_wp2_with fail
  go_end0
  exact ⟨rfl, hr2, ho3⟩

/-- It hands back a number. -/
def Gives (Q : Int → World → Prop) (r : Ending) (w' : World) : Prop := ∃ k, r = .returned (.int .i64 k) ∧ Q k w'

set_option maxRecDepth 100000 in
set_option maxHeartbeats 400000 in
theorem with_nil (slot : Int) (b : Bool) (f : Value) (w : World) : Calls Try.prog 27 #[.pointer none, .int .u64 slot, .bool b, f] w fun r w' => r = .returned (.int .i64 1) ∧ w = w' := by
  go_enter Try.func27, Try.ntmps27
  go_wp2_with fail
  go_ret
  exact ⟨rfl, rfl⟩
set_option maxRecDepth 100000 in
set_option maxHeartbeats 400000 in
theorem with_far (p : Addr) (slot : Int) (b : Bool) (f : Value) (w : World) (hs : 4611686018427387904 < slot) : Calls Try.prog 27 #[.pointer (some p), .int .u64 slot, .bool b, f] w fun r w' => r = .returned (.int .i64 2) ∧ w = w' := by
  go_enter Try.func27, Try.ntmps27
  go_wp2_with fail
  go_ret
  exact ⟨rfl, rfl⟩
set_option maxRecDepth 100000 in
set_option maxHeartbeats 400000 in
theorem with_bad (p : Addr) (slot : Int) (f : Value) (w : World) : Calls Try.prog 27 #[.pointer (some p), .int .u64 slot, .bool true, f] w fun r w' => r = .returned (.int .i64 2) ∧ w = w' := by
  by_cases hs : 4611686018427387904 < slot
  · exact with_far p slot true f w hs
  · go_enter Try.func27, Try.ntmps27
    go_wp2_with fail
    go_ret
    exact ⟨rfl, rfl⟩
set_option maxRecDepth 100000 in
set_option maxHeartbeats 400000 in
theorem with_run (p : Addr) (slot : Int) (f : Nat) (cb : Array Value) (w : World) (Q : Int → World → Prop) (hs : slot ≤ 4611686018427387904) (eg : ∀ args w, (callFunc f args).run Try.prog w = .ok (.enter f args) w)
    (h : Calls Try.prog f cb w (Gives Q)) : Calls Try.prog 27 #[.pointer (some p), .int .u64 slot, .bool false, .func (.func f) #[] cb] w (Gives Q) := by
  have H := Lib.hid h
  clear h
  go_enter Try.func27, Try.ntmps27
  go_wp2_with fail
  refine H.out.mono ?_
  rintro e w1 ⟨k, rfl, hQ⟩
  have HQ := Lib.hid hQ
  clear hQ
  go_wp2_with fail
  go_ret
  exact ⟨k, rfl, HQ.out⟩

section
variable {w : World} {g m : Nat} {base top : Int} {n : Nat} {M : Vals}
/-- What a Keep of a slot leaves. -/
def Kept (g m : Nat) (base top : Int) (n : Nat) (M : Vals) (w : World) (above : Int) (k : Int) (w' : World) : Prop :=
  k = 0 ∧ (base < above → RowAt w' g m above top n (M.drop above)) ∧ (above ≤ base → RowAt w' g m base top n M) ∧ Only w w' g m

set_option maxRecDepth 100000 in
set_option maxHeartbeats 1600000 in
theorem keep1_any (above : Int) (bs br : Nat) (h : RowAt w g m base top n M) (hs : w.cell? ⟨bs, 0, none⟩ = some (.int .u64 above)) (hr : w.cell? ⟨br, 0, none⟩ = some (.pointer (some ⟨g, 0, none⟩))) :
    Calls Try.prog 28 #[.pointer (some ⟨bs, 0, none⟩), .pointer (some ⟨br, 0, none⟩)] w (Gives (Kept g m base top n M w above)) := by
  have c0 := h.cell0
  have Hh := Lib.hid h
  clear h
  by_cases hab : base < above
  · have t0 : decide (base < above) = true := by simpa using hab
    have Hab := Lib.hid hab
    clear hab
    go_enter Try.func28, Try.ntmps28
    go_upto_region 1 with fail
    go_quiet (fail)
    go_wp2_with fail
    refine (drop_any g m base top n M above _ (Hh.out.drew _)).mono ?_
    rintro e w2 ⟨rfl, hr2, ho2⟩
    go_wp2_with fail
    go_ret
    exact ⟨0, rfl, rfl, fun _ => hr2, fun hn => absurd Hab.out (by omega), (only_drewN (Only.refl w g m) _).trans ho2⟩
  · have t0 : decide (base < above) = false := by simpa using hab
    have Hab := Lib.hid hab
    clear hab
    go_enter Try.func28, Try.ntmps28
    go_upto_region 1 with fail
    go_quiet (fail)
    go_wp2_with fail
    go_ret
    exact ⟨0, rfl, rfl, fun hn => absurd Hab.out (by omega), fun _ => Hh.out.drew _, only_drewN (Only.refl w g m) _⟩

/-- What Keep answers and leaves. -/
def KeepGoes (g m : Nat) (base top : Int) (n : Nat) (M : Vals) (w : World) (above : Int) (k : Int) (w' : World) : Prop :=
  (¬ (above ≤ 4611686018427387904 ∧ above ≤ top) → k = 2 ∧ RowAt w' g m base top n M) ∧
  (above ≤ 4611686018427387904 → above ≤ top → k = 0 ∧ (base < above → RowAt w' g m above top n (M.drop above)) ∧ (above ≤ base → RowAt w' g m base top n M)) ∧ Only w w' g m

theorem eg_keep : ∀ args w, (callFunc 28 args).run Try.prog w = .ok (.enter 28 args) w := enters_of Try.func28 (by kernel_rfl) rfl

set_option maxRecDepth 100000 in
set_option maxHeartbeats 1600000 in
theorem keep_any (above : Int) (h : RowAt w g m base top n M) :
    Calls Try.prog 11 #[.pointer (some ⟨g, 0, none⟩), .int .u64 above] w (Gives (KeepGoes g m base top n M w above)) := by
  have hlt := h.lt
  have hmt := h.mlt
  go_enter Try.func11, Try.ntmps11
  go_upto_region 1 with fail
  refine code_from (fun wd => wd.cell? ⟨w.heap.size, 0, none⟩ = some (.pointer (some ⟨g, 0, none⟩)) ∧ wd.cell? ⟨w.heap.size + 1, 0, none⟩ = some (.int .u64 above) ∧ RowAt wd g m base top n M ∧ Only w wd g m)
    ⟨cell_of_row _ _ 0 _ _ _ (heap_alloc2_old w _ _), cell_of_row _ _ 0 _ _ _ (heap_alloc2_new w _ _), (h.alloc _).alloc _, only_alloc (only_alloc (Only.refl _ _ _) _) _⟩ ?_
  rintro wd ⟨hp, hs, hr, ho⟩
  have Hr := Lib.hid hr
  have Ho := Lib.hid ho
  clear h hr ho
  by_cases hab : top < above
  · have t0 : decide (top < above) = true := by simpa using hab
    refine mix_begin (by kernel_rfl) ?_
    refine mix_piece 0 7 (fun w' => ∃ n, w' = wd.drewN n) (by kernel_rfl) ⟨1, rfl⟩ ?_
    simp only [Nat.reduceSub, List.take_succ_cons, List.take_zero, List.drop_zero]
    repeat (go_big_quiet_step ((go_at_call 14; exact quiet_left (top_any (Hr.out.drew _)))))
    refine wpQuiet_nil ?_
    rintro _ ⟨nq, rfl⟩
    refine mix_forced 7 rfl (by kernel_rfl) (by kernel_rfl) (fun K hK => ?_)
    go_simp
    refine (with_bad ⟨g, 0, none⟩ above _ _).mono ?_
    rintro e w1 ⟨rfl, rfl⟩
    refine hK _ _ ?_
    clear hK K
    refine mix_piece 8 9 (fun w' => w' = wd.drewN nq) (by kernel_rfl) rfl ?_
    simp only [Nat.reduceSub, List.take_succ_cons, List.take_zero, List.drop_succ_cons, List.drop_zero]
    repeat (go_big_quiet_step (fail))
    refine wpQuiet_nil ?_
    rintro _ rfl
    refine mix_end 9 rfl (by kernel_rfl) ?_
    go_wp2_with fail
    go_ret
    exact ⟨2, rfl, fun _ => ⟨rfl, Hr.out.drew _⟩, fun _ h => absurd h (by omega), only_drewN Ho.out _⟩
  · have t0 : decide (top < above) = false := by simpa using hab
    refine mix_begin (by kernel_rfl) ?_
    refine mix_piece 0 7 (fun w' => ∃ n, w' = wd.drewN n) (by kernel_rfl) ⟨1, rfl⟩ ?_
    simp only [Nat.reduceSub, List.take_succ_cons, List.take_zero, List.drop_zero]
    repeat (go_big_quiet_step ((go_at_call 14; exact quiet_left (top_any (Hr.out.drew _)))))
    refine wpQuiet_nil ?_
    rintro _ ⟨nq, rfl⟩
    by_cases hfar : above ≤ 4611686018427387904
    · refine mix_forced 7 rfl (by kernel_rfl) (by kernel_rfl) (fun K hK => ?_)
      go_simp
      refine (with_run ⟨g, 0, none⟩ above _ _ _ _ hfar eg_keep (keep1_any above (w.heap.size + 1) w.heap.size (Hr.out.drew nq) hs hp)).mono ?_
      rintro e w1 ⟨k, rfl, rfl, hy, hn, ho⟩
      refine hK _ _ ?_
      clear hK K
      have Hy := Lib.hid hy
      have Hn := Lib.hid hn
      have Ho1 := Lib.hid ho
      clear hy hn ho
      refine mix_piece 8 9 (fun w' => w' = w1) (by kernel_rfl) rfl ?_
      simp only [Nat.reduceSub, List.take_succ_cons, List.take_zero, List.drop_succ_cons, List.drop_zero]
      repeat (go_big_quiet_step (fail))
      refine wpQuiet_nil ?_
      rintro _ rfl
      refine mix_end 9 rfl (by kernel_rfl) ?_
      go_wp2_with fail
      go_ret
      exact ⟨0, rfl, fun h => absurd ⟨hfar, by omega⟩ h, fun _ _ => ⟨rfl, Hy.out, Hn.out⟩, (only_drewN Ho.out nq).trans Ho1.out⟩
    · refine mix_forced 7 rfl (by kernel_rfl) (by kernel_rfl) (fun K hK => ?_)
      go_simp
      refine (with_far ⟨g, 0, none⟩ above _ _ _ (by omega)).mono ?_
      rintro e w1 ⟨rfl, rfl⟩
      refine hK _ _ ?_
      clear hK K
      refine mix_piece 8 9 (fun w' => w' = wd.drewN nq) (by kernel_rfl) rfl ?_
      simp only [Nat.reduceSub, List.take_succ_cons, List.take_zero, List.drop_succ_cons, List.drop_zero]
      repeat (go_big_quiet_step (fail))
      refine wpQuiet_nil ?_
      rintro _ rfl
      refine mix_end 9 rfl (by kernel_rfl) ?_
      go_wp2_with fail
      go_ret
      exact ⟨2, rfl, fun _ => ⟨rfl, Hr.out.drew _⟩, fun h => absurd h (by omega), only_drewN Ho.out _⟩
end
end Go.Proofs.Ytfkofdhobhalpaa
