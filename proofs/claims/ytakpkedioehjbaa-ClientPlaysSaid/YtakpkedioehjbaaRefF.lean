/-
  THE WALK of the reference client's Nudge of a client that waits.
-/
import Derived.Test.YtakpkedioehjbaaRefE
namespace Go.Proofs.Ytakpkedioehjbaa
open Go.RowKit Go.Maps Go.BigFrame

theorem nudged_eq {s : St} (h : s.dst + 1 = s.n) : s.nudged = { s with dst := 0 } := by
  unfold St.nudged
  rw [h, Int.emod_self]
theorem nudged_lt {s : St} (h : ¬ s.dst + 1 = s.n) (hok : s.Ok) : s.nudged = { s with dst := s.dst + 1 } := by
  unfold St.nudged
  have h0 := hok.dst0
  have h1 := hok.dst1
  rw [Int.emod_eq_of_lt (by omega) (by omega)]

set_option maxRecDepth 100000 in
set_option maxHeartbeats 1600000 in
theorem refNudge_yes (s : St) (ad : Option Addr) (cap : Nat) (l : List Cmd) (w : World) (hw : s.waits = true) (hok : s.Ok) (hl : LiesC w ad l) (hn : l.length ≤ 1000) (hlast : lastC l = s.x) :
    Calls Try.prog 15 #[.agg (rcells s ad l.length cap)] w fun r w' => r = .returned (.tuple #[.agg (rcells s.nudged ad l.length cap), .agg s.nudged.asks.cells, .int .i64 0]) ∧ Below w.heap.size w w' := by
  have hok' := nudged_ok hok
  have hx' : lastC l = s.nudged.x := hlast
  have hd0 := hok.dst0
  have hd1 := hok.dst1
  have hn1 := hok.n1
  have hu : IntKind.u8.wrap (s.dst + 1) = s.dst + 1 := by rw [IntKind.wrap_u8']; omega
  have hc : IntKind.i64.wrap (s.dst + 1) = s.dst + 1 := by rw [IntKind.wrap_i64]; omega
  go_enter Try.func15, Try.ntmps15
  go_upto_region 1 with fail
  refine code_from (fun wd => RefIn wd w.heap.size s ad l.length cap ∧ RefIn wd (w.heap.size + 1) rzero none 0 0 ∧ Letter.In wd (w.heap.size + 2) Letter.zero ∧ Below w.heap.size w wd) ⟨heap_three_0 _ _ _ _, heap_three_1 _ _ _ _, heap_three_2 _ _ _ _, below_three w _ _ _⟩ ?_
  rintro wd ⟨hr, ho, hlt, hb⟩
  obtain ⟨c0, c1, c2, c3, c4⟩ := ref_reads hr
  rw [hw] at c3
  have f4 : wd.frozen? ⟨w.heap.size, 4, none⟩ = false := frozen_of_row wd w.heap.size 4 _ _ hr
  have HO := Lib.hid ho
  have HLt := Lib.hid hlt
  have Hb := Lib.hid hb
  have HR := Lib.hid hr
  have Hl := Lib.hid hl
  have Hok := Lib.hid hok
  have Hx := Lib.hid hx'
  clear hr ho hlt hb hl hok hlast hx'
  by_cases he : s.dst + 1 = s.n
  · have te : (s.dst + 1 == s.n) = true := by simpa using he
    have heq := nudged_eq he
    have Heq := Lib.hid heq
    clear he heq
    go_upto_region 6 with fail
    refine code_from (fun wx => RefIn wx w.heap.size s.nudged ad l.length cap ∧ RefIn wx (w.heap.size + 1) rzero none 0 0 ∧ Letter.In wx (w.heap.size + 2) Letter.zero ∧ Below w.heap.size w wx)
      ⟨by rw [Heq.out]; exact ref_set (ref_set (s' := { s with dst := s.dst + 1 }) HR.out rfl) rfl, (set_other _ _ _ _ _ (by omega)).trans ((set_other _ _ _ _ _ (by omega)).trans HO.out), letter_set (letter_set HLt.out (by omega)) (by omega), (Hb.out.setCell (Nat.le_refl _) _).setCell (Nat.le_refl _) _⟩ ?_
    clear te Heq c0 c1 c2 c3 c4 f4 HO HLt Hb HR hu hc
    clear wd
    rintro wx ⟨hr, ho, hlt, hb⟩
    have hlx := Hl.out.below hb
    generalize hss : s.nudged = s' at *
    have Hss := Lib.hid hss
    clear hss
    refine wp_region_held_drew (S := fun w' => RefIn w' w.heap.size s' ad l.length cap) (by kernel_rfl) hr (fun hS => ?_)
    refine wpAnyH_take (i := 0) (v := .agg (rcells s' ad l.length cap)) rfl (by kernel_rfl) (by kernel_rfl) (by kernel_rfl) (fun _ _ _ h => h) (yields_load rfl 32 _ rfl w.heap.size rfl 32 _ (0, 0) _ (fun _ h => h) Try.underlying32 rfl (size_ref _ _ _ _)) hS ?_
    simp only [Act.put, List.setIfInBounds_toArray, List.set_cons_zero, List.set_cons_succ]
    refine wpAnyH_take (i := 1) (v := .agg (rcells s' ad l.length cap)) rfl (by kernel_rfl) (by kernel_rfl) (by kernel_rfl) (fun _ _ _ h => h) (yields_load rfl 32 _ rfl w.heap.size rfl 32 _ (0, 0) _ (fun _ h => h) Try.underlying32 rfl (size_ref _ _ _ _)) hS ?_
    simp only [Act.put, List.setIfInBounds_toArray, List.set_cons_zero, List.set_cons_succ]
    refine wpAnyH_ready (rs := [2]) (by kernel_rfl) (by simp) ?_
    refine AllReadyH.cons rfl (fun K hK => ?_) AllReadyH.nil
    go_simp
    refine (refAsks_any s' ad cap l wx.drew (show LiesC wx.drew ad l from hlx) hn Hx.out hok').mono ?_
    rintro e w2 ⟨rfl, hb2⟩
    have ho2 : RefIn w2 (w.heap.size + 1) rzero none 0 0 := (hb2.block _ (block_lt ho)).trans ho
    have hl2 : Letter.In w2 (w.heap.size + 2) Letter.zero := (hb2.block _ (letter_lt hlt)).trans hlt
    have hr2 : RefIn w2 w.heap.size s' ad l.length cap := (hb2.block _ (block_lt hr)).trans hr
    have hbb : Below w.heap.size w w2 := (hb.drew).trans (hb2.mono hb.size)
    clear hr ho hlt hb hb2 hlx hS
    refine hK.out _ _ hr2 (fun hS => ?_)
    clear hK K
    refine wpAnyH_ready (rs := [3]) (by kernel_rfl) (by simp) ?_
    refine AllReadyH.cons rfl (fun K hK => ?_) AllReadyH.nil
    refine op_wanted rfl (wp_store_row 32 _ _ rfl (w.heap.size + 1) (rcells s' ad l.length cap) rfl rfl 32 _ ho2 (size_ref _ _ _ _) rfl (one_ref _ _ _ _) ?_)
    have ho3 := setRow_heap _ _ _ (rcells s' ad l.length cap) _ _ ho2
    have hl3 : Letter.In (w2.setRow (w.heap.size + 1) (rcells s' ad l.length cap)) (w.heap.size + 2) Letter.zero := (setRow_other _ _ _ _ (by omega)).trans hl2
    have hr3 : RefIn (w2.setRow (w.heap.size + 1) (rcells s' ad l.length cap)) w.heap.size s' ad l.length cap := (setRow_other _ _ _ _ (by omega)).trans hr2
    have hb3 := below_setRow hbb (show w.heap.size ≤ w.heap.size + 1 by omega) (rcells s' ad l.length cap)
    clear ho2 hl2 hr2 hbb hS
    refine hK.out _ _ hr3 (fun hS => ?_)
    clear hK K
    generalize w2.setRow (w.heap.size + 1) (rcells s' ad l.length cap) = w3 at ho3 hl3 hr3 hb3 hS
    refine wpAnyH_ready (rs := [4]) (by kernel_rfl) (by simp) ?_
    refine AllReadyH.cons rfl (fun K hK => ?_) AllReadyH.nil
    refine op_wanted rfl (wp_store_row 47 _ _ rfl (w.heap.size + 2) s'.asks.cells rfl rfl 47 _ hl3 (size_letter _) rfl (one_letter _ rfl rfl) ?_)
    have hl4 := setRow_heap _ _ _ s'.asks.cells _ _ hl3
    have ho4 : RefIn (w3.setRow (w.heap.size + 2) s'.asks.cells) (w.heap.size + 1) s' ad l.length cap := (setRow_other _ _ _ _ (by omega)).trans ho3
    have hr4 : RefIn (w3.setRow (w.heap.size + 2) s'.asks.cells) w.heap.size s' ad l.length cap := (setRow_other _ _ _ _ (by omega)).trans hr3
    have hb4 := below_setRow hb3 (show w.heap.size ≤ w.heap.size + 2 by omega) s'.asks.cells
    clear ho3 hl3 hr3 hb3 hS
    refine hK.out _ _ hr4 (fun hS => ?_)
    clear hK K
    generalize w3.setRow (w.heap.size + 2) s'.asks.cells = w4 at ho4 hl4 hr4 hb4 hS
    refine wpAnyH_ready (rs := [5]) (by kernel_rfl) (by simp) ?_
    refine AllReadyH.cons rfl (fun K hK => ?_) AllReadyH.nil
    go_simp
    refine hK.out _ _ hr4 (fun hS => ?_)
    clear hK K
    refine wpAnyH_done (by kernel_rfl) ?_ _
    go_wp2_with fail
    have hss := Hss.out
    subst hss
    exact ret_told s.nudged ad l.length cap s.nudged.asks (w.heap.size + 1) (w.heap.size + 2) rfl rfl rfl ho4 hl4 rfl ⟨rfl, hb4⟩
  · have te : (s.dst + 1 == s.n) = false := by simpa using he
    have heq := nudged_lt he Hok.out
    have Heq := Lib.hid heq
    clear he heq
    go_upto_region 6 with fail
    refine code_from (fun wx => RefIn wx w.heap.size s.nudged ad l.length cap ∧ RefIn wx (w.heap.size + 1) rzero none 0 0 ∧ Letter.In wx (w.heap.size + 2) Letter.zero ∧ Below w.heap.size w wx)
      ⟨by rw [Heq.out]; exact ref_set HR.out rfl, (set_other _ _ _ _ _ (by omega)).trans HO.out, letter_set HLt.out (by omega), Hb.out.setCell (Nat.le_refl _) _⟩ ?_
    clear te Heq c0 c1 c2 c3 c4 f4 HO HLt Hb HR hu hc
    clear wd
    rintro wx ⟨hr, ho, hlt, hb⟩
    have hlx := Hl.out.below hb
    generalize hss : s.nudged = s' at *
    have Hss := Lib.hid hss
    clear hss
    refine wp_region_held_drew (S := fun w' => RefIn w' w.heap.size s' ad l.length cap) (by kernel_rfl) hr (fun hS => ?_)
    refine wpAnyH_take (i := 0) (v := .agg (rcells s' ad l.length cap)) rfl (by kernel_rfl) (by kernel_rfl) (by kernel_rfl) (fun _ _ _ h => h) (yields_load rfl 32 _ rfl w.heap.size rfl 32 _ (0, 0) _ (fun _ h => h) Try.underlying32 rfl (size_ref _ _ _ _)) hS ?_
    simp only [Act.put, List.setIfInBounds_toArray, List.set_cons_zero, List.set_cons_succ]
    refine wpAnyH_take (i := 1) (v := .agg (rcells s' ad l.length cap)) rfl (by kernel_rfl) (by kernel_rfl) (by kernel_rfl) (fun _ _ _ h => h) (yields_load rfl 32 _ rfl w.heap.size rfl 32 _ (0, 0) _ (fun _ h => h) Try.underlying32 rfl (size_ref _ _ _ _)) hS ?_
    simp only [Act.put, List.setIfInBounds_toArray, List.set_cons_zero, List.set_cons_succ]
    refine wpAnyH_ready (rs := [2]) (by kernel_rfl) (by simp) ?_
    refine AllReadyH.cons rfl (fun K hK => ?_) AllReadyH.nil
    go_simp
    refine (refAsks_any s' ad cap l wx.drew (show LiesC wx.drew ad l from hlx) hn Hx.out hok').mono ?_
    rintro e w2 ⟨rfl, hb2⟩
    have ho2 : RefIn w2 (w.heap.size + 1) rzero none 0 0 := (hb2.block _ (block_lt ho)).trans ho
    have hl2 : Letter.In w2 (w.heap.size + 2) Letter.zero := (hb2.block _ (letter_lt hlt)).trans hlt
    have hr2 : RefIn w2 w.heap.size s' ad l.length cap := (hb2.block _ (block_lt hr)).trans hr
    have hbb : Below w.heap.size w w2 := (hb.drew).trans (hb2.mono hb.size)
    clear hr ho hlt hb hb2 hlx hS
    refine hK.out _ _ hr2 (fun hS => ?_)
    clear hK K
    refine wpAnyH_ready (rs := [3]) (by kernel_rfl) (by simp) ?_
    refine AllReadyH.cons rfl (fun K hK => ?_) AllReadyH.nil
    refine op_wanted rfl (wp_store_row 32 _ _ rfl (w.heap.size + 1) (rcells s' ad l.length cap) rfl rfl 32 _ ho2 (size_ref _ _ _ _) rfl (one_ref _ _ _ _) ?_)
    have ho3 := setRow_heap _ _ _ (rcells s' ad l.length cap) _ _ ho2
    have hl3 : Letter.In (w2.setRow (w.heap.size + 1) (rcells s' ad l.length cap)) (w.heap.size + 2) Letter.zero := (setRow_other _ _ _ _ (by omega)).trans hl2
    have hr3 : RefIn (w2.setRow (w.heap.size + 1) (rcells s' ad l.length cap)) w.heap.size s' ad l.length cap := (setRow_other _ _ _ _ (by omega)).trans hr2
    have hb3 := below_setRow hbb (show w.heap.size ≤ w.heap.size + 1 by omega) (rcells s' ad l.length cap)
    clear ho2 hl2 hr2 hbb hS
    refine hK.out _ _ hr3 (fun hS => ?_)
    clear hK K
    generalize w2.setRow (w.heap.size + 1) (rcells s' ad l.length cap) = w3 at ho3 hl3 hr3 hb3 hS
    refine wpAnyH_ready (rs := [4]) (by kernel_rfl) (by simp) ?_
    refine AllReadyH.cons rfl (fun K hK => ?_) AllReadyH.nil
    refine op_wanted rfl (wp_store_row 47 _ _ rfl (w.heap.size + 2) s'.asks.cells rfl rfl 47 _ hl3 (size_letter _) rfl (one_letter _ rfl rfl) ?_)
    have hl4 := setRow_heap _ _ _ s'.asks.cells _ _ hl3
    have ho4 : RefIn (w3.setRow (w.heap.size + 2) s'.asks.cells) (w.heap.size + 1) s' ad l.length cap := (setRow_other _ _ _ _ (by omega)).trans ho3
    have hr4 : RefIn (w3.setRow (w.heap.size + 2) s'.asks.cells) w.heap.size s' ad l.length cap := (setRow_other _ _ _ _ (by omega)).trans hr3
    have hb4 := below_setRow hb3 (show w.heap.size ≤ w.heap.size + 2 by omega) s'.asks.cells
    clear ho3 hl3 hr3 hb3 hS
    refine hK.out _ _ hr4 (fun hS => ?_)
    clear hK K
    generalize w3.setRow (w.heap.size + 2) s'.asks.cells = w4 at ho4 hl4 hr4 hb4 hS
    refine wpAnyH_ready (rs := [5]) (by kernel_rfl) (by simp) ?_
    refine AllReadyH.cons rfl (fun K hK => ?_) AllReadyH.nil
    go_simp
    refine hK.out _ _ hr4 (fun hS => ?_)
    clear hK K
    refine wpAnyH_done (by kernel_rfl) ?_ _
    go_wp2_with fail
    have hss := Hss.out
    subst hss
    exact ret_told s.nudged ad l.length cap s.nudged.asks (w.heap.size + 1) (w.heap.size + 2) rfl rfl rfl ho4 hl4 rfl ⟨rfl, hb4⟩
end Go.Proofs.Ytakpkedioehjbaa
