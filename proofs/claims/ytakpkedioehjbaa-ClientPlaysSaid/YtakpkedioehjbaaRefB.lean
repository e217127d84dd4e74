/-
  THE WALK of the reference client's asks.
-/
import Derived.Test.YtakpkedioehjbaaRefA
namespace Go.Proofs.Ytakpkedioehjbaa
open Go.RowKit Go.Maps Go.BigFrame

set_option maxRecDepth 100000 in
set_option maxHeartbeats 1600000 in
theorem refAsks_any (s : St) (ad : Option Addr) (cap : Nat) (l : List Cmd) (w : World) (hl : LiesC w ad l) (hn : l.length ≤ 1000) (hlast : lastC l = s.x) (hok : s.Ok) :
    Calls Try.prog 28 #[.agg (rcells s ad l.length cap)] w fun r w' => r = .returned (.agg s.asks.cells) ∧ Below w.heap.size w w' := by
  have hu := u8_add s.id hok.id0 hok.id1
  go_enter Try.func28, Try.ntmps28
  go_upto_region 1 with fail
  refine code_from (fun wd => RefIn wd w.heap.size s ad l.length cap ∧ Letter.In wd (w.heap.size + 1) Letter.zero ∧ Below w.heap.size w wd) ⟨heap_alloc2_old w _ _, heap_alloc2_new w _ _, below_two w _ _⟩ ?_
  rintro wd ⟨hr, ho, hb⟩
  have hld := hl.below hb
  clear hl hok
  refine wp_region_held_drew (S := fun w' => RefIn w' w.heap.size s ad l.length cap) (by kernel_rfl) hr (fun hS => ?_)
  refine wpAnyH_take (i := 0) (v := .pointer (some ⟨w.heap.size, 0, none⟩)) rfl (by kernel_rfl) (by kernel_rfl) (by kernel_rfl) (fun _ _ _ h => h) (Or.inl ⟨by rfl, fun w _ => by go_simp⟩) hS ?_
  refine wpAnyH_take (i := 1) (v := .int .u8 s.id) rfl (by kernel_rfl) (by kernel_rfl) (by kernel_rfl) (fun _ _ _ h => h) (Or.inl ⟨by rfl, fun w hw => by obtain ⟨c0, _, _, _, _⟩ := ref_reads hw; go_simp⟩) hS ?_
  simp only [Act.put, List.setIfInBounds_toArray, List.set_cons_zero, List.set_cons_succ]
  refine wpAnyH_take (i := 2) (v := .int .u8 (16 + s.id)) rfl (by kernel_rfl) (by kernel_rfl) (by kernel_rfl) (fun _ _ _ h => h) (Or.inl ⟨by rfl, fun w _ => by go_simp⟩) hS ?_
  simp only [Act.put, List.setIfInBounds_toArray, List.set_cons_zero, List.set_cons_succ]
  refine wpAnyH_take (i := 3) (v := .pointer (some ⟨w.heap.size, 4, none⟩)) rfl (by kernel_rfl) (by kernel_rfl) (by kernel_rfl) (fun _ _ _ h => h) (Or.inl ⟨by rfl, fun w _ => by go_simp⟩) hS ?_
  simp only [Act.put, List.setIfInBounds_toArray, List.set_cons_zero, List.set_cons_succ]
  refine wpAnyH_take (i := 4) (v := .int .u8 s.dst) rfl (by kernel_rfl) (by kernel_rfl) (by kernel_rfl) (fun _ _ _ h => h) (Or.inl ⟨by rfl, fun w hw => by obtain ⟨_, _, _, _, c4⟩ := ref_reads hw; go_simp⟩) hS ?_
  simp only [Act.put, List.setIfInBounds_toArray, List.set_cons_zero, List.set_cons_succ]
  refine wpAnyH_take (i := 5) (v := .agg (rcells s ad l.length cap)) rfl (by kernel_rfl) (by kernel_rfl) (by kernel_rfl) (fun _ _ _ h => h) (yields_load rfl 32 _ rfl w.heap.size rfl 32 _ (0, 0) _ (fun _ h => h) Try.underlying32 rfl (size_ref _ _ _ _)) hS ?_
  simp only [Act.put, List.setIfInBounds_toArray, List.set_cons_zero, List.set_cons_succ]
  refine wpAnyH_ready (rs := [6]) (by kernel_rfl) (by simp) ?_
  refine AllReadyH.cons rfl (fun K hK => ?_) AllReadyH.nil
  go_simp
  refine (refLast_any s ad cap l wd.drew (show LiesC wd.drew ad l from hld) hn).mono ?_
  rintro e w2 ⟨rfl, hb2⟩
  rw [hlast]
  have ho2 : Letter.In w2 (w.heap.size + 1) Letter.zero := (hb2.block _ (letter_lt ho)).trans ho
  have hr2 : RefIn w2 w.heap.size s ad l.length cap := (hb2.block _ (block_lt hr)).trans hr
  have hbb : Below w.heap.size w w2 := (hb.drew).trans (hb2.mono hb.size)
  clear hr ho hb hb2 hld hlast hS
  refine hK.out _ _ hr2 (fun hS => ?_)
  clear hK K
  obtain ⟨id, n, seq, waits, ⟨client, cseq, kind, key, old, new, set⟩, dst⟩ := s
  simp only [Cmd.cells]
  refine wpAnyH_take (i := 7) (v := .agg (St.asks ⟨id, n, seq, waits, ⟨client, cseq, kind, key, old, new, set⟩, dst⟩).msg) rfl (by kernel_rfl) (by kernel_rfl) (by kernel_rfl) (fun _ _ _ h => h) (Or.inl ⟨by rfl, fun w _ => by go_simp; rfl⟩) hS ?_
  simp only [Act.put, List.setIfInBounds_toArray, List.set_cons_zero, List.set_cons_succ, Letter.msg]
  refine wpAnyH_take (i := 8) (v := .agg (St.asks ⟨id, n, seq, waits, ⟨client, cseq, kind, key, old, new, set⟩, dst⟩).cells) rfl (by kernel_rfl) (by kernel_rfl) (by kernel_rfl) (fun _ _ _ h => h) (Or.inl ⟨by rfl, fun w _ => by go_simp; rfl⟩) hS ?_
  refine wpAnyH_ready (rs := [9]) (by kernel_rfl) (by simp) ?_
  refine AllReadyH.cons rfl (fun K hK => ?_) AllReadyH.nil
  refine op_wanted rfl (wp_store_row 47 _ _ rfl (w.heap.size + 1) (St.asks ⟨id, n, seq, waits, ⟨client, cseq, kind, key, old, new, set⟩, dst⟩).cells rfl rfl 47 _ ho2 (size_letter _) rfl (one_letter _ rfl rfl) ?_)
  refine hK.out _ _ ((setRow_other _ _ _ _ (by omega)).trans hr2) (fun _ => ?_)
  clear hK K
  refine wpAnyH_done (by kernel_rfl) ?_ _
  go_wp2_with fail
  exact bodyPost_ret (results_cell_row rfl _ _ (w.heap.size + 1) 47 _ (0, 0) _ rfl (setRow_heap _ _ _ _ _ _ ho2) Try.underlying47 rfl (size_letter _)) rfl ⟨rfl, below_setRow hbb (by omega) _⟩
end Go.Proofs.Ytakpkedioehjbaa
