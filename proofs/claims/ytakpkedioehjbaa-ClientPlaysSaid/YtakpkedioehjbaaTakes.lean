/-
  THE WALK of a client's Hear, where a reply is taken.
-/
import Derived.Test.YtakpkedioehjbaaHears
namespace Go.Proofs.Ytakpkedioehjbaa
open Go.RowKit Go.Maps
theorem takes_yes {s : St} {l : Letter} (h : s.own l = true) (hk : l.kind = 2) (hn : ¬ l.code = 3) : s.takes l = true := by simp [St.takes, h, hk, hn]

set_option maxRecDepth 100000 in
set_option maxHeartbeats 1600000 in
theorem hear_takes (g : Nat) (s : St) (l : Letter) (w : World) (hs : St.At w g s) (hok : s.Ok) (hf : l.Fits) (ho : s.own l = true) (hk : l.kind = 2) (hn : ¬ l.code = 3) :
    Calls Try.prog 16 #[.pointer (some ⟨g, 0, none⟩), .agg l.cells] w (HearGoes g s l w) := by
  have Hhk := Lib.hid hk
  have Hhn := Lib.hid hn
  clear hk hn
  have hlt := st_lt hs
  go_enter Try.func16, Try.ntmps16
  go_upto_region 1 with fail
  refine code_from (fun wc => Letter.In wc w.heap.size l ∧ Letter.In wc (w.heap.size + 1) Letter.zero ∧ Reply.In wc (w.heap.size + 2) Reply.zero ∧ Below w.heap.size w wc) ⟨heap_three_0 _ _ _ _, heap_three_1 _ _ _ _, heap_three_2 _ _ _ _, below_three w _ _ _⟩ ?_
  rintro wc ⟨hL, hO, hR, hbel⟩
  have hs' := st_below hs hbel hlt
  go_wp2_with (refine wpList_load_row rfl 47 _ rfl w.heap.size rfl 47 l.cells (0, 0) _ hL Try.underlying47 rfl (size_letter _) ?_)
  refine (own_any g s l _ hs' hok hf.src0 hf.src1).mono ?_
  rintro e w1 ⟨he, hb⟩
  rw [ho] at he
  subst he
  have hL1 : Letter.In w1 w.heap.size l := (hb.block _ (letter_lt hL)).trans hL
  have hO1 : Letter.In w1 (w.heap.size + 1) Letter.zero := (hb.block _ (letter_lt hO)).trans hO
  have hR1 : Reply.In w1 (w.heap.size + 2) Reply.zero := (hb.block _ (block_lt hR)).trans hR
  have hs1 := st_below hs' hb (st_lt hs')
  have hbel1 := hbel.trans (hb.mono hbel.size)
  clear hL hO hR hbel hb hs' hs
  go_upto_region 4 with (first | (refine wpList_load_cells (P := Try.prog) rfl 45 _ rfl ⟨w.heap.size, 2, none⟩ rfl l.msg _ (cells_part hL1 _ (msg_part l)) Try.underlying45 rfl (size_msg _) ?_) | (refine wpList_store_row (P := Try.prog) rfl 45 (.tmp 8) (.tmp 16) rfl w1.heap.size l.msg rfl rfl 45 _ (heap_alloc_new w1 _) (size_msg Letter.zero) rfl (one_msg _ hf.votes hf.items) ?_))
  refine code_from (fun wc => wc.heap[w1.heap.size]? = some (.cells l.msg 45 (0, 0)) ∧ Letter.In wc (w.heap.size + 1) Letter.zero ∧ Reply.In wc (w.heap.size + 2) Reply.zero ∧ St.At wc g s ∧ Below w.heap.size w wc)
    ⟨setRow_heap _ _ _ _ _ _ (heap_alloc_new w1 _), old_letter hO1 _ _, old_reply hR1 _ _, old_st hs1 _ _, old_below hbel1 _ _⟩ ?_
  have hsz : w.heap.size + 2 < w1.heap.size := block_lt hR1
  clear hL1 hO1 hR1 hs1 hbel1
  rintro wd ⟨hM, hO, hR, hs, hbel⟩
  obtain ⟨lsrc, ldst, lkind, lbn, lbr, lbase, lslot, lnode, lvalue, lvotes, litems, ⟨lclient, lseq, lckind, lkey, lold, lnew, lset⟩, lcode, ltext⟩ := l
  have m0 : wd.cell? ⟨w1.heap.size, 0, none⟩ = some (.int .u8 lkind) := cell_of_row wd _ 0 _ _ _ hM
  have m4 : wd.cell? ⟨w1.heap.size, 5, none⟩ = some (.int .u8 lnode) := cell_of_row wd _ 5 _ _ _ hM
  have m16 : wd.cell? ⟨w1.heap.size, 16, none⟩ = some (.int .u8 lcode) := cell_of_row wd _ 16 _ _ _ hM
  have e1 : wd.cell? ⟨g, 1, none⟩ = some (.int .i64 s.n) := st_cell hs 1
  have e11 : wd.cell? ⟨g, 11, none⟩ = some (.int .u8 s.dst) := st_cell hs 11
  have e3 : wd.cell? ⟨g, 3, none⟩ = some (.bool s.waits) := st_cell hs 3
  have f11 : wd.frozen? ⟨g, 11, none⟩ = false := frozen_of_row wd g 11 _ _ hs
  have f3 : wd.frozen? ⟨g, 3, none⟩ = false := frozen_of_row wd g 3 _ _ hs
  have hn0 : 0 ≤ lnode := hf.node0
  have hn1 : lnode < 256 := hf.node1
  have hconv : IntKind.i64.wrap lnode = lnode := by rw [IntKind.wrap_i64]; omega
  have Ho := Lib.hid ho
  have Hf := Lib.hid hf
  clear ho hf
  have hk : lkind = 2 := Hhk.out
  have hn : ¬ lcode = 3 := Hhn.out
  clear Hhk Hhn
  have hk3 : ¬ lkind = 3 := by omega
  have hka : 2 ≤ lkind := by omega
  have hkb : lkind ≤ 2 := by omega
  have Hk := Lib.hid hk
  clear hk
  go_quiet (fail)
  go_upto_region 9 with fail
  have Hm := Lib.hid (show s.moves ⟨lsrc, ldst, lkind, lbn, lbr, lbase, lslot, lnode, lvalue, lvotes, litems, ⟨lclient, lseq, lckind, lkey, lold, lnew, lset⟩, lcode, ltext⟩ = false from by simp [St.moves, hk3])
  have Ht := Lib.hid (show s.takes ⟨lsrc, ldst, lkind, lbn, lbr, lbase, lslot, lnode, lvalue, lvotes, litems, ⟨lclient, lseq, lckind, lkey, lold, lnew, lset⟩, lcode, ltext⟩ = true from takes_yes Ho.out Hk.out hn)
  refine code_from (fun wc => (∀ j v, (Reply.cells ⟨lcode, ltext⟩)[j]? = some v → wc.cell? ((⟨w1.heap.size, 16, none⟩ : Addr).add j) = some v) ∧ Letter.In wc (w.heap.size + 1) Letter.zero ∧ Reply.In wc (w.heap.size + 2) Reply.zero ∧ St.At wc g s.heardReply ∧ w.grownBy wc (some g))
    ⟨cells_part (k := 16) (n := 18) ((set_other _ _ _ _ _ (by omega)).trans hM) _ (by simp [Reply.cells, Letter.msg]), letter_set hO (by omega), (set_other _ _ _ _ _ (by omega)).trans hR, cells_at (set_cells (w := wd.drewN _) hs 3 (.bool false)) rfl, grown_set (grown_below (drawn hbel _) (Nat.le_refl _)) _⟩ ?_
  clear hM hO hR hs hbel m0 m4 m16 e1 e11 e3 f11 f3
  rintro wx ⟨hM, hO, hR, hs, hgr⟩
  have hM2 : ∀ j v, (Reply.cells ⟨lcode, ltext⟩)[j]? = some v → wx.drew.cell? ((⟨w1.heap.size, 16, none⟩ : Addr).add j) = some v := hM
  have hO2 : Letter.In wx.drew (w.heap.size + 1) Letter.zero := letter_drew hO
  have hR2 : wx.drew.heap[w.heap.size + 2]? = some (.cells Reply.zero.cells 43 (0, 0)) := hR
  have hs2 := at_drew hs
  have hgr2 := grown_drew hgr
  clear hM hO hR hs hgr
  refine wp_region_still_tail 5 (by kernel_rfl) (by kernel_rfl) ?_
  simp only [List.take_succ_cons, List.take_zero, List.drop_succ_cons, List.drop_zero]
  change wpStill _ _ wx.drew _ _ _
  refine still_load rfl 47 _ rfl (w.heap.size + 1) rfl 47 Letter.zero.cells (0, 0) _ hO2 Try.underlying47 rfl (size_letter _) ?_
  still_step
  refine still_load_cells rfl 43 _ rfl ⟨w1.heap.size, 16, none⟩ rfl (Reply.cells ⟨lcode, ltext⟩) _ hM2 Try.underlying43 rfl (size_reply _) ?_
  refine still_same rfl 47 _ _ rfl (w.heap.size + 1) Letter.zero.cells rfl rfl 47 hO2 (size_letter _) (one_letter _ rfl rfl) ?_
  still_step
  refine wpStill_nil ?_
  change wpList _ _ _ _ _ wx.drew
  generalize wx.drew = wy at hM2 hO2 hR2 hs2 hgr2
  go_wp2_with (first | (refine wpList_store_row (P := Try.prog) rfl 43 (.tmp 6) (.tmp 54) rfl (w.heap.size + 2) (Reply.cells ⟨lcode, ltext⟩) rfl rfl 43 _ hR2 (size_reply _) rfl (one_reply _) ?_))
  have hO3 := (setRow_other wy (w.heap.size + 2) (w.heap.size + 1) (Reply.cells ⟨lcode, ltext⟩) (by omega)).trans hO2
  exact ret_hear Letter.zero ⟨lcode, ltext⟩ (w.heap.size + 1) (w.heap.size + 2) rfl rfl rfl hO3 (setRow_heap _ _ _ _ _ _ hR2) rfl
    ⟨fun h => absurd (Hm.out.symm.trans h) (by decide), fun _ _ => ⟨rfl, st_row hs2 (by omega) _, grown_row hgr2 (by omega) _⟩, fun _ h => absurd (Ht.out.symm.trans h) (by decide)⟩

theorem hear_any (g : Nat) (s : St) (l : Letter) (w : World) (hs : St.At w g s) (hok : s.Ok) (hf : l.Fits) :
    Calls Try.prog 16 #[.pointer (some ⟨g, 0, none⟩), .agg l.cells] w (HearGoes g s l w) := by
  cases ho : s.own l with
  | false => exact hear_foreign g s l w hs hok hf ho
  | true =>
    by_cases hk : l.kind = 3
    · by_cases hn : l.node < s.n
      · exact hear_moved g s l w hs hok hf ho hk hn
      · exact hear_far g s l w hs hok hf ho hk hn
    · by_cases hk2 : l.kind = 2
      · by_cases hc : l.code = 3
        · exact hear_old g s l w hs hok hf ho hk2 hc
        · exact hear_takes g s l w hs hok hf ho hk2 hc
      · exact hear_other g s l w hs hok hf ho hk hk2
end Go.Proofs.Ytakpkedioehjbaa
