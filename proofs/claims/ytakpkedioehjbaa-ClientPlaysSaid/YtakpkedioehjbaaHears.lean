/-
  THE WALK of a client's Hear, each way by itself.
-/
import Derived.Test.YtakpkedioehjbaaHear
namespace Go.Proofs.Ytakpkedioehjbaa
open Go.RowKit Go.Maps

set_option maxRecDepth 100000 in
set_option maxHeartbeats 1600000 in
theorem hear_foreign (g : Nat) (s : St) (l : Letter) (w : World) (hs : St.At w g s) (hok : s.Ok) (hf : l.Fits) (ho : s.own l = false) :
    Calls Try.prog 16 #[.pointer (some ⟨g, 0, none⟩), .agg l.cells] w (HearGoes g s l w) := by
  have hlt := st_lt hs
  go_enter Try.func16, Try.ntmps16
  go_upto_region 1 with fail
  refine code_from (fun wc => Letter.In wc w.heap.size l ∧ Letter.In wc (w.heap.size + 1) Letter.zero ∧ Reply.In wc (w.heap.size + 2) Reply.zero ∧ Below w.heap.size w wc) ⟨heap_three_0 _ _ _ _, heap_three_1 _ _ _ _, heap_three_2 _ _ _ _, below_three w _ _ _⟩ ?_
  rintro wc ⟨hL, hO, hR, hbel⟩
  have hs' := st_below hs hbel hlt
  go_wp2_with (refine wpList_load_row rfl 47 _ rfl w.heap.size rfl 47 l.cells (0, 0) _ hL Try.underlying47 rfl (size_letter _) ?_)
  refine (own_any g s l _ hs' hok hf.src0 hf.src1).mono ?_
  rintro e w1 ⟨he, hb⟩
  rw [ho] at he
  subst he
  have hL1 : Letter.In w1 w.heap.size l := (hb.block _ (letter_lt hL)).trans hL
  have hO1 : Letter.In w1 (w.heap.size + 1) Letter.zero := (hb.block _ (letter_lt hO)).trans hO
  have hR1 : Reply.In w1 (w.heap.size + 2) Reply.zero := (hb.block _ (block_lt hR)).trans hR
  have hs1 := st_below hs' hb (st_lt hs')
  have hbel1 := hbel.trans (hb.mono hbel.size)
  clear hL hO hR hbel hb hs' hs
  have Hm : s.moves l = false := by simp [St.moves, ho]
  have Ht : s.takes l = false := by simp [St.takes, ho]
  have Hm := Lib.hid Hm
  have Ht := Lib.hid Ht
  clear ho
  go_upto_region 2 with fail
  have hO2 : Letter.In w1.drew (w.heap.size + 1) Letter.zero := letter_drew hO1
  have hR2 : w1.drew.heap[w.heap.size + 2]? = some (.cells Reply.zero.cells 43 (0, 0)) := hR1
  refine wp_region_still_lit (by kernel_rfl) (by kernel_rfl) ?_
  change wpStill _ _ w1.drew _ _ _
  refine still_load rfl 47 _ rfl (w.heap.size + 1) rfl 47 Letter.zero.cells (0, 0) _ hO2 Try.underlying47 rfl (size_letter _) ?_
  refine still_load rfl 43 _ rfl (w.heap.size + 2) rfl 43 Reply.zero.cells (0, 0) _ hR2 Try.underlying43 rfl (size_reply _) ?_
  refine still_same rfl 47 _ _ rfl (w.heap.size + 1) Letter.zero.cells rfl rfl 47 hO2 (size_letter _) (one_letter _ rfl rfl) ?_
  still_step
  refine still_same rfl 43 _ _ rfl (w.heap.size + 2) Reply.zero.cells rfl rfl 43 hR2 (size_reply _) (one_reply _) ?_
  still_step
  refine wpStill_nil ?_
  change Exit.then _ _ _ _ w1.drew
  go_wp2_with fail
  exact ret_hear Letter.zero Reply.zero (w.heap.size + 1) (w.heap.size + 2) rfl rfl rfl hO2 hR2 rfl (hear_none Hm.out Ht.out (at_drew hs1) hbel1.drew)

set_option maxRecDepth 100000 in
set_option maxHeartbeats 1600000 in
theorem hear_moved (g : Nat) (s : St) (l : Letter) (w : World) (hs : St.At w g s) (hok : s.Ok) (hf : l.Fits) (ho : s.own l = true) (hk : l.kind = 3) (hn : l.node < s.n) :
    Calls Try.prog 16 #[.pointer (some ⟨g, 0, none⟩), .agg l.cells] w (HearGoes g s l w) := by
  have Hhk := Lib.hid hk
  have Hhn := Lib.hid hn
  clear hk hn
  have hlt := st_lt hs
  go_enter Try.func16, Try.ntmps16
  go_upto_region 1 with fail
  refine code_from (fun wc => Letter.In wc w.heap.size l ∧ Letter.In wc (w.heap.size + 1) Letter.zero ∧ Reply.In wc (w.heap.size + 2) Reply.zero ∧ Below w.heap.size w wc) ⟨heap_three_0 _ _ _ _, heap_three_1 _ _ _ _, heap_three_2 _ _ _ _, below_three w _ _ _⟩ ?_
  rintro wc ⟨hL, hO, hR, hbel⟩
  have hs' := st_below hs hbel hlt
  go_wp2_with (refine wpList_load_row rfl 47 _ rfl w.heap.size rfl 47 l.cells (0, 0) _ hL Try.underlying47 rfl (size_letter _) ?_)
  refine (own_any g s l _ hs' hok hf.src0 hf.src1).mono ?_
  rintro e w1 ⟨he, hb⟩
  rw [ho] at he
  subst he
  have hL1 : Letter.In w1 w.heap.size l := (hb.block _ (letter_lt hL)).trans hL
  have hO1 : Letter.In w1 (w.heap.size + 1) Letter.zero := (hb.block _ (letter_lt hO)).trans hO
  have hR1 : Reply.In w1 (w.heap.size + 2) Reply.zero := (hb.block _ (block_lt hR)).trans hR
  have hs1 := st_below hs' hb (st_lt hs')
  have hbel1 := hbel.trans (hb.mono hbel.size)
  clear hL hO hR hbel hb hs' hs
  go_upto_region 4 with (first | (refine wpList_load_cells (P := Try.prog) rfl 45 _ rfl ⟨w.heap.size, 2, none⟩ rfl l.msg _ (cells_part hL1 _ (msg_part l)) Try.underlying45 rfl (size_msg _) ?_) | (refine wpList_store_row (P := Try.prog) rfl 45 (.tmp 8) (.tmp 16) rfl w1.heap.size l.msg rfl rfl 45 _ (heap_alloc_new w1 _) (size_msg Letter.zero) rfl (one_msg _ hf.votes hf.items) ?_))
  refine code_from (fun wc => wc.heap[w1.heap.size]? = some (.cells l.msg 45 (0, 0)) ∧ Letter.In wc (w.heap.size + 1) Letter.zero ∧ Reply.In wc (w.heap.size + 2) Reply.zero ∧ St.At wc g s ∧ Below w.heap.size w wc)
    ⟨setRow_heap _ _ _ _ _ _ (heap_alloc_new w1 _), old_letter hO1 _ _, old_reply hR1 _ _, old_st hs1 _ _, old_below hbel1 _ _⟩ ?_
  have hsz : w.heap.size + 2 < w1.heap.size := block_lt hR1
  clear hL1 hO1 hR1 hs1 hbel1
  rintro wd ⟨hM, hO, hR, hs, hbel⟩
  obtain ⟨lsrc, ldst, lkind, lbn, lbr, lbase, lslot, lnode, lvalue, lvotes, litems, ⟨lclient, lseq, lckind, lkey, lold, lnew, lset⟩, lcode, ltext⟩ := l
  have m0 : wd.cell? ⟨w1.heap.size, 0, none⟩ = some (.int .u8 lkind) := cell_of_row wd _ 0 _ _ _ hM
  have m4 : wd.cell? ⟨w1.heap.size, 5, none⟩ = some (.int .u8 lnode) := cell_of_row wd _ 5 _ _ _ hM
  have m16 : wd.cell? ⟨w1.heap.size, 16, none⟩ = some (.int .u8 lcode) := cell_of_row wd _ 16 _ _ _ hM
  have e1 : wd.cell? ⟨g, 1, none⟩ = some (.int .i64 s.n) := st_cell hs 1
  have e11 : wd.cell? ⟨g, 11, none⟩ = some (.int .u8 s.dst) := st_cell hs 11
  have e3 : wd.cell? ⟨g, 3, none⟩ = some (.bool s.waits) := st_cell hs 3
  have f11 : wd.frozen? ⟨g, 11, none⟩ = false := frozen_of_row wd g 11 _ _ hs
  have f3 : wd.frozen? ⟨g, 3, none⟩ = false := frozen_of_row wd g 3 _ _ hs
  have hn0 : 0 ≤ lnode := hf.node0
  have hn1 : lnode < 256 := hf.node1
  have hconv : IntKind.i64.wrap lnode = lnode := by rw [IntKind.wrap_i64]; omega
  have Ho := Lib.hid ho
  have Hf := Lib.hid hf
  clear ho hf
  have hk : lkind = 3 := Hhk.out
  have hn : lnode < s.n := Hhn.out
  subst hk
  clear Hhk Hhn
  go_quiet (fail)
  go_upto_region 6 with fail
  have hm := moves_yes (l := ⟨lsrc, ldst, 3, lbn, lbr, lbase, lslot, lnode, lvalue, lvotes, litems, ⟨lclient, lseq, lckind, lkey, lold, lnew, lset⟩, lcode, ltext⟩) Ho.out rfl hn
  have hok' := moved_ok (l := ⟨lsrc, ldst, 3, lbn, lbr, lbase, lslot, lnode, lvalue, lvotes, litems, ⟨lclient, lseq, lckind, lkey, lold, lnew, lset⟩, lcode, ltext⟩) hok hn0 hn
  refine code_from (fun wc => Letter.In wc (w.heap.size + 1) Letter.zero ∧ Reply.In wc (w.heap.size + 2) Reply.zero ∧ St.At wc g (s.heardMoved ⟨lsrc, ldst, 3, lbn, lbr, lbase, lslot, lnode, lvalue, lvotes, litems, ⟨lclient, lseq, lckind, lkey, lold, lnew, lset⟩, lcode, ltext⟩) ∧ w.grownBy wc (some g))
    ⟨letter_set hO (by omega), (set_other _ _ _ _ _ (by omega)).trans hR, cells_at (set_cells (w := wd.drewN _) hs 11 (.int .u8 lnode)) rfl, grown_set (grown_below (drawn hbel _) (Nat.le_refl _)) _⟩ ?_
  clear hM hO hR hs hbel m0 m4 m16 e1 e11 e3 f11 f3
  rintro wx ⟨hO, hR, hs, hgr⟩
  generalize hss : s.heardMoved ⟨lsrc, ldst, 3, lbn, lbr, lbase, lslot, lnode, lvalue, lvotes, litems, ⟨lclient, lseq, lckind, lkey, lold, lnew, lset⟩, lcode, ltext⟩ = s' at hs hok'
  have Hss := Lib.hid hss
  have Hm := Lib.hid hm
  clear hm hss
  refine wp_region_held_drew (S := fun w' => w'.heap[w.heap.size + 2]? = some (.cells Reply.zero.cells 43 (0, 0))) (by kernel_rfl) hR (fun hS => ?_)
  refine wpAnyH_take (i := 0) (v := .pointer (some ⟨g, 0, none⟩)) rfl (by kernel_rfl) (by kernel_rfl) (by kernel_rfl) (fun _ _ _ h => h) (Or.inl ⟨by rfl, fun w _ => by go_simp⟩) hS ?_
  refine wpAnyH_take (i := 2) (v := .agg Reply.zero.cells) rfl (by kernel_rfl) (by kernel_rfl) (by kernel_rfl) (fun _ _ _ h => h) (yields_load rfl 43 _ rfl (w.heap.size + 2) rfl 43 Reply.zero.cells (0, 0) _ (fun _ h => h) Try.underlying43 rfl (size_reply _)) hS ?_
  refine wpAnyH_ready (rs := [1]) (by kernel_rfl) (by simp) ?_
  refine AllReadyH.cons rfl (fun K hK => ?_) AllReadyH.nil
  go_simp
  refine (asks_any g s' _ (at_drew hs) hok').mono ?_
  rintro e w2 ⟨rfl, hb⟩
  have hO2 : Letter.In w2 (w.heap.size + 1) Letter.zero := (hb.block _ (letter_lt hO)).trans hO
  have hR2 : w2.heap[w.heap.size + 2]? = some (.cells Reply.zero.cells 43 (0, 0)) := (hb.block _ (block_lt hR)).trans hR
  have hs2 : St.At w2 g s' := (hb.block _ (st_lt hs)).trans hs
  have hgr2 := grown_trans hgr (grown_below (w := wx) (r := some g) (Below.trans ((Below.refl _ _).drew) hb) (Nat.le_refl _))
  have hgb : g ≠ w.heap.size + 1 := by omega
  clear hO hR hs hgr hb hok'
  refine hK.out _ _ hR2 (fun _ => ?_)
  clear hK K
  refine wpAnyH_ready (rs := [3]) (by kernel_rfl) (by simp) ?_
  refine AllReadyH.cons rfl (fun K hK => ?_) AllReadyH.nil
  refine op_wanted rfl (wp_store_row 47 _ _ rfl (w.heap.size + 1) s'.asks.cells rfl rfl 47 _ hO2 (size_letter _) rfl (one_letter _ rfl rfl) ?_)
  have hO3 := setRow_heap _ _ _ s'.asks.cells _ _ hO2
  have hR3 := (setRow_other w2 (w.heap.size + 1) (w.heap.size + 2) s'.asks.cells (by omega)).trans hR2
  have hs3 := st_row hs2 hgb s'.asks.cells
  have hgr3 := grown_row hgr2 (B := w.heap.size + 1) (by omega) s'.asks.cells
  clear hO2 hR2 hs2 hgr2
  refine hK.out _ _ hR3 (fun _ => ?_)
  clear hK K
  generalize w2.setRow (w.heap.size + 1) s'.asks.cells = w3 at hO3 hR3 hs3 hgr3
  refine wpAnyH_ready (rs := [4]) (by kernel_rfl) (by simp) ?_
  refine AllReadyH.cons rfl (fun K hK => ?_) AllReadyH.nil
  go_simp
  refine hK.out _ _ hR3 (fun _ => ?_)
  clear hK K
  refine wpAnyH_ready (rs := [5]) (by kernel_rfl) (by simp) ?_
  refine AllReadyH.cons rfl (fun K hK => ?_) AllReadyH.nil
  refine op_wanted rfl (wp_store_row 43 _ _ rfl (w.heap.size + 2) Reply.zero.cells rfl rfl 43 _ hR3 (size_reply _) rfl (one_reply _) ?_)
  rw [setRow_same hR3]
  refine hK.out _ _ hR3 (fun _ => ?_)
  clear hK K
  refine wpAnyH_ready (rs := [6]) (by kernel_rfl) (by simp) ?_
  refine AllReadyH.cons rfl (fun K hK => ?_) AllReadyH.nil
  go_simp
  refine hK.out _ _ hR3 (fun _ => ?_)
  clear hK K
  refine wpAnyH_done (by kernel_rfl) ?_ _
  go_wp2_with fail
  refine ret_hear s'.asks Reply.zero (w.heap.size + 1) (w.heap.size + 2) rfl rfl rfl hO3 hR3 rfl ?_
  have hss := Hss.out
  subst hss
  exact ⟨fun _ => ⟨rfl, hs3, hgr3⟩, fun h => absurd (Hm.out.symm.trans h) (by decide), fun h => absurd (Hm.out.symm.trans h) (by decide)⟩

set_option maxRecDepth 100000 in
set_option maxHeartbeats 1600000 in
theorem hear_far (g : Nat) (s : St) (l : Letter) (w : World) (hs : St.At w g s) (hok : s.Ok) (hf : l.Fits) (ho : s.own l = true) (hk : l.kind = 3) (hn : ¬ l.node < s.n) :
    Calls Try.prog 16 #[.pointer (some ⟨g, 0, none⟩), .agg l.cells] w (HearGoes g s l w) := by
  have Hhk := Lib.hid hk
  have Hhn := Lib.hid hn
  clear hk hn
  have hlt := st_lt hs
  go_enter Try.func16, Try.ntmps16
  go_upto_region 1 with fail
  refine code_from (fun wc => Letter.In wc w.heap.size l ∧ Letter.In wc (w.heap.size + 1) Letter.zero ∧ Reply.In wc (w.heap.size + 2) Reply.zero ∧ Below w.heap.size w wc) ⟨heap_three_0 _ _ _ _, heap_three_1 _ _ _ _, heap_three_2 _ _ _ _, below_three w _ _ _⟩ ?_
  rintro wc ⟨hL, hO, hR, hbel⟩
  have hs' := st_below hs hbel hlt
  go_wp2_with (refine wpList_load_row rfl 47 _ rfl w.heap.size rfl 47 l.cells (0, 0) _ hL Try.underlying47 rfl (size_letter _) ?_)
  refine (own_any g s l _ hs' hok hf.src0 hf.src1).mono ?_
  rintro e w1 ⟨he, hb⟩
  rw [ho] at he
  subst he
  have hL1 : Letter.In w1 w.heap.size l := (hb.block _ (letter_lt hL)).trans hL
  have hO1 : Letter.In w1 (w.heap.size + 1) Letter.zero := (hb.block _ (letter_lt hO)).trans hO
  have hR1 : Reply.In w1 (w.heap.size + 2) Reply.zero := (hb.block _ (block_lt hR)).trans hR
  have hs1 := st_below hs' hb (st_lt hs')
  have hbel1 := hbel.trans (hb.mono hbel.size)
  clear hL hO hR hbel hb hs' hs
  go_upto_region 4 with (first | (refine wpList_load_cells (P := Try.prog) rfl 45 _ rfl ⟨w.heap.size, 2, none⟩ rfl l.msg _ (cells_part hL1 _ (msg_part l)) Try.underlying45 rfl (size_msg _) ?_) | (refine wpList_store_row (P := Try.prog) rfl 45 (.tmp 8) (.tmp 16) rfl w1.heap.size l.msg rfl rfl 45 _ (heap_alloc_new w1 _) (size_msg Letter.zero) rfl (one_msg _ hf.votes hf.items) ?_))
  refine code_from (fun wc => wc.heap[w1.heap.size]? = some (.cells l.msg 45 (0, 0)) ∧ Letter.In wc (w.heap.size + 1) Letter.zero ∧ Reply.In wc (w.heap.size + 2) Reply.zero ∧ St.At wc g s ∧ Below w.heap.size w wc)
    ⟨setRow_heap _ _ _ _ _ _ (heap_alloc_new w1 _), old_letter hO1 _ _, old_reply hR1 _ _, old_st hs1 _ _, old_below hbel1 _ _⟩ ?_
  have hsz : w.heap.size + 2 < w1.heap.size := block_lt hR1
  clear hL1 hO1 hR1 hs1 hbel1
  rintro wd ⟨hM, hO, hR, hs, hbel⟩
  obtain ⟨lsrc, ldst, lkind, lbn, lbr, lbase, lslot, lnode, lvalue, lvotes, litems, ⟨lclient, lseq, lckind, lkey, lold, lnew, lset⟩, lcode, ltext⟩ := l
  have m0 : wd.cell? ⟨w1.heap.size, 0, none⟩ = some (.int .u8 lkind) := cell_of_row wd _ 0 _ _ _ hM
  have m4 : wd.cell? ⟨w1.heap.size, 5, none⟩ = some (.int .u8 lnode) := cell_of_row wd _ 5 _ _ _ hM
  have m16 : wd.cell? ⟨w1.heap.size, 16, none⟩ = some (.int .u8 lcode) := cell_of_row wd _ 16 _ _ _ hM
  have e1 : wd.cell? ⟨g, 1, none⟩ = some (.int .i64 s.n) := st_cell hs 1
  have e11 : wd.cell? ⟨g, 11, none⟩ = some (.int .u8 s.dst) := st_cell hs 11
  have e3 : wd.cell? ⟨g, 3, none⟩ = some (.bool s.waits) := st_cell hs 3
  have f11 : wd.frozen? ⟨g, 11, none⟩ = false := frozen_of_row wd g 11 _ _ hs
  have f3 : wd.frozen? ⟨g, 3, none⟩ = false := frozen_of_row wd g 3 _ _ hs
  have hn0 : 0 ≤ lnode := hf.node0
  have hn1 : lnode < 256 := hf.node1
  have hconv : IntKind.i64.wrap lnode = lnode := by rw [IntKind.wrap_i64]; omega
  have Ho := Lib.hid ho
  have Hf := Lib.hid hf
  clear ho hf
  have hk : lkind = 3 := Hhk.out
  have hn : ¬ lnode < s.n := by have := Hhn.out; exact Int.not_lt.2 this
  subst hk
  clear Hhk Hhn
  have t6 : decide (lnode < s.n) = false := by simp; omega
  have Hn := Lib.hid hn
  have t8 : ((3 : Int) == 2) = false := by decide
  have Hm := Lib.hid (show s.moves ⟨lsrc, ldst, 3, lbn, lbr, lbase, lslot, lnode, lvalue, lvotes, litems, ⟨lclient, lseq, lckind, lkey, lold, lnew, lset⟩, lcode, ltext⟩ = false from by simp [St.moves, Hn.out])
  have Ht := Lib.hid (show s.takes ⟨lsrc, ldst, 3, lbn, lbr, lbase, lslot, lnode, lvalue, lvotes, litems, ⟨lclient, lseq, lckind, lkey, lold, lnew, lset⟩, lcode, ltext⟩ = false from by simp [St.takes])
  go_quiet (fail)
  go_upto_region 10 with fail
  refine code_from (fun wc => Letter.In wc (w.heap.size + 1) Letter.zero ∧ Reply.In wc (w.heap.size + 2) Reply.zero ∧ St.At wc g s ∧ Below w.heap.size w wc) ⟨hO, hR, hs, drawn hbel _⟩ ?_
  clear hM hO hR hs hbel m0 m4 m16 e1 e11 e3 f11 f3
  rintro wx ⟨hO, hR, hs, hbel⟩
  have hO2 : Letter.In wx.drew (w.heap.size + 1) Letter.zero := letter_drew hO
  have hR2 : wx.drew.heap[w.heap.size + 2]? = some (.cells Reply.zero.cells 43 (0, 0)) := hR
  refine wp_region_still_lit (by kernel_rfl) (by kernel_rfl) ?_
  change wpStill _ _ wx.drew _ _ _
  refine still_load rfl 47 _ rfl (w.heap.size + 1) rfl 47 Letter.zero.cells (0, 0) _ hO2 Try.underlying47 rfl (size_letter _) ?_
  refine still_load rfl 43 _ rfl (w.heap.size + 2) rfl 43 Reply.zero.cells (0, 0) _ hR2 Try.underlying43 rfl (size_reply _) ?_
  refine still_same rfl 47 _ _ rfl (w.heap.size + 1) Letter.zero.cells rfl rfl 47 hO2 (size_letter _) (one_letter _ rfl rfl) ?_
  still_step
  refine still_same rfl 43 _ _ rfl (w.heap.size + 2) Reply.zero.cells rfl rfl 43 hR2 (size_reply _) (one_reply _) ?_
  still_step
  refine wpStill_nil ?_
  change Exit.then _ _ _ _ wx.drew
  go_wp2_with fail
  exact ret_hear Letter.zero Reply.zero (w.heap.size + 1) (w.heap.size + 2) rfl rfl rfl hO2 hR2 rfl (hear_none Hm.out Ht.out (at_drew hs) hbel.drew)

set_option maxRecDepth 100000 in
set_option maxHeartbeats 1600000 in
theorem hear_old (g : Nat) (s : St) (l : Letter) (w : World) (hs : St.At w g s) (hok : s.Ok) (hf : l.Fits) (ho : s.own l = true) (hk : l.kind = 2) (hn : l.code = 3) :
    Calls Try.prog 16 #[.pointer (some ⟨g, 0, none⟩), .agg l.cells] w (HearGoes g s l w) := by
  have Hhk := Lib.hid hk
  have Hhn := Lib.hid hn
  clear hk hn
  have hlt := st_lt hs
  go_enter Try.func16, Try.ntmps16
  go_upto_region 1 with fail
  refine code_from (fun wc => Letter.In wc w.heap.size l ∧ Letter.In wc (w.heap.size + 1) Letter.zero ∧ Reply.In wc (w.heap.size + 2) Reply.zero ∧ Below w.heap.size w wc) ⟨heap_three_0 _ _ _ _, heap_three_1 _ _ _ _, heap_three_2 _ _ _ _, below_three w _ _ _⟩ ?_
  rintro wc ⟨hL, hO, hR, hbel⟩
  have hs' := st_below hs hbel hlt
  go_wp2_with (refine wpList_load_row rfl 47 _ rfl w.heap.size rfl 47 l.cells (0, 0) _ hL Try.underlying47 rfl (size_letter _) ?_)
  refine (own_any g s l _ hs' hok hf.src0 hf.src1).mono ?_
  rintro e w1 ⟨he, hb⟩
  rw [ho] at he
  subst he
  have hL1 : Letter.In w1 w.heap.size l := (hb.block _ (letter_lt hL)).trans hL
  have hO1 : Letter.In w1 (w.heap.size + 1) Letter.zero := (hb.block _ (letter_lt hO)).trans hO
  have hR1 : Reply.In w1 (w.heap.size + 2) Reply.zero := (hb.block _ (block_lt hR)).trans hR
  have hs1 := st_below hs' hb (st_lt hs')
  have hbel1 := hbel.trans (hb.mono hbel.size)
  clear hL hO hR hbel hb hs' hs
  go_upto_region 4 with (first | (refine wpList_load_cells (P := Try.prog) rfl 45 _ rfl ⟨w.heap.size, 2, none⟩ rfl l.msg _ (cells_part hL1 _ (msg_part l)) Try.underlying45 rfl (size_msg _) ?_) | (refine wpList_store_row (P := Try.prog) rfl 45 (.tmp 8) (.tmp 16) rfl w1.heap.size l.msg rfl rfl 45 _ (heap_alloc_new w1 _) (size_msg Letter.zero) rfl (one_msg _ hf.votes hf.items) ?_))
  refine code_from (fun wc => wc.heap[w1.heap.size]? = some (.cells l.msg 45 (0, 0)) ∧ Letter.In wc (w.heap.size + 1) Letter.zero ∧ Reply.In wc (w.heap.size + 2) Reply.zero ∧ St.At wc g s ∧ Below w.heap.size w wc)
    ⟨setRow_heap _ _ _ _ _ _ (heap_alloc_new w1 _), old_letter hO1 _ _, old_reply hR1 _ _, old_st hs1 _ _, old_below hbel1 _ _⟩ ?_
  have hsz : w.heap.size + 2 < w1.heap.size := block_lt hR1
  clear hL1 hO1 hR1 hs1 hbel1
  rintro wd ⟨hM, hO, hR, hs, hbel⟩
  obtain ⟨lsrc, ldst, lkind, lbn, lbr, lbase, lslot, lnode, lvalue, lvotes, litems, ⟨lclient, lseq, lckind, lkey, lold, lnew, lset⟩, lcode, ltext⟩ := l
  have m0 : wd.cell? ⟨w1.heap.size, 0, none⟩ = some (.int .u8 lkind) := cell_of_row wd _ 0 _ _ _ hM
  have m4 : wd.cell? ⟨w1.heap.size, 5, none⟩ = some (.int .u8 lnode) := cell_of_row wd _ 5 _ _ _ hM
  have m16 : wd.cell? ⟨w1.heap.size, 16, none⟩ = some (.int .u8 lcode) := cell_of_row wd _ 16 _ _ _ hM
  have e1 : wd.cell? ⟨g, 1, none⟩ = some (.int .i64 s.n) := st_cell hs 1
  have e11 : wd.cell? ⟨g, 11, none⟩ = some (.int .u8 s.dst) := st_cell hs 11
  have e3 : wd.cell? ⟨g, 3, none⟩ = some (.bool s.waits) := st_cell hs 3
  have f11 : wd.frozen? ⟨g, 11, none⟩ = false := frozen_of_row wd g 11 _ _ hs
  have f3 : wd.frozen? ⟨g, 3, none⟩ = false := frozen_of_row wd g 3 _ _ hs
  have hn0 : 0 ≤ lnode := hf.node0
  have hn1 : lnode < 256 := hf.node1
  have hconv : IntKind.i64.wrap lnode = lnode := by rw [IntKind.wrap_i64]; omega
  have Ho := Lib.hid ho
  have Hf := Lib.hid hf
  clear ho hf
  have hk : lkind = 2 := Hhk.out
  have hn : lcode = 3 := Hhn.out
  clear Hhk Hhn
  have hk3 : ¬ lkind = 3 := by omega
  have hka : 2 ≤ lkind := by omega
  have hkb : lkind ≤ 2 := by omega
  have hca : 3 ≤ lcode := by omega
  have hcb : lcode ≤ 3 := by omega
  have Hn := Lib.hid hn
  clear hk hn
  have Hm := Lib.hid (show s.moves ⟨lsrc, ldst, lkind, lbn, lbr, lbase, lslot, lnode, lvalue, lvotes, litems, ⟨lclient, lseq, lckind, lkey, lold, lnew, lset⟩, lcode, ltext⟩ = false from by simp [St.moves, hk3])
  have Ht := Lib.hid (show s.takes ⟨lsrc, ldst, lkind, lbn, lbr, lbase, lslot, lnode, lvalue, lvotes, litems, ⟨lclient, lseq, lckind, lkey, lold, lnew, lset⟩, lcode, ltext⟩ = false from by simp [St.takes, Hn.out])
  go_quiet (fail)
  go_upto_region 10 with fail
  refine code_from (fun wc => Letter.In wc (w.heap.size + 1) Letter.zero ∧ Reply.In wc (w.heap.size + 2) Reply.zero ∧ St.At wc g s ∧ Below w.heap.size w wc) ⟨hO, hR, hs, drawn hbel _⟩ ?_
  clear hM hO hR hs hbel m0 m4 m16 e1 e11 e3 f11 f3
  rintro wx ⟨hO, hR, hs, hbel⟩
  have hO2 : Letter.In wx.drew (w.heap.size + 1) Letter.zero := letter_drew hO
  have hR2 : wx.drew.heap[w.heap.size + 2]? = some (.cells Reply.zero.cells 43 (0, 0)) := hR
  refine wp_region_still_lit (by kernel_rfl) (by kernel_rfl) ?_
  change wpStill _ _ wx.drew _ _ _
  refine still_load rfl 47 _ rfl (w.heap.size + 1) rfl 47 Letter.zero.cells (0, 0) _ hO2 Try.underlying47 rfl (size_letter _) ?_
  refine still_load rfl 43 _ rfl (w.heap.size + 2) rfl 43 Reply.zero.cells (0, 0) _ hR2 Try.underlying43 rfl (size_reply _) ?_
  refine still_same rfl 47 _ _ rfl (w.heap.size + 1) Letter.zero.cells rfl rfl 47 hO2 (size_letter _) (one_letter _ rfl rfl) ?_
  still_step
  refine still_same rfl 43 _ _ rfl (w.heap.size + 2) Reply.zero.cells rfl rfl 43 hR2 (size_reply _) (one_reply _) ?_
  still_step
  refine wpStill_nil ?_
  change Exit.then _ _ _ _ wx.drew
  go_wp2_with fail
  exact ret_hear Letter.zero Reply.zero (w.heap.size + 1) (w.heap.size + 2) rfl rfl rfl hO2 hR2 rfl (hear_none Hm.out Ht.out (at_drew hs) hbel.drew)

set_option maxRecDepth 100000 in
set_option maxHeartbeats 1600000 in
theorem hear_other (g : Nat) (s : St) (l : Letter) (w : World) (hs : St.At w g s) (hok : s.Ok) (hf : l.Fits) (ho : s.own l = true) (hk : ¬ l.kind = 3) (hk2 : ¬ l.kind = 2) :
    Calls Try.prog 16 #[.pointer (some ⟨g, 0, none⟩), .agg l.cells] w (HearGoes g s l w) := by
  have Hhk := Lib.hid hk
  have Hhk2 := Lib.hid hk2
  clear hk hk2
  have hlt := st_lt hs
  go_enter Try.func16, Try.ntmps16
  go_upto_region 1 with fail
  refine code_from (fun wc => Letter.In wc w.heap.size l ∧ Letter.In wc (w.heap.size + 1) Letter.zero ∧ Reply.In wc (w.heap.size + 2) Reply.zero ∧ Below w.heap.size w wc) ⟨heap_three_0 _ _ _ _, heap_three_1 _ _ _ _, heap_three_2 _ _ _ _, below_three w _ _ _⟩ ?_
  rintro wc ⟨hL, hO, hR, hbel⟩
  have hs' := st_below hs hbel hlt
  go_wp2_with (refine wpList_load_row rfl 47 _ rfl w.heap.size rfl 47 l.cells (0, 0) _ hL Try.underlying47 rfl (size_letter _) ?_)
  refine (own_any g s l _ hs' hok hf.src0 hf.src1).mono ?_
  rintro e w1 ⟨he, hb⟩
  rw [ho] at he
  subst he
  have hL1 : Letter.In w1 w.heap.size l := (hb.block _ (letter_lt hL)).trans hL
  have hO1 : Letter.In w1 (w.heap.size + 1) Letter.zero := (hb.block _ (letter_lt hO)).trans hO
  have hR1 : Reply.In w1 (w.heap.size + 2) Reply.zero := (hb.block _ (block_lt hR)).trans hR
  have hs1 := st_below hs' hb (st_lt hs')
  have hbel1 := hbel.trans (hb.mono hbel.size)
  clear hL hO hR hbel hb hs' hs
  go_upto_region 4 with (first | (refine wpList_load_cells (P := Try.prog) rfl 45 _ rfl ⟨w.heap.size, 2, none⟩ rfl l.msg _ (cells_part hL1 _ (msg_part l)) Try.underlying45 rfl (size_msg _) ?_) | (refine wpList_store_row (P := Try.prog) rfl 45 (.tmp 8) (.tmp 16) rfl w1.heap.size l.msg rfl rfl 45 _ (heap_alloc_new w1 _) (size_msg Letter.zero) rfl (one_msg _ hf.votes hf.items) ?_))
  refine code_from (fun wc => wc.heap[w1.heap.size]? = some (.cells l.msg 45 (0, 0)) ∧ Letter.In wc (w.heap.size + 1) Letter.zero ∧ Reply.In wc (w.heap.size + 2) Reply.zero ∧ St.At wc g s ∧ Below w.heap.size w wc)
    ⟨setRow_heap _ _ _ _ _ _ (heap_alloc_new w1 _), old_letter hO1 _ _, old_reply hR1 _ _, old_st hs1 _ _, old_below hbel1 _ _⟩ ?_
  have hsz : w.heap.size + 2 < w1.heap.size := block_lt hR1
  clear hL1 hO1 hR1 hs1 hbel1
  rintro wd ⟨hM, hO, hR, hs, hbel⟩
  obtain ⟨lsrc, ldst, lkind, lbn, lbr, lbase, lslot, lnode, lvalue, lvotes, litems, ⟨lclient, lseq, lckind, lkey, lold, lnew, lset⟩, lcode, ltext⟩ := l
  have m0 : wd.cell? ⟨w1.heap.size, 0, none⟩ = some (.int .u8 lkind) := cell_of_row wd _ 0 _ _ _ hM
  have m4 : wd.cell? ⟨w1.heap.size, 5, none⟩ = some (.int .u8 lnode) := cell_of_row wd _ 5 _ _ _ hM
  have m16 : wd.cell? ⟨w1.heap.size, 16, none⟩ = some (.int .u8 lcode) := cell_of_row wd _ 16 _ _ _ hM
  have e1 : wd.cell? ⟨g, 1, none⟩ = some (.int .i64 s.n) := st_cell hs 1
  have e11 : wd.cell? ⟨g, 11, none⟩ = some (.int .u8 s.dst) := st_cell hs 11
  have e3 : wd.cell? ⟨g, 3, none⟩ = some (.bool s.waits) := st_cell hs 3
  have f11 : wd.frozen? ⟨g, 11, none⟩ = false := frozen_of_row wd g 11 _ _ hs
  have f3 : wd.frozen? ⟨g, 3, none⟩ = false := frozen_of_row wd g 3 _ _ hs
  have hn0 : 0 ≤ lnode := hf.node0
  have hn1 : lnode < 256 := hf.node1
  have hconv : IntKind.i64.wrap lnode = lnode := by rw [IntKind.wrap_i64]; omega
  have Ho := Lib.hid ho
  have Hf := Lib.hid hf
  clear ho hf
  have hk : ¬ lkind = 3 := Hhk.out
  have hk2 : ¬ lkind = 2 := Hhk2.out
  clear Hhk Hhk2
  have Hm := Lib.hid (show s.moves ⟨lsrc, ldst, lkind, lbn, lbr, lbase, lslot, lnode, lvalue, lvotes, litems, ⟨lclient, lseq, lckind, lkey, lold, lnew, lset⟩, lcode, ltext⟩ = false from by simp [St.moves, hk])
  have Ht := Lib.hid (show s.takes ⟨lsrc, ldst, lkind, lbn, lbr, lbase, lslot, lnode, lvalue, lvotes, litems, ⟨lclient, lseq, lckind, lkey, lold, lnew, lset⟩, lcode, ltext⟩ = false from by simp [St.takes, hk2])
  go_quiet (fail)
  go_upto_region 10 with fail
  refine code_from (fun wc => Letter.In wc (w.heap.size + 1) Letter.zero ∧ Reply.In wc (w.heap.size + 2) Reply.zero ∧ St.At wc g s ∧ Below w.heap.size w wc) ⟨hO, hR, hs, drawn hbel _⟩ ?_
  clear hM hO hR hs hbel m0 m4 m16 e1 e11 e3 f11 f3
  rintro wx ⟨hO, hR, hs, hbel⟩
  have hO2 : Letter.In wx.drew (w.heap.size + 1) Letter.zero := letter_drew hO
  have hR2 : wx.drew.heap[w.heap.size + 2]? = some (.cells Reply.zero.cells 43 (0, 0)) := hR
  refine wp_region_still_lit (by kernel_rfl) (by kernel_rfl) ?_
  change wpStill _ _ wx.drew _ _ _
  refine still_load rfl 47 _ rfl (w.heap.size + 1) rfl 47 Letter.zero.cells (0, 0) _ hO2 Try.underlying47 rfl (size_letter _) ?_
  refine still_load rfl 43 _ rfl (w.heap.size + 2) rfl 43 Reply.zero.cells (0, 0) _ hR2 Try.underlying43 rfl (size_reply _) ?_
  refine still_same rfl 47 _ _ rfl (w.heap.size + 1) Letter.zero.cells rfl rfl 47 hO2 (size_letter _) (one_letter _ rfl rfl) ?_
  still_step
  refine still_same rfl 43 _ _ rfl (w.heap.size + 2) Reply.zero.cells rfl rfl 43 hR2 (size_reply _) (one_reply _) ?_
  still_step
  refine wpStill_nil ?_
  change Exit.then _ _ _ _ wx.drew
  go_wp2_with fail
  exact ret_hear Letter.zero Reply.zero (w.heap.size + 1) (w.heap.size + 2) rfl rfl rfl hO2 hR2 rfl (hear_none Hm.out Ht.out (at_drew hs) hbel.drew)
end Go.Proofs.Ytakpkedioehjbaa
