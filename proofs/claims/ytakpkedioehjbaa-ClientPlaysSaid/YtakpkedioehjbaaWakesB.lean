/-
  THE WALK of what wakes a client, II.
-/
import Derived.Test.YtakpkedioehjbaaWakes
namespace Go.Proofs.Ytakpkedioehjbaa
open Go.RowKit Go.Maps

theorem letter_grown {w w' : World} {b g : Nat} {l : Letter} (h : Letter.In w b l) (hg : w.grownBy w' (some g)) (hne : b ≠ g) : Letter.In w' b l := (hg.block b (letter_lt h) (by intro e; injection e with e; exact hne e)).trans h
theorem reply_grown {w w' : World} {b g : Nat} {r : Reply} (h : Reply.In w b r) (hg : w.grownBy w' (some g)) (hne : b ≠ g) : Reply.In w' b r := (hg.block b (block_lt h) (by intro e; injection e with e; exact hne e)).trans h
theorem below_grown {a w w' : World} {g : Nat} (h : Below a.heap.size a w) (hg : w.grownBy w' (some g)) (hB : a.heap.size ≤ g) : Below a.heap.size a w' :=
  ⟨hg.os.trans h.os, hg.tape.trans h.tape, hg.output.trans h.output, Nat.le_trans h.size hg.size, fun k hk => (hg.block k (Nat.lt_of_lt_of_le hk h.size) (by intro e; injection e with e; omega)).trans (h.block k hk)⟩
theorem letter_below {w w' : World} {b B : Nat} {l : Letter} (h : Letter.In w b l) (hg : Below B w w') (hb : b < B) : Letter.In w' b l := (hg.block b hb).trans h
theorem reply_below {w w' : World} {b B : Nat} {l : Reply} (h : Reply.In w b l) (hg : Below B w w') (hb : b < B) : Reply.In w' b l := (hg.block b hb).trans h
theorem reply_new {w : World} {r : Reply} {cs : Array Value} : Reply.In ((w.alloc (.cells cs 43 (0, 0))).setRow w.heap.size r.cells) w.heap.size r := setRow_heap _ _ _ _ _ _ (heap_alloc_new w _)
theorem letter_new {w : World} {l : Letter} {cs : Array Value} : Letter.In ((w.alloc (.cells cs 47 (0, 0))).setRow w.heap.size l.cells) w.heap.size l := setRow_heap _ _ _ _ _ _ (heap_alloc_new w _)

theorem two_new (w : World) (A B : Obj) (cs : Array Value) : (((w.alloc A).alloc B).setRow w.heap.size cs).heap[w.heap.size + 1]? = some B := (setRow_other _ _ _ _ (by omega)).trans (heap_alloc2_new w A B)
/-- The world behind the answer of a Hear, laid down. -/
abbrev laidTwo (w : World) (A B : Obj) (cs ds : Array Value) : World := (((w.alloc A).alloc B).setRow w.heap.size cs).setRow (w.heap.size + 1) ds
theorem two_block {w : World} {A B : Obj} {cs ds : Array Value} {k : Nat} (hk : k < w.heap.size) : (laidTwo w A B cs ds).heap[k]? = w.heap[k]? :=
  (setRow_other _ _ _ _ (by omega)).trans ((setRow_other _ _ _ _ (by omega)).trans ((Below.heap_alloc (w.alloc A) B k (by simp; omega)).trans (Below.heap_alloc w A k hk)))
theorem two_letter {w : World} {l : Letter} {cs ds : Array Value} {B : Obj} : Letter.In (laidTwo w (.cells cs 47 (0, 0)) B l.cells ds) w.heap.size l :=
  (setRow_other _ _ _ _ (by omega)).trans (setRow_heap _ _ _ _ _ _ (heap_alloc2_old w _ _))
theorem two_reply {w : World} {r : Reply} {cs ds : Array Value} {A : Obj} : Reply.In (laidTwo w A (.cells cs 43 (0, 0)) ds r.cells) (w.heap.size + 1) r :=
  setRow_heap _ _ _ _ _ _ (two_new w _ _ _)
theorem two_below {a w : World} {A B : Obj} {cs ds : Array Value} (h : Below a.heap.size a w) : Below a.heap.size a (laidTwo w A B cs ds) := by
  have hz := h.size
  exact below_setRow (below_setRow ((h.alloc h.size A).alloc (by simp; omega) B) h.size cs) (by omega) ds

theorem wpList_build_to {P : Program} {ops : Array Oper} {rest : List Oper} {o : Oper} {a : Act} {w : World} {Q : Exit → Act → World → Prop} (hg : o.guard = none) (t : TypeId) (parts : Array (Nat × Operand)) (ho : o.op = .build t parts)
    (cs : Array Value) (hf : P.built t (parts.map fun (i, x) => (i, a.eval x)).toList = some cs) (h : wpList P ops Q rest (a.put o.dst (.agg cs)) w) : wpList P ops Q (o :: rest) a w :=
  wpList_build hg t parts ho (by rw [hf]; rfl) (by rw [hf]; exact h)

theorem same_get : Cmd.same ⟨1, 1, 1, ⟨#[107]⟩, ⟨#[]⟩, ⟨#[]⟩, 0⟩ ⟨1, 1, 1, ⟨#[107]⟩, ⟨#[]⟩, ⟨#[]⟩, 0⟩ = true := by simp [Cmd.same]
set_option maxRecDepth 100000 in
set_option maxHeartbeats 1600000 in
theorem wakes_any (w : World) : Calls Try.prog 8 #[] w fun r w' => r = .returned (.bool true) ∧ Below w.heap.size w w' := by
  go_enter Try.func8, Try.ntmps8
  go_wp2_with fail
  refine (new_yes 1 3 _ (by decide) (by decide) (by decide) (by decide)).mono ?_
  rintro e w1 ⟨rfl, hs1, hb1⟩
  go_wp2_with fail
  refine (get_any _).mono ?_
  rintro e w2 ⟨rfl, hb2⟩
  have hs2 : St.At w2 w.heap.size wk0 := st_below hs1 hb2 (st_lt hs1)
  have hbel2 := hb1.trans (hb2.mono hb1.size)
  clear hs1 hb1 hb2
  go_wp2_with fail
  refine (invoke_go w.heap.size wk0 getCmd _ hs2 wk0_ok rfl (by decide) get_fits).mono ?_
  rintro e w3 ⟨hnot, hgo⟩
  clear hnot
  obtain ⟨he, hU⟩ := hgo get_may
  have he : e = .returned (.tuple #[.agg wk1.asks.cells, .int .i64 0]) := he
  have hs3 : St.At w3 w.heap.size wk1 := hU.st
  have hbel3 := below_grown hbel2 hU.grown (Nat.le_refl _)
  subst he
  clear hgo hs2 hbel2 hU
  go_upto_region 5 with (first | (refine wpList_store_row (P := Try.prog) rfl 47 (.tmp 3) (.tmp 33) rfl w3.heap.size wk1.asks.cells rfl rfl 47 _ (heap_alloc_new w3 _) (size_letter _) rfl (one_letter _ rfl rfl) ?_))
  refine code_from (fun wc => Letter.In wc w3.heap.size wk1.asks ∧ St.At wc w.heap.size wk1 ∧ Below w.heap.size w wc) ⟨letter_new, old_st hs3 _ _, old_below hbel3 _ _⟩ ?_
  have hne3 := st_lt hs3
  clear hs3 hbel3
  generalize w3.heap.size = b3 at *
  rintro wc ⟨hL3, hs, hbel⟩
  clear he
  go_wp2_with fail
  refine (get_any _).mono ?_
  rintro e w2 ⟨rfl, hb2⟩
  replace hL3 := letter_below hL3 hb2 (letter_lt hL3)
  replace hs := st_below hs hb2 (st_lt hs)
  replace hbel := hbel.trans (hb2.mono hbel.size)
  clear hb2 wc
  go_wp2_with fail
  refine (invoke_waits w.heap.size wk1 getCmd _ hs rfl).mono ?_
  rintro e w4 ⟨rfl, hb4⟩
  replace hL3 := letter_below hL3 hb4 (letter_lt hL3)
  replace hs := st_below hs hb4 (st_lt hs)
  replace hbel := hbel.trans (hb4.mono hbel.size)
  clear hb4 w2
  go_upto_region 6 with (first | (refine wpList_store_row (P := Try.prog) rfl 47 (.tmp 5) (.tmp 39) rfl w4.heap.size Letter.zero.cells rfl rfl 47 _ (heap_alloc_new w4 _) (size_letter _) rfl (one_letter _ rfl rfl) ?_))
  refine code_from (fun wc => Letter.In wc b3 wk1.asks ∧ St.At wc w.heap.size wk1 ∧ Below w.heap.size w wc) ⟨old_letter hL3 _ _, old_st hs _ _, old_below hbel _ _⟩ ?_
  have hne5 := letter_lt hL3
  clear hL3 hs hbel
  generalize w4.heap.size = b5 at *
  rintro wc ⟨hL3, hs, hbel⟩
  clear w4
  go_wp2_with fail
  refine (nudge_yes w.heap.size wk1 _ hs wk1_ok rfl).mono ?_
  rintro e w4 ⟨he, hU⟩
  have he : e = .returned (.tuple #[.agg wk2.asks.cells, .int .i64 0]) := he
  replace hL3 := letter_grown hL3 hU.grown (by omega)
  replace hs : St.At w4 w.heap.size wk2 := hU.st
  replace hbel := below_grown hbel hU.grown (Nat.le_refl _)
  subst he
  clear hU wc
  go_upto_region 7 with (first | (refine wpList_store_row (P := Try.prog) rfl 47 (.tmp 7) (.tmp 44) rfl w4.heap.size wk2.asks.cells rfl rfl 47 _ (heap_alloc_new w4 _) (size_letter _) rfl (one_letter _ rfl rfl) ?_))
  refine code_from (fun wc => Letter.In wc w4.heap.size wk2.asks ∧ Letter.In wc b3 wk1.asks ∧ St.At wc w.heap.size wk2 ∧ Below w.heap.size w wc) ⟨letter_new, old_letter hL3 _ _, old_st hs _ _, old_below hbel _ _⟩ ?_
  have hne7 := letter_lt hL3
  clear hL3 hs hbel
  generalize w4.heap.size = b7 at *
  rintro wc ⟨hL7, hL3, hs, hbel⟩
  clear w4
  go_wp2_with fail
  refine (name_any _).mono ?_
  rintro e w2 ⟨rfl, hb2⟩
  replace hL3 := letter_below hL3 hb2 (letter_lt hL3)
  replace hL7 := letter_below hL7 hb2 (letter_lt hL7)
  replace hs := st_below hs hb2 (st_lt hs)
  replace hbel := hbel.trans (hb2.mono hbel.size)
  clear hb2 wc
  go_wp2_with (first | (refine wpList_build_to rfl 45 _ rfl movedLetter.msg (by kernel_rfl) ?_) | (refine wpList_build_to rfl 47 _ rfl movedLetter.cells (by kernel_rfl) ?_))
  refine (hear_any w.heap.size wk2 movedLetter _ hs wk2_ok moved_fits).mono ?_
  rintro e w4 hgo
  obtain ⟨he', hU⟩ := hgo.1 wk2_moves
  replace he : e = .returned (.tuple #[.agg wk3.asks.cells, .bool true, .agg Reply.zero.cells, .bool false]) := he'
  clear he' hgo
  replace hL3 := letter_grown hL3 hU.grown (by omega)
  have hb37 := letter_lt hL7
  replace hL7 := letter_grown hL7 hU.grown (by omega)
  replace hs : St.At w4 w.heap.size wk3 := hU.st
  replace hbel := below_grown hbel hU.grown (Nat.le_refl _)
  subst he
  clear hU hb37 w2
  go_upto_region 8 with (first | (refine wpList_store_row (P := Try.prog) rfl 47 (.tmp 9) (.tmp 52) rfl w4.heap.size wk3.asks.cells rfl rfl 47 _ (heap_alloc2_old w4 _ _) (size_letter _) rfl (one_letter _ rfl rfl) ?_) | (refine wpList_store_row (P := Try.prog) rfl 43 (.tmp 11) (.tmp 54) rfl (w4.heap.size + 1) Reply.zero.cells rfl rfl 43 _ (two_new w4 _ _ _) (size_reply _) rfl (one_reply _) ?_))
  refine code_from (fun wc => Letter.In wc w4.heap.size wk3.asks ∧ Letter.In wc b7 wk2.asks ∧ Letter.In wc b3 wk1.asks ∧ St.At wc w.heap.size wk3 ∧ Below w.heap.size w wc)
    ⟨two_letter, (two_block (letter_lt hL7)).trans hL7, (two_block (letter_lt hL3)).trans hL3, (two_block (st_lt hs)).trans hs, two_below hbel⟩ ?_
  have hne9 := letter_lt hL7
  clear hL7 hL3 hs hbel
  generalize w4.heap.size = b9 at *
  rintro wc ⟨hL9, hL7, hL3, hs, hbel⟩
  clear w4
  go_wp2_with fail
  refine (name_any _).mono ?_
  rintro e w2 ⟨rfl, hb2⟩
  replace hL9 := letter_below hL9 hb2 (letter_lt hL9)
  replace hL3 := letter_below hL3 hb2 (letter_lt hL3)
  replace hL7 := letter_below hL7 hb2 (letter_lt hL7)
  replace hs := st_below hs hb2 (st_lt hs)
  replace hbel := hbel.trans (hb2.mono hbel.size)
  clear hb2 wc
  go_wp2_with (first | (refine wpList_build_to rfl 45 _ rfl replyLetter.msg (by kernel_rfl) ?_) | (refine wpList_build_to rfl 47 _ rfl replyLetter.cells (by kernel_rfl) ?_))
  refine (hear_any w.heap.size wk3 replyLetter _ hs wk3_ok reply_fits).mono ?_
  rintro e w4 hgo
  obtain ⟨he', hU⟩ := hgo.2.1 wk3_stays wk3_takes
  have he : e = .returned (.tuple #[.agg Letter.zero.cells, .bool false, .agg replyLetter.reply.cells, .bool true]) := he'
  clear he' hgo
  replace hL3 := letter_grown hL3 hU.grown (by omega)
  replace hL7 := letter_grown hL7 hU.grown (by omega)
  replace hL9 := letter_grown hL9 hU.grown (by omega)
  replace hs : St.At w4 w.heap.size wk4 := hU.st
  replace hbel := below_grown hbel hU.grown (Nat.le_refl _)
  subst he
  clear hU w2
  go_upto_region 9 with (first | (refine wpList_store_row (P := Try.prog) rfl 47 (.tmp 13) (.tmp 63) rfl w4.heap.size Letter.zero.cells rfl rfl 47 _ (heap_alloc2_old w4 _ _) (size_letter _) rfl (one_letter _ rfl rfl) ?_) | (refine wpList_store_row (P := Try.prog) rfl 43 (.tmp 15) (.tmp 65) rfl (w4.heap.size + 1) replyLetter.reply.cells rfl rfl 43 _ (two_new w4 _ _ _) (size_reply _) rfl (one_reply _) ?_))
  refine code_from (fun wc => Reply.In wc (w4.heap.size + 1) replyLetter.reply ∧ Letter.In wc b9 wk3.asks ∧ Letter.In wc b7 wk2.asks ∧ Letter.In wc b3 wk1.asks ∧ St.At wc w.heap.size wk4 ∧ Below w.heap.size w wc)
    ⟨two_reply, (two_block (letter_lt hL9)).trans hL9, (two_block (letter_lt hL7)).trans hL7, (two_block (letter_lt hL3)).trans hL3, (two_block (st_lt hs)).trans hs, two_below hbel⟩ ?_
  have hne13 := letter_lt hL9
  clear hL9 hL7 hL3 hs hbel
  generalize w4.heap.size = b13 at *
  rintro wc ⟨hR, hL9, hL7, hL3, hs, hbel⟩
  clear w4
  go_wp2_with fail
  refine (waits_any w.heap.size wk4 _ hs).mono ?_
  rintro e w2 ⟨he, hb2⟩
  have he : e = .returned (.tuple #[.agg Cmd.zero.cells, .bool false]) := he
  replace hR := reply_below hR hb2 (block_lt hR)
  replace hL9 := letter_below hL9 hb2 (letter_lt hL9)
  replace hL3 := letter_below hL3 hb2 (letter_lt hL3)
  replace hL7 := letter_below hL7 hb2 (letter_lt hL7)
  replace hbel := hbel.trans (hb2.mono hbel.size)
  clear hb2 hs wc
  subst he
  go_upto_region 10 with (first | (refine wpList_store_row (P := Try.prog) rfl 36 (.tmp 17) (.tmp 70) rfl w2.heap.size Cmd.zero.cells rfl rfl 36 _ (heap_alloc_new w2 _) (size_cmd _) rfl (one_cmd _) ?_))
  refine code_from (fun wc => Reply.In wc (b13 + 1) replyLetter.reply ∧ Letter.In wc b9 wk3.asks ∧ Letter.In wc b7 wk2.asks ∧ Letter.In wc b3 wk1.asks ∧ Below w.heap.size w wc)
    ⟨old_reply hR _ _, old_letter hL9 _ _, old_letter hL7 _ _, old_letter hL3 _ _, old_below hbel _ _⟩ ?_
  clear hR hL9 hL7 hL3 hbel
  rintro wc ⟨hR, hL9, hL7, hL3, hbel⟩
  have r1 : wc.cell? ⟨b13 + 1, 1, none⟩ = some (.string ⟨#[120]⟩) := cell_of_row wc _ 1 _ _ _ hR
  have d1 : wc.cell? ⟨b9, 1, none⟩ = some (.int .u8 0) := cell_of_row wc _ 1 _ _ _ hL9
  have n1 : wc.cell? ⟨b7, 1, none⟩ = some (.int .u8 2) := cell_of_row wc _ 1 _ _ _ hL7
  have a1 : wc.cell? ⟨b3, 1, none⟩ = some (.int .u8 1) := cell_of_row wc _ 1 _ _ _ hL3
  have a0 : wc.cell? ⟨b3, 0, none⟩ = some (.int .u8 17) := cell_of_row wc _ 0 _ _ _ hL3
  have c0 : wc.cell? ⟨b3, 11, none⟩ = some (.int .u8 1) := cell_of_row wc _ 11 _ _ _ hL3
  have c1 : wc.cell? ⟨b3, 12, none⟩ = some (.int .u32 1) := cell_of_row wc _ 12 _ _ _ hL3
  have c2 : wc.cell? ⟨b3, 13, none⟩ = some (.int .u8 1) := cell_of_row wc _ 13 _ _ _ hL3
  have c3 : wc.cell? ⟨b3, 14, none⟩ = some (.string ⟨#[107]⟩) := cell_of_row wc _ 14 _ _ _ hL3
  have c4 : wc.cell? ⟨b3, 15, none⟩ = some (.string ⟨#[]⟩) := cell_of_row wc _ 15 _ _ _ hL3
  have c5 : wc.cell? ⟨b3, 16, none⟩ = some (.string ⟨#[]⟩) := cell_of_row wc _ 16 _ _ _ hL3
  have c6 : wc.cell? ⟨b3, 17, none⟩ = some (.int .u8 0) := cell_of_row wc _ 17 _ _ _ hL3
  clear hR hL9 hL7 hL3
  have hgd := guard_cmd
  have heq := eq_cmd ⟨1, 1, 1, ⟨#[107]⟩, ⟨#[]⟩, ⟨#[]⟩, 0⟩ ⟨1, 1, 1, ⟨#[107]⟩, ⟨#[]⟩, ⟨#[]⟩, 0⟩
  rw [same_get] at heq
  simp only [Cmd.cells] at heq
  go_wp2_with fail
  go_ret
  exact ⟨rfl, hbel⟩
end Go.Proofs.Ytakpkedioehjbaa
