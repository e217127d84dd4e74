/-
  THE WALK of the law ClientOnce.
-/
import Derived.Test.YtakpkedioehjbaaOnceA
namespace Go.Proofs.Ytakpkedioehjbaa
open Go.RowKit Go.Maps Go.BigFrame

set_option maxRecDepth 100000 in
set_option maxHeartbeats 16000000 in
theorem once_go (id n : Int) (L : List Deed) (a : Addr) (cap : Nat) (w : World) (hL : DeedsAt w a L) (hn : L.length < 2 ^ 63) (hfit : ∀ d ∈ L, d.Fits) (hid0 : 0 ≤ id) (h1 : id < 4) (h2 : 1 ≤ n) (h3 : n ≤ 7) :
    Calls Try.prog 5 #[.int .u8 id, .int .i64 n, .slice (some a) L.length cap] w fun r w' => r = .returned (.bool true) ∧ Below w.heap.size w w' := by
  have HL := Lib.hid hL
  have HF := Lib.hid hfit
  clear hL hfit
  go_enter Try.func5, Try.ntmps5
  go_wp2_with fail
  refine (great_any L a cap _ HL.out hn HF.out).mono ?_
  rintro e w1 ⟨⟨b, rfl, hb⟩, hbel1⟩
  cases b with
  | true =>
    go_wp2_with fail
    refine (wakes_any _).mono ?_
    rintro e w' ⟨rfl, hb⟩
    go_wp2_with fail
    go_ret
    exact ⟨rfl, hbel1.trans (hb.mono hbel1.size)⟩
  | false =>
    have h200 := hb rfl
    clear hb hn
    go_wp2_with fail
    refine (new_yes id n _ hid0 h1 h2 h3).mono ?_
    rintro e w2 ⟨rfl, hs2, hb2⟩
    have hbel2 := hbel1.trans (hb2.mono hbel1.size)
    have hg0 := hbel1.size
    clear hb2 hbel1
    generalize w1.heap.size = g at *
    clear w1
    go_wp2_with fail
    go_loopg [9, 10, 11] L.length (fun m s9 s10 s11 wr => ∃ (k : Nat) (s : St) (t : Int), k ≤ L.length ∧ m = L.length - k ∧ s9 = .int .u32 s.seq ∧ s10 = .int .u32 t ∧ s11 = .int .i64 (k : Int) ∧ Good id n s ∧ Took s t ∧ s.seq ≤ (k : Int) ∧ St.At wr g s ∧ Below w.heap.size w wr)
    case atStart => exact ⟨0, St.new id n, 0, by omega, rfl, rfl, rfl, rfl, good_new hid0 h1 h2 h3, ⟨by decide, fun h => (by cases h), fun _ => rfl⟩, by show (0 : Int) ≤ 0; decide, hs2, hbel2⟩
    case round =>
      clear hs2 hbel2
      obtain ⟨k, s, t, hk, rfl, rfl, rfl, rfl, hG, hT, hsk, hs, hbel⟩ := hrel
      by_cases hlt : k < L.length
      · go_wp2_with fail
        refine (waits_any g s _ hs).mono ?_
        rintro e w3 ⟨rfl, hb⟩
        replace hs := st_below hs hb (st_lt hs)
        replace hbel := hbel.trans (hb.mono hbel.size)
        clear hb wr
        go_upto_region 13 with (first | (refine wpList_store_row (P := Try.prog) rfl 36 (.tmp 12) (.tmp 62) rfl w3.heap.size s.waiting.cells rfl rfl 36 _ (heap_alloc_new w3 _) (size_cmd _) rfl (one_cmd _) ?_))
        have hgb := st_lt hs
        refine code_from (fun wc => Cmd.In wc w3.heap.size s.waiting ∧ Letter.In wc (w3.heap.size + 1) Letter.zero ∧ St.At wc g s ∧ Below w.heap.size w wc)
          ⟨cmd_old cmd_new _, letter_made rfl, st_alloc (old_st hs _ _) _, (old_below hbel _ _).alloc (by simp; omega) _⟩ ?_
        clear hs hbel
        generalize w3.heap.size = b at *
        clear w3
        rintro wc ⟨hC, hO, hs, hbel⟩
        have hd : L[k]? = some L[k] := List.getElem?_eq_getElem hlt
        have fd := HF.out L[k] (List.getElem_mem hlt)
        generalize L[k] = d at hd fd
        have HD : Hid (∀ wx, Below w.heap.size w wx → ∀ (j : Nat) (v : Value), d.cells[j]? = some v → wx.cell? (a.add (k * 28 + j)) = some v) := Lib.hid (fun wx hb j v hv => deeds_below HL.out hb k d hd j v hv)
        have fd' := Lib.hid fd
        clear hd fd
        generalize hq : a.add (k * 28) = q
        obtain ⟨qb, qo, qs⟩ := q
        have c0 : wc.cell? ⟨qb, qo, qs⟩ = some (.int .u8 d.act) := by
          have h := HD.out wc hbel 0 _ rfl
          rw [Nat.add_zero, hq] at h
          exact h
        go_upto_block 2 with fail
        go_cut [9, 10, 13, 15] (fun s9 s10 s13 s15 wx => ∃ (s' : St) (t' : Int) (o : Letter) (ask : Bool), s9 = .int .u32 s'.seq ∧ s10 = .int .u32 t' ∧ s13 = .bool s.waits ∧ s15 = .bool ask ∧ Step id n k s s' t' o ask ∧ Cmd.In wx b s.waiting ∧ Letter.In wx (b + 1) o ∧ St.At wx g s' ∧ Below w.heap.size w wx)
        case first =>
          have Hfit := fd'
          clear fd'
          by_cases ha0 : d.act = 0
          · as_aux_lemma =>
            have t0 : (d.act == 0) = true := by simp [ha0]
            clear ha0
            cases hw : s.waits with
            | true =>
              have Hw := Lib.hid hw
              clear hw
              go_wp2_with (refine wpList_load_cells (P := Try.prog) rfl 36 _ rfl ⟨qb, qo + 1, none⟩ rfl d.x.cells _ (deed_cmd_part (HD.out wc hbel) hq) Try.underlying36 rfl (size_cmd _) ?_)
              refine (invoke_waits g s d.x _ hs Hw.out).mono ?_
              rintro e w4 ⟨rfl, hb⟩
              replace hC := cmd_below hC hb (block_lt hC)
              replace hO := letter_below hO hb (letter_lt hO)
              replace hs := st_below hs hb (st_lt hs)
              replace hbel := hbel.trans (hb.mono hbel.size)
              clear hb c0 wc
              go_wp2_with (first | (refine wpList_store_row (P := Try.prog) rfl 47 (.tmp 16) (.tmp 152) rfl w4.heap.size Letter.zero.cells rfl rfl 47 _ (heap_alloc_new w4 _) (size_letter _) rfl (one_letter _ rfl rfl) ?_))
              go_meet
              case rel => exact ⟨s, t, Letter.zero, false, rfl, rfl, by rw [Hw.out], rfl, step_stay hG hT hsk _, cmd_row hC _ _, old_letter hO _ _, old_st hs _ _, old_below hbel _ _⟩
            | false =>
              have Hw := Lib.hid hw
              clear hw
              go_wp2_with (refine wpList_load_cells (P := Try.prog) rfl 36 _ rfl ⟨qb, qo + 1, none⟩ rfl d.x.cells _ (deed_cmd_part (HD.out wc hbel) hq) Try.underlying36 rfl (size_cmd _) ?_)
              refine (invoke_go g s d.x _ hs hG.ok Hw.out (by omega) Hfit.out.x).mono ?_
              rintro e w4 ⟨hno, hyes⟩
              cases hm : (s.named d.x).mayB with
              | false =>
                obtain ⟨rfl, hU⟩ := hno hm
                clear hno hyes hm c0
                have hgr := hU.grown
                replace hC := cmd_upd hC hgr (by omega)
                replace hO := letter_grown hO hgr (by omega)
                replace hs := hU.st
                replace hbel := below_grown hbel hgr hg0
                clear hU hgr wc
                go_wp2_with (first | (refine wpList_store_row (P := Try.prog) rfl 47 (.tmp 16) (.tmp 152) rfl w4.heap.size Letter.zero.cells rfl rfl 47 _ (heap_alloc_new w4 _) (size_letter _) rfl (one_letter _ rfl rfl) ?_))
                go_meet
                case rel => exact ⟨s, t, Letter.zero, false, rfl, rfl, by rw [Hw.out], rfl, step_stay hG hT hsk _, cmd_row hC _ _, old_letter hO _ _, old_st hs _ _, old_below hbel _ _⟩
              | true =>
                obtain ⟨rfl, hU⟩ := hyes hm
                clear hno hyes hm c0
                have hgr := hU.grown
                replace hC := cmd_upd hC hgr (by omega)
                replace hO := letter_grown hO hgr (by omega)
                replace hs := hU.st
                replace hbel := below_grown hbel hgr hg0
                clear hU hgr wc
                have hq0 := hG.ok.seq0
                go_wp2_with (first | (refine wpList_store_row (P := Try.prog) rfl 47 (.tmp 16) (.tmp 152) rfl w4.heap.size (s.invoked d.x).asks.cells rfl rfl 47 _ (heap_alloc_new w4 _) (size_letter _) rfl (one_letter _ rfl rfl) ?_) | (refine wpList_load_row rfl 47 (.tmp 16) rfl w4.heap.size rfl 47 (s.invoked d.x).asks.cells (0, 0) _ letter_new Try.underlying47 rfl (size_letter _) ?_) | (refine wpList_store_row (P := Try.prog) rfl 47 (.tmp 14) (.tmp 162) rfl (b + 1) (s.invoked d.x).asks.cells rfl rfl 47 _ (old_letter hO _ _) (size_letter _) rfl (one_letter _ rfl rfl) ?_))
                go_meet
                case rel =>
                  exact ⟨s.invoked d.x, t, (s.invoked d.x).asks, true, rfl, rfl, by rw [Hw.out], rfl, step_invoked hG hT hsk (by omega) Hw.out, (setRow_other _ _ _ _ (by omega)).trans (cmd_row hC _ _), setRow_heap _ _ _ _ _ _ (old_letter hO _ _),
                    st_row (old_st hs _ _) (by omega) _, below_setRow (old_below hbel _ _) (by omega) _⟩
          · have t0 : (d.act == 0) = false := by simp [ha0]
            clear ha0
            by_cases ha1 : d.act = 1
            · as_aux_lemma =>
              have t1 : (d.act == 1) = true := by simp [ha1]
              clear ha1
              cases hw : s.waits with
              | true =>
                have Hw := Lib.hid hw
                clear hw
                go_wp2_with fail
                refine (nudge_yes g s _ hs hG.ok Hw.out).mono ?_
                rintro e w4 ⟨rfl, hU⟩
                have hgr := hU.grown
                replace hC := cmd_upd hC hgr (by omega)
                replace hO := letter_grown hO hgr (by omega)
                replace hs := hU.st
                replace hbel := below_grown hbel hgr hg0
                clear hU hgr c0 wc
                go_wp2_with (first | (refine wpList_store_row (P := Try.prog) rfl 47 (.tmp 18) (.tmp 168) rfl w4.heap.size s.nudged.asks.cells rfl rfl 47 _ (heap_alloc_new w4 _) (size_letter _) rfl (one_letter _ rfl rfl) ?_) | (refine wpList_load_row rfl 47 (.tmp 18) rfl w4.heap.size rfl 47 s.nudged.asks.cells (0, 0) _ letter_new Try.underlying47 rfl (size_letter _) ?_) | (refine wpList_store_row (P := Try.prog) rfl 47 (.tmp 14) (.tmp 174) rfl (b + 1) s.nudged.asks.cells rfl rfl 47 _ (old_letter hO _ _) (size_letter _) rfl (one_letter _ rfl rfl) ?_))
                go_meet
                case rel =>
                  exact ⟨s.nudged, t, s.nudged.asks, true, rfl, rfl, by rw [Hw.out], rfl, step_nudged hG hT hsk Hw.out, (setRow_other _ _ _ _ (by omega)).trans (cmd_row hC _ _), setRow_heap _ _ _ _ _ _ (old_letter hO _ _),
                    st_row (old_st hs _ _) (by omega) _, below_setRow (old_below hbel _ _) (by omega) _⟩
              | false =>
                have Hw := Lib.hid hw
                clear hw
                go_wp2_with fail
                refine (nudge_no g s _ hs Hw.out).mono ?_
                rintro e w4 ⟨rfl, hb⟩
                replace hC := cmd_below hC hb (block_lt hC)
                replace hO := letter_below hO hb (letter_lt hO)
                replace hs := st_below hs hb (st_lt hs)
                replace hbel := hbel.trans (hb.mono hbel.size)
                clear hb c0 wc
                go_wp2_with (first | (refine wpList_store_row (P := Try.prog) rfl 47 (.tmp 18) (.tmp 168) rfl w4.heap.size Letter.zero.cells rfl rfl 47 _ (heap_alloc_new w4 _) (size_letter _) rfl (one_letter _ rfl rfl) ?_) | (refine wpList_load_row rfl 47 (.tmp 18) rfl w4.heap.size rfl 47 Letter.zero.cells (0, 0) _ letter_new Try.underlying47 rfl (size_letter _) ?_) | (refine wpList_store_row (P := Try.prog) rfl 47 (.tmp 14) (.tmp 174) rfl (b + 1) Letter.zero.cells rfl rfl 47 _ (old_letter hO _ _) (size_letter _) rfl (one_letter _ rfl rfl) ?_))
                go_meet
                case rel =>
                  exact ⟨s, t, Letter.zero, false, rfl, rfl, by rw [Hw.out], rfl, step_stay hG hT hsk _, (setRow_other _ _ _ _ (by omega)).trans (cmd_row hC _ _), setRow_heap _ _ _ _ _ _ (old_letter hO _ _),
                    st_row (old_st hs _ _) (by omega) _, below_setRow (old_below hbel _ _) (by omega) _⟩
            · as_aux_lemma =>
              have t1 : (d.act == 1) = false := by simp [ha1]
              clear ha1
              go_wp2_with (refine wpList_load_cells (P := Try.prog) rfl 47 _ rfl ⟨qb, qo + 8, none⟩ rfl d.l.cells _ (deed_letter_part (HD.out wc hbel) hq) Try.underlying47 rfl (size_letter _) ?_)
              refine (hear_any g s d.l _ hs hG.ok Hfit.out.l).mono ?_
              rintro e w4 ⟨hmv, htk, hno⟩
              cases hm : s.moves d.l with
              | true =>
                obtain ⟨rfl, hU⟩ := hmv hm
                clear hmv htk hno c0 t0 t1
                have hw := moves_waits hm
                have Hm := Lib.hid hm
                clear hm
                have Hw := Lib.hid hw
                clear hw
                have hgr := hU.grown
                replace hC := cmd_upd hC hgr (by omega)
                replace hO := letter_grown hO hgr (by omega)
                replace hs := hU.st
                replace hbel := below_grown hbel hgr hg0
                clear hU hgr wc
                go_upto_region 15 with (first | (refine wpList_store_row (P := Try.prog) rfl 47 (.tmp 20) (.tmp 77) rfl w4.heap.size (s.heardMoved d.l).asks.cells rfl rfl 47 _ (heap_alloc2_old w4 _ _) (size_letter _) rfl (one_letter _ rfl rfl) ?_) | (refine wpList_store_row (P := Try.prog) rfl 43 (.tmp 22) (.tmp 79) rfl (w4.heap.size + 1) Reply.zero.cells rfl rfl 43 _ (two_new w4 _ _ _) (size_reply _) rfl (one_reply _) ?_))
                refine code_from (fun wx => Letter.In wx w4.heap.size (s.heardMoved d.l).asks ∧ Reply.In wx (w4.heap.size + 1) Reply.zero ∧ Cmd.In wx b s.waiting ∧ Letter.In wx (b + 1) Letter.zero ∧ St.At wx g (s.heardMoved d.l) ∧ Below w.heap.size w wx)
                  ⟨two_letter, two_reply, (two_block (block_lt hC)).trans hC, (two_block (letter_lt hO)).trans hO, (two_block (st_lt hs)).trans hs, two_below hbel⟩ ?_
                have hlt4 := letter_lt hO
                clear hC hO hs hbel
                generalize w4.heap.size = b4 at *
                clear w4
                rintro wd ⟨hP, hR, hC, hO, hs, hbel⟩
                go_upto_region 17 with (first | (refine wpList_load_row rfl 47 (.tmp 20) rfl b4 rfl 47 (s.heardMoved d.l).asks.cells (0, 0) _ hP Try.underlying47 rfl (size_letter _) ?_) | (refine wpList_store_row (P := Try.prog) rfl 47 (.tmp 14) (.tmp 81) rfl (b + 1) (s.heardMoved d.l).asks.cells rfl rfl 47 _ hO (size_letter _) rfl (one_letter _ rfl rfl) ?_))
                refine code_from (fun wx => Reply.In wx (b4 + 1) Reply.zero ∧ Cmd.In wx b s.waiting ∧ Letter.In wx (b + 1) (s.heardMoved d.l).asks ∧ St.At wx g (s.heardMoved d.l) ∧ Below w.heap.size w wx)
                  ⟨(setRow_other _ _ _ _ (by omega)).trans hR, (setRow_other _ _ _ _ (by omega)).trans hC, setRow_heap _ _ _ _ _ _ hO, st_row hs (by omega) _, below_setRow hbel (by omega) _⟩ ?_
                clear hP hR hC hO hs hbel wd
                rintro wc ⟨hR, hC, hO, hs, hbel⟩
                have HC := Lib.hid hC
                clear hC
                have hw := Hw.out
                go_quiet (fail)
                go_wp2_with fail
                go_meet
                case rel => exact ⟨s.heardMoved d.l, t, (s.heardMoved d.l).asks, true, rfl, rfl, by rw [Hw.out], rfl, step_moved hG hT hsk Hfit.out.l Hm.out, HC.out, hO, hs, drawn hbel _⟩
              | false =>
                cases ht : s.takes d.l with
                | true =>
                  obtain ⟨rfl, hU⟩ := htk hm ht
                  obtain ⟨hw, hts, htk2, htc⟩ := takes_own ht
                  clear hmv htk hno c0 t0 t1 hm ht
                  have Hw := Lib.hid hw
                  have Hts := Lib.hid hts
                  have Htk := Lib.hid htk2
                  have tc : (d.l.code == 3) = false := by simp [htc]
                  clear hw hts htk2 htc
                  have hgr := hU.grown
                  replace hC := cmd_upd hC hgr (by omega)
                  replace hO := letter_grown hO hgr (by omega)
                  replace hs := hU.st
                  replace hbel := below_grown hbel hgr hg0
                  clear hU hgr wc
                  go_upto_region 15 with (first | (refine wpList_store_row (P := Try.prog) rfl 47 (.tmp 20) (.tmp 77) rfl w4.heap.size Letter.zero.cells rfl rfl 47 _ (heap_alloc2_old w4 _ _) (size_letter _) rfl (one_letter _ rfl rfl) ?_) | (refine wpList_store_row (P := Try.prog) rfl 43 (.tmp 22) (.tmp 79) rfl (w4.heap.size + 1) d.l.reply.cells rfl rfl 43 _ (two_new w4 _ _ _) (size_reply _) rfl (one_reply _) ?_))
                  refine code_from (fun wx => Letter.In wx w4.heap.size Letter.zero ∧ Reply.In wx (w4.heap.size + 1) d.l.reply ∧ Cmd.In wx b s.waiting ∧ Letter.In wx (b + 1) Letter.zero ∧ St.At wx g s.heardReply ∧ Below w.heap.size w wx)
                    ⟨two_letter, two_reply, (two_block (block_lt hC)).trans hC, (two_block (letter_lt hO)).trans hO, (two_block (st_lt hs)).trans hs, two_below hbel⟩ ?_
                  have hlt4 := letter_lt hO
                  clear hC hO hs hbel
                  generalize w4.heap.size = b4 at *
                  clear w4
                  rintro wd ⟨hP, hR, hC, hO, hs, hbel⟩
                  go_upto_region 17 with (first | (refine wpList_load_row rfl 47 (.tmp 20) rfl b4 rfl 47 Letter.zero.cells (0, 0) _ hP Try.underlying47 rfl (size_letter _) ?_) | (refine wpList_store_row (P := Try.prog) rfl 47 (.tmp 14) (.tmp 81) rfl (b + 1) Letter.zero.cells rfl rfl 47 _ hO (size_letter _) rfl (one_letter _ rfl rfl) ?_))
                  refine code_from (fun wx => Reply.In wx (b4 + 1) d.l.reply ∧ Cmd.In wx b s.waiting ∧ Letter.In wx (b + 1) Letter.zero ∧ St.At wx g s.heardReply ∧ Below w.heap.size w wx)
                    ⟨(setRow_other _ _ _ _ (by omega)).trans hR, (setRow_other _ _ _ _ (by omega)).trans hC, setRow_heap _ _ _ _ _ _ hO, st_row hs (by omega) _, below_setRow hbel (by omega) _⟩ ?_
                  clear hP hR hC hO hs hbel wd
                  rintro wc ⟨hR, hC, hO, hs, hbel⟩
                  have HC := Lib.hid hC
                  rw [waiting_yes Hw.out] at hC
                  have m1 := (cmd_reads hC).2.1
                  rw [(hG.own Hw.out).1] at m1
                  clear hC
                  have r0 : wc.cell? ⟨b4 + 1, 0, none⟩ = some (.int .u8 d.l.code) := cell_of_row wc _ 0 _ _ _ hR
                  have r1 : wc.cell? ⟨b4 + 1, 1, none⟩ = some (.string d.l.text) := cell_of_row wc _ 1 _ _ _ hR
                  have HD' := HD.out wc hbel
                  have k0 : wc.cell? ⟨qb, qo + 8 + 2, none⟩ = some (.int .u8 d.l.kind) := deed_cell HD' hq 9 (by omega) rfl
                  have k1 : wc.cell? ⟨qb, qo + 8 + 2 + 9 + 1, none⟩ = some (.int .u32 d.l.cmd.seq) := deed_cell HD' hq 19 (by omega) rfl
                  have k2 : wc.cell? ⟨qb, qo + 8 + 2 + 16, none⟩ = some (.int .u8 d.l.code) := deed_cell HD' hq 25 (by omega) rfl
                  have k3 : wc.cell? ⟨qb, qo + 8 + 2 + 16 + 1, none⟩ = some (.string d.l.text) := deed_cell HD' hq 26 (by omega) rfl
                  rw [Htk.out] at k0
                  rw [Hts.out] at k1
                  clear HD'
                  have hne : ∀ wx, (binOp .neq 43 (.agg #[.int .u8 d.l.code, .string d.l.text]) (.agg #[.int .u8 d.l.code, .string d.l.text])).run Try.prog wx = .ok (.bool false) wx := fun wx => reply_self d.l.reply wx
                  have hgc := guard_reply
                  have ht0 := hT.1
                  have ht1 : t ≤ 200 := by have := hT.2.1 Hw.out; omega
                  have hw := Hw.out
                  go_quiet (fail)
                  go_wp2_with fail
                  go_meet
                  case rel => exact ⟨s.heardReply, t + 1, Letter.zero, false, rfl, rfl, by rw [Hw.out], rfl, step_reply hG hT hsk Hw.out _, HC.out, hO, hs, drawn hbel _⟩
                | false =>
                  obtain ⟨rfl, hU⟩ := hno hm ht
                  clear hmv htk hno c0 t0 t1 hm ht
                  have hgr := hU.grown
                  replace hC := cmd_upd hC hgr (by omega)
                  replace hO := letter_grown hO hgr (by omega)
                  replace hs := hU.st
                  replace hbel := below_grown hbel hgr hg0
                  clear hU hgr wc
                  go_upto_region 15 with (first | (refine wpList_store_row (P := Try.prog) rfl 47 (.tmp 20) (.tmp 77) rfl w4.heap.size Letter.zero.cells rfl rfl 47 _ (heap_alloc2_old w4 _ _) (size_letter _) rfl (one_letter _ rfl rfl) ?_) | (refine wpList_store_row (P := Try.prog) rfl 43 (.tmp 22) (.tmp 79) rfl (w4.heap.size + 1) Reply.zero.cells rfl rfl 43 _ (two_new w4 _ _ _) (size_reply _) rfl (one_reply _) ?_))
                  refine code_from (fun wx => Letter.In wx w4.heap.size Letter.zero ∧ Reply.In wx (w4.heap.size + 1) Reply.zero ∧ Cmd.In wx b s.waiting ∧ Letter.In wx (b + 1) Letter.zero ∧ St.At wx g s ∧ Below w.heap.size w wx)
                    ⟨two_letter, two_reply, (two_block (block_lt hC)).trans hC, (two_block (letter_lt hO)).trans hO, (two_block (st_lt hs)).trans hs, two_below hbel⟩ ?_
                  have hlt4 := letter_lt hO
                  clear hC hO hs hbel
                  generalize w4.heap.size = b4 at *
                  clear w4
                  rintro wd ⟨hP, hR, hC, hO, hs, hbel⟩
                  go_upto_region 17 with (first | (refine wpList_load_row rfl 47 (.tmp 20) rfl b4 rfl 47 Letter.zero.cells (0, 0) _ hP Try.underlying47 rfl (size_letter _) ?_) | (refine wpList_store_row (P := Try.prog) rfl 47 (.tmp 14) (.tmp 81) rfl (b + 1) Letter.zero.cells rfl rfl 47 _ hO (size_letter _) rfl (one_letter _ rfl rfl) ?_))
                  refine code_from (fun wx => Reply.In wx (b4 + 1) Reply.zero ∧ Cmd.In wx b s.waiting ∧ Letter.In wx (b + 1) Letter.zero ∧ St.At wx g s ∧ Below w.heap.size w wx)
                    ⟨(setRow_other _ _ _ _ (by omega)).trans hR, (setRow_other _ _ _ _ (by omega)).trans hC, setRow_heap _ _ _ _ _ _ hO, st_row hs (by omega) _, below_setRow hbel (by omega) _⟩ ?_
                  clear hP hR hC hO hs hbel wd
                  rintro wc ⟨hR, hC, hO, hs, hbel⟩
                  have HC := Lib.hid hC
                  clear hC
                  go_quiet (fail)
                  go_wp2_with fail
                  go_meet
                  case rel => exact ⟨s, t, Letter.zero, false, rfl, rfl, rfl, rfl, step_stay hG hT hsk _, HC.out, hO, hs, drawn hbel _⟩
        case rest => as_aux_lemma =>
          clear hC hO hs hbel c0
          obtain ⟨s', t', o, ask, rfl, rfl, rfl, rfl, hst, hC, hO, hs, hbel⟩ := hcut
          go_wp2_with fail
          refine (waits_any g s' _ hs).mono ?_
          rintro e w4 ⟨rfl, hb⟩
          replace hC := cmd_below hC hb (block_lt hC)
          replace hO := letter_below hO hb (letter_lt hO)
          replace hs := st_below hs hb (st_lt hs)
          replace hbel := hbel.trans (hb.mono hbel.size)
          clear hb wc
          go_upto_region 36 with (first | (refine wpList_store_row (P := Try.prog) rfl 36 (.tmp 24) (.tmp 179) rfl w4.heap.size s'.waiting.cells rfl rfl 36 _ (heap_alloc_new w4 _) (size_cmd _) rfl (one_cmd _) ?_))
          refine code_from (fun wx => Cmd.In wx w4.heap.size s'.waiting ∧ Cmd.In wx b s.waiting ∧ Letter.In wx (b + 1) o ∧ St.At wx g s' ∧ Below w.heap.size w wx)
            ⟨cmd_new, cmd_row hC _ _, old_letter hO _ _, old_st hs _ _, old_below hbel _ _⟩ ?_
          clear hC hO hs hbel
          generalize w4.heap.size = b4 at *
          clear w4
          rintro wc ⟨hN, hC, hO, hs, hbel⟩
          have hgood := hst.good
          have htook := hst.took
          have hout := hst.out
          have hsame := hst.same
          have hseq := hst.seq
          have hsum := u8_add id hid0 h1
          clear hst HD fd' hq
          have ht0 := htook.1
          cases hw' : s'.waits with
          | false =>
            have hask : ask = false := by
              cases ask
              · rfl
              · exact absurd ((hout rfl).2.symm.trans hw') (by decide)
            subst hask
            have hrel : t' = s'.seq := htook.2.2 hw'
            have hlow : t' ≤ s'.seq := by omega
            have hsub := wrap_none hrel
            have Hg := Lib.hid hgood
            have Ht := Lib.hid htook
            clear hout hsame hgood htook hN hC hO hw' hrel hG hT
            cases s.waits with
            | false =>
              as_aux_lemma =>
                go_wp2_with fail
                go_roundg (L.length - (k + 1))
                case measure => omega
                case rel => exact ⟨k + 1, s', t', by omega, rfl, rfl, rfl, by go_num, Hg.out, Ht.out, by push_cast; omega, hs, hbel⟩
            | true =>
              as_aux_lemma =>
                go_wp2_with fail
                go_roundg (L.length - (k + 1))
                case measure => omega
                case rel => exact ⟨k + 1, s', t', by omega, rfl, rfl, rfl, by go_num, Hg.out, Ht.out, by push_cast; omega, hs, hbel⟩
          | true =>
            have hrel : t' + 1 = s'.seq := htook.2.1 hw'
            have hlow : t' < s'.seq := by omega
            have hsub := wrap_one hrel
            have hx := good_cmd hgood hw'
            have hie := hgood.idE
            have hd0 : 0 ≤ s'.dst := hgood.ok.dst0
            have hd1 : s'.dst < n := by rw [← hgood.nE]; exact hgood.ok.dst1
            have hconv : IntKind.i64.wrap s'.dst = s'.dst := by rw [IntKind.wrap_i64]; omega
            have hne : ∀ wx, (binOp .neq 36 (.agg #[.int .u8 id, .int .u32 s'.seq, .int .u8 s'.x.kind, .string s'.x.key, .string s'.x.old, .string s'.x.new, .int .u8 s'.x.set]) (.agg #[.int .u8 id, .int .u32 s'.seq, .int .u8 s'.x.kind, .string s'.x.key, .string s'.x.old, .string s'.x.new, .int .u8 s'.x.set])).run Try.prog wx = .ok (.bool false) wx :=
              fun wx => ne_self ⟨id, s'.seq, s'.x.kind, s'.x.key, s'.x.old, s'.x.new, s'.x.set⟩ wx
            have hgc := guard_cmd
            rw [waiting_yes hw', hx] at hN
            obtain ⟨n0, n1, n2, n3, n4, n5, n6⟩ := cmd_reads hN
            dsimp only at n0 n1 n2 n3 n4 n5 n6
            have Hg := Lib.hid hgood
            have Ht := Lib.hid htook
            clear hgood htook hrel hN hG hT ht0
            cases ask with
            | false =>
              clear hout hO
              cases hsw : s.waits with
              | false =>
                clear hC hsame hx hie hw' hsw
                as_aux_lemma =>
                  go_wp2_with fail
                  go_roundg (L.length - (k + 1))
                  case measure => omega
                  case rel => exact ⟨k + 1, s', t', by omega, rfl, rfl, rfl, by go_num, Hg.out, Ht.out, by push_cast; omega, hs, hbel⟩
              | true =>
                rw [waiting_yes hsw, ← hsame hsw hw', hx] at hC
                obtain ⟨m0, m1, m2, m3, m4, m5, m6⟩ := cmd_reads hC
                dsimp only at m0 m1 m2 m3 m4 m5 m6
                clear hC hsame hx hie hw' hsw
                as_aux_lemma =>
                  go_wp2_with fail
                  go_roundg (L.length - (k + 1))
                  case measure => omega
                  case rel => exact ⟨k + 1, s', t', by omega, rfl, rfl, rfl, by go_num, Hg.out, Ht.out, by push_cast; omega, hs, hbel⟩
            | true =>
              obtain ⟨rfl, _⟩ := hout rfl
              obtain ⟨o0, o1, o2, o11, o12, o13, o14, o15, o16, o17⟩ := asked_reads hO hie hx rfl
              dsimp only at o11 o12 o13 o14 o15 o16 o17
              clear hout hO
              cases hsw : s.waits with
              | false =>
                clear hC hsame hx hie hw' hsw
                as_aux_lemma =>
                  go_wp2_with fail
                  go_roundg (L.length - (k + 1))
                  case measure => omega
                  case rel => exact ⟨k + 1, s', t', by omega, rfl, rfl, rfl, by go_num, Hg.out, Ht.out, by push_cast; omega, hs, hbel⟩
              | true =>
                rw [waiting_yes hsw, ← hsame hsw hw', hx] at hC
                obtain ⟨m0, m1, m2, m3, m4, m5, m6⟩ := cmd_reads hC
                dsimp only at m0 m1 m2 m3 m4 m5 m6
                clear hC hsame hx hie hw' hsw
                as_aux_lemma =>
                  go_wp2_with fail
                  go_roundg (L.length - (k + 1))
                  case measure => omega
                  case rel => exact ⟨k + 1, s', t', by omega, rfl, rfl, rfl, by go_num, Hg.out, Ht.out, by push_cast; omega, hs, hbel⟩
      · go_wp2_with fail
        refine (wakes_any _).mono ?_
        rintro e w' ⟨rfl, hb⟩
        go_wp2_with fail
        go_ret
        exact ⟨rfl, hbel.trans (hb.mono hbel.size)⟩
end Go.Proofs.Ytakpkedioehjbaa
