/-
  THE WALK of the law ClientPlays.
-/
import Derived.Test.YtakpkedioehjbaaPlayS
namespace Go.Proofs.Ytakpkedioehjbaa
open Go.RowKit Go.Maps Go.BigFrame

theorem acts_new {w wr : World} {g b : Nat} {id n : Int} {k : Nat} {s : St} {L : List Cmd} {ad : Option Addr} {cap : Nat} {cs : Array Value} {d : Deed} (h : Playing w g b id n k s L ad cap wr) :
    DeedIn ((((wr.alloc (.cells cs 49 (0, 0))).setRow wr.heap.size d.cells).alloc (.cells Letter.zero.cells 47 (0, 0))).alloc (.cells Letter.zero.cells 47 (0, 0))) wr.heap.size d ∧
    Letter.In ((((wr.alloc (.cells cs 49 (0, 0))).setRow wr.heap.size d.cells).alloc (.cells Letter.zero.cells 47 (0, 0))).alloc (.cells Letter.zero.cells 47 (0, 0))) (wr.heap.size + 1) Letter.zero ∧
    Letter.In ((((wr.alloc (.cells cs 49 (0, 0))).setRow wr.heap.size d.cells).alloc (.cells Letter.zero.cells 47 (0, 0))).alloc (.cells Letter.zero.cells 47 (0, 0))) (wr.heap.size + 2) Letter.zero ∧
    Playing w g b id n k s L ad cap ((((wr.alloc (.cells cs 49 (0, 0))).setRow wr.heap.size d.cells).alloc (.cells Letter.zero.cells 47 (0, 0))).alloc (.cells Letter.zero.cells 47 (0, 0))) := by
  have h0 : ((wr.alloc (.cells cs 49 (0, 0))).setRow wr.heap.size d.cells).heap.size = wr.heap.size + 1 := by simp
  have hz : ((wr.alloc (.cells cs 49 (0, 0))).setRow wr.heap.size d.cells).heap[wr.heap.size]? = some (.cells d.cells 49 (0, 0)) := setRow_heap _ _ _ _ _ _ (heap_alloc_new wr _)
  have hb : Below wr.heap.size wr ((wr.alloc (.cells cs 49 (0, 0))).setRow wr.heap.size d.cells) := below_setRow ((Below.refl _ _).alloc (Nat.le_refl _) _) (Nat.le_refl _) _
  generalize (wr.alloc (.cells cs 49 (0, 0))).setRow wr.heap.size d.cells = W at *
  refine ⟨(Below.heap_alloc _ _ _ (by simp; omega)).trans ((Below.heap_alloc _ _ _ (by omega)).trans hz), ?_, ?_, h.below ((hb.alloc (by omega) _).alloc (by simp; omega) _)⟩
  · have h5 := heap_alloc2_old W (.cells Letter.zero.cells 47 (0, 0)) (.cells Letter.zero.cells 47 (0, 0))
    rw [h0] at h5
    exact h5
  · have h5 := heap_alloc2_new W (.cells Letter.zero.cells 47 (0, 0)) (.cells Letter.zero.cells 47 (0, 0))
    rw [h0] at h5
    exact h5

/-- A world of a class. -/
structure InW (G : World → Prop) where
  w : World
  ok : G w
theorem quiet_load_row {P : Program} {o : Oper} {a : Act} {C : World → Prop} {K : Act → Prop} (ty : TypeId) (x : Operand) (ho : o.op = .load ty x)
    (g : Nat) (hx : a.eval x = .pointer (some ⟨g, 0, none⟩)) (t : TypeId) (cs : Array Value) (fr : Nat × Nat) (d : TypeDesc) (hC : ∀ w, C w → w.heap[g]? = some (.cells cs t fr))
    (hu : P.underlying ty = some d) (hd : (match d with | .struct _ | .array _ _ => true | _ => false) = true) (hi : (P.info? ty).map (·.size) = some cs.size) (h : K (a.put o.dst (.agg cs))) : o.quiet P a C K := by
  refine ⟨_, fun w hw => ?_, h⟩
  unfold Oper.quietAt execOp
  simp only [ho, hx, Instr.loadAt, Instr.sureAddr, Sem.run_bind, Sem.run_pure, Result.andThen_ok, run_loadVar_row w g t ty cs fr d (hC w hw) hu hd hi]
  exact ⟨rfl, rfl⟩
/-- What stands while the law asks. -/
structure Asking (w : World) (g b a bc : Nat) (x : Cmd) (s : St) (L : List Cmd) (ad : Option Addr) (cap : Nat) (d : Deed) (o : Letter) (wr : World) : Prop where
  cmd : Cmd.In wr bc x
  mid : Mid w g b a s s L ad cap d o o wr
theorem Asking.below {w wr wr' : World} {g b a bc : Nat} {x : Cmd} {s : St} {L : List Cmd} {ad : Option Addr} {cap : Nat} {d : Deed} {o : Letter} (h : Asking w g b a bc x s L ad cap d o wr) (hb : Below wr.heap.size wr wr') : Asking w g b a bc x s L ad cap d o wr' :=
  ⟨(hb.block _ (block_lt h.cmd)).trans h.cmd, h.mid.below hb⟩
section
variable {w : World} {g b a bc : Nat} {x : Cmd} {s : St} {L : List Cmd} {ad : Option Addr} {cap : Nat} {d : Deed} {o : Letter}
theorem in_same (hv : o.votes = .slice none 0 0) (hi : o.items = .slice none 0 0) (y : InW (Asking w g b a bc x s L ad cap d o)) :
    Calls Try.prog 19 #[.agg o.cells, .agg o.cells] y.w fun e w'' => e = .returned (.bool true) ∧ ∃ z : InW (Asking w g b a bc x s L ad cap d o), w'' = z.w := by
  refine (same_any o y.w hv hi).mono ?_
  rintro r w' ⟨rfl, hb⟩
  exact ⟨rfl, ⟨w', y.ok.below hb⟩, rfl⟩
theorem in_last (hn : L.length ≤ 1000) (hl : lastC L = s.x) (y : InW (Asking w g b a bc x s L ad cap d o)) :
    Calls Try.prog 20 #[.agg (rcells s ad L.length cap)] y.w fun e w'' => e = .returned (.agg s.x.cells) ∧ ∃ z : InW (Asking w g b a bc x s L ad cap d o), w'' = z.w := by
  refine (refLast_any s ad cap L y.w y.ok.mid.lies hn).mono ?_
  rintro r w' ⟨rfl, hb⟩
  exact ⟨by rw [hl], ⟨w', y.ok.below hb⟩, rfl⟩
end

set_option maxRecDepth 100000 in
set_option maxHeartbeats 16000000 in
theorem plays_go (id n : Int) (D : List Deed) (a : Addr) (cap0 : Nat) (w : World) (hL : DeedsAt w a D) (hn : D.length < 2 ^ 63) (hfit : ∀ d ∈ D, d.Fits) (hid0 : 0 ≤ id) (h1 : id < 4) (h2 : 1 ≤ n) (h3 : n ≤ 7) :
    Calls Try.prog 3 #[.int .u8 id, .int .i64 n, .slice (some a) D.length cap0] w fun r w' => r = .returned (.bool true) ∧ Below w.heap.size w w' := by
  have HL := Lib.hid hL
  have HF := Lib.hid hfit
  clear hL hfit
  go_enter Try.func3, Try.ntmps3
  go_wp2_with fail
  refine (great_any D a cap0 _ HL.out hn HF.out).mono ?_
  rintro e w1 ⟨⟨b, rfl, hb⟩, hbel1⟩
  cases b with
  | true =>
    go_wp2_with fail
    refine (wakes_any _).mono ?_
    rintro e w' ⟨rfl, hb⟩
    go_wp2_with fail
    go_ret
    exact ⟨rfl, hbel1.trans (hb.mono hbel1.size)⟩
  | false =>
    have h200 := hb rfl
    clear hb hn
    go_wp2_with fail
    refine (new_yes id n _ hid0 h1 h2 h3).mono ?_
    rintro e w2 ⟨rfl, hs2, hb2⟩
    have hbel2 := hbel1.trans (hb2.mono hbel1.size)
    have hg0 := hbel1.size
    clear hb2 hbel1
    generalize w1.heap.size = g at *
    clear w1
    go_wp2_with fail
    refine (refMay_any id n _).mono ?_
    rintro e w3 ⟨rfl, rfl⟩
    rw [decide_eq_true (show id < 4 ∧ 1 ≤ n ∧ n ≤ 7 from ⟨h1, h2, h3⟩)]
    go_wp2_with fail
    refine (refNew_any id n _ hid0 h1 h2 h3).mono ?_
    rintro e w4 ⟨rfl, hb4⟩
    have hs4 := st_below hs2 hb4 (st_lt hs2)
    have hbel4 := hbel2.trans (hb4.mono hbel2.size)
    clear hs2 hb4 hbel2
    go_upto_region 9 with (refine wpList_store_row (P := Try.prog) rfl 32 (.tmp 9) (.tmp 57) rfl w4.heap.size (rcells (St.new id n) none 0 0) rfl rfl 32 _ (heap_alloc_new w4 _) (size_ref _ _ _ _) rfl (one_ref _ _ _ _) ?_)
    have hgb : g < w4.heap.size := st_lt hs4
    refine code_from (fun wd => Played w g w4.heap.size id n 0 wd) ⟨St.new id n, [], none, 0, fine_new hid0 h1 h2 h3, old_st hs4 _ _, setRow_heap _ _ _ _ _ _ (heap_alloc_new w4 _), (fun i x hx => by cases hx), old_below hbel4 _ _⟩ ?_
    clear hs4 hbel4
    generalize w4.heap.size = bx at *
    clear w4
    rintro w2 hT
    go_wp2_with fail
    go_loopg [10] D.length (fun z s10 wr => ∃ k : Nat, k ≤ D.length ∧ z = D.length - k ∧ s10 = .int .i64 (k : Int) ∧ Played w g bx id n k wr)
    case atStart => exact ⟨0, by omega, by omega, rfl, hT⟩
    case round =>
      clear hT w2
      obtain ⟨k, hk, rfl, rfl, hT⟩ := hrel
      by_cases hlt : k < D.length
      · obtain ⟨s, L, ad, cap, hP⟩ := hT
        have hd : D[k]? = some D[k] := List.getElem?_eq_getElem hlt
        have fd := HF.out D[k] (List.getElem_mem hlt)
        generalize D[k] = d at hd fd
        have hD := deeds_below HL.out hP.bel k d hd
        generalize hq : a.add (k * 28) = q
        have hall : ∀ (j : Nat) (v : Value), d.cells[j]? = some v → wr.cell? (q.add j) = some v := by
          intro j v hv
          have h9 := hD j v hv
          rw [← Go.Deep.add_add, hq] at h9
          exact h9
        clear hD hd
        obtain ⟨qb, qo, qs⟩ := q
        have HP := Lib.hid hP
        have Hfd := Lib.hid fd
        clear hP fd
        go_upto_region 14 with (first | (refine wpList_load_cells (P := Try.prog) rfl 49 _ rfl ⟨qb, qo, qs⟩ rfl d.cells _ hall Try.underlying49 rfl (size_deed _) ?_) | (refine wpList_store_row (P := Try.prog) rfl 49 (.tmp 11) (.tmp 67) rfl wr.heap.size d.cells rfl rfl 49 _ (heap_alloc_new wr _) (size_deed _) rfl (one_deed Hfd.out) ?_))
        have hba : bx < wr.heap.size := block_lt HP.out.box
        refine code_from (fun wc => DeedIn wc wr.heap.size d ∧ Letter.In wc (wr.heap.size + 1) Letter.zero ∧ Letter.In wc (wr.heap.size + 2) Letter.zero ∧ Playing w g bx id n k s L ad cap wc) (by exact acts_new HP.out) ?_
        clear hall HP hq
        generalize wr.heap.size = ba at *
        clear wr
        rintro wc ⟨hA, hG, hW, hP⟩
        have Hfine := Lib.hid hP.fine
        have a0 : wc.cell? ⟨ba, 0, none⟩ = some (.int .u8 d.act) := cell_of_row _ _ 0 _ _ _ hA
        have HM := Lib.hid (mid_of hP hA hG hW)
        clear hA hG hW hP
        go_upto_block 2 with fail
        go_cut [14, 15] (fun s14 s15 wx => ∃ c : Int, s14 = .int .i64 c ∧ s15 = .int .i64 c ∧ Acted w g bx ba id n (k + 1) wx)
        case first =>
          by_cases ha0 : d.act = 0
          · have t0 : (d.act == 0) = true := by simp [ha0]
            clear ha0
            as_aux_lemma =>
              go_wp2_with (refine wpList_load_cells (P := Try.prog) rfl 36 _ rfl ⟨ba, 1, none⟩ rfl d.x.cells _ (cells_part HM.out.act _ (deed_cmd d)) Try.underlying36 rfl (size_cmd _) ?_)
              refine (real_invoke d.x Hfine.out (by omega) HM.out.st Hfd.out.x).mono ?_
              rintro e w4 ⟨rfl, hu⟩
              have HM4 := Lib.hid (HM.out.upd hu hgb hba hg0)
              clear hu HM a0
              go_upto_region 24 with (refine wpList_store_row (P := Try.prog) rfl 47 (.tmp 12) (.tmp 112) rfl (ba + 1) (invO s d.x).cells rfl rfl 47 _ HM4.out.got (size_letter _) rfl (one_letter _ (by rw [(invO_nil s d.x).1]; rfl) (by rw [(invO_nil s d.x).2]; rfl)) ?_)
              refine code_from (Mid w g bx ba (invS s d.x) s L ad cap d (invO s d.x) Letter.zero) (HM4.out.got_set hgb hba hg0 _) ?_
              clear HM4 w4 wc
              rintro wd hM
              have HM := Lib.hid hM
              clear hM
              go_wp2_with (first
                | (refine wpList_load_row rfl 32 _ rfl bx rfl 32 (rcells s ad L.length cap) (0, 0) _ HM.out.box Try.underlying32 rfl (size_ref _ _ _ _) ?_)
                | (refine wpList_load_cells (P := Try.prog) rfl 36 _ rfl ⟨ba, 1, none⟩ rfl d.x.cells _ (cells_part HM.out.act _ (deed_cmd d)) Try.underlying36 rfl (size_cmd _) ?_))
              refine (ref_invoke d.x Hfine.out (by omega) HM.out.lies).mono ?_
              rintro e w5 ⟨⟨ad', cap', rfl, hl', hf'⟩, hb5⟩
              have hM5 := HM.out.below hb5
              have hM6 := hM5.box_set (cap' := cap') hl' hgb hba hg0
              have hM7 := hM6.want_set hgb hba hg0 (invO s d.x)
              have HM5 := Lib.hid hM5
              have HM6 := Lib.hid hM6
              have HM7 := Lib.hid hM7
              have Hf' := Lib.hid hf'
              clear hM5 hM6 hM7 hf' hl' hb5 HM
              go_wp2_with (first
                | (refine wpList_store_row (P := Try.prog) rfl 32 (.tmp 9) (.tmp 119) rfl bx (rcells (invS s d.x) ad' (invL s d.x L).length cap') rfl rfl 32 _ HM5.out.box (size_ref _ _ _ _) rfl (one_ref _ _ _ _) ?_)
                | (refine wpList_store_row (P := Try.prog) rfl 47 (.tmp 13) (.tmp 120) rfl (ba + 2) (invO s d.x).cells rfl rfl 47 _ HM6.out.want (size_letter _) rfl (one_letter _ (by rw [(invO_nil s d.x).1]; rfl) (by rw [(invO_nil s d.x).2]; rfl)) ?_))
              go_meet
              case rel => exact ⟨_, rfl, rfl, ⟨⟨_, _, _, _, _, _, HM7.out, Hf'.out, (invO_nil s d.x).1, (invO_nil s d.x).2⟩⟩⟩
          · have t0 : (d.act == 0) = false := by simp [ha0]
            clear ha0
            by_cases ha1 : d.act = 1
            · have t1 : (d.act == 1) = true := by simp [ha1]
              clear ha1
              as_aux_lemma =>
                go_wp2_with fail
                refine (real_nudge Hfine.out HM.out.st).mono ?_
                rintro e w4 ⟨rfl, hu⟩
                have HM4 := Lib.hid (HM.out.upd hu hgb hba hg0)
                clear hu HM a0
                go_upto_region 27 with (refine wpList_store_row (P := Try.prog) rfl 47 (.tmp 12) (.tmp 127) rfl (ba + 1) (nudO s).cells rfl rfl 47 _ HM4.out.got (size_letter _) rfl (one_letter _ (by rw [(nudO_nil s).1]; rfl) (by rw [(nudO_nil s).2]; rfl)) ?_)
                refine code_from (Mid w g bx ba (nudS s) s L ad cap d (nudO s) Letter.zero) (HM4.out.got_set hgb hba hg0 _) ?_
                clear HM4 w4 wc
                rintro wd hM
                have HM := Lib.hid hM
                clear hM
                go_wp2_with (refine wpList_load_row rfl 32 _ rfl bx rfl 32 (rcells s ad L.length cap) (0, 0) _ HM.out.box Try.underlying32 rfl (size_ref _ _ _ _) ?_)
                refine (ref_nudge Hfine.out (by omega) HM.out.lies).mono ?_
                rintro e w5 ⟨rfl, hf', hb5⟩
                have hM5 := HM.out.below hb5
                have hM6 := hM5.box_set (cap' := cap) hM5.lies hgb hba hg0
                have hM7 := hM6.want_set hgb hba hg0 (nudO s)
                have HM5 := Lib.hid hM5
                have HM6 := Lib.hid hM6
                have HM7 := Lib.hid hM7
                have Hf' := Lib.hid hf'
                clear hM5 hM6 hM7 hf' hb5 HM
                go_wp2_with (first
                  | (refine wpList_store_row (P := Try.prog) rfl 32 (.tmp 9) (.tmp 132) rfl bx (rcells (nudS s) ad L.length cap) rfl rfl 32 _ HM5.out.box (size_ref _ _ _ _) rfl (one_ref _ _ _ _) ?_)
                  | (refine wpList_store_row (P := Try.prog) rfl 47 (.tmp 13) (.tmp 133) rfl (ba + 2) (nudO s).cells rfl rfl 47 _ HM6.out.want (size_letter _) rfl (one_letter _ (by rw [(nudO_nil s).1]; rfl) (by rw [(nudO_nil s).2]; rfl)) ?_))
                go_meet
                case rel => exact ⟨_, rfl, rfl, ⟨⟨_, _, _, _, _, _, HM7.out, Hf'.out, (nudO_nil s).1, (nudO_nil s).2⟩⟩⟩
            · have t1 : (d.act == 1) = false := by simp [ha1]
              clear ha1
              as_aux_lemma =>
                have hreal := real_hear d.l Hfine.out HM.out.st Hfd.out.l
                have href : ∀ w2, LiesC w2 ad L → _ := fun w2 hl => ref_hear (w := w2) d.l Hfine.out (by omega) hl Hfd.out.l
                have hnil := hearO_nil s d.l
                generalize hearS s d.l = s2 at hreal href
                generalize hearO s d.l = o at hreal href hnil
                generalize hearY s d.l = y at hreal href
                generalize hearIs s d.l = is at hreal href
                generalize hearTk s d.l = tk0 at hreal href
                have Hreal := Lib.hid hreal
                have Href := Lib.hid href
                have Hnil := Lib.hid hnil
                clear hreal href hnil
                go_wp2_with (refine wpList_load_cells (P := Try.prog) rfl 47 _ rfl ⟨ba, 8, none⟩ rfl d.l.cells _ (cells_part HM.out.act _ (deed_letter d)) Try.underlying47 rfl (size_letter _) ?_)
                refine Hreal.out.mono ?_
                rintro e w4 ⟨rfl, hu⟩
                have HM4 := Lib.hid (HM.out.upd hu hgb hba hg0)
                clear hu HM a0 Hreal
                have hsz : ba + 2 < w4.heap.size := letter_lt HM4.out.want
                go_upto_region 17 with (first
                  | (refine wpList_store_row (P := Try.prog) rfl 47 (.tmp 16) (.tmp 75) rfl w4.heap.size o.cells rfl rfl 47 _ (heap_alloc2_old w4 _ _) (size_letter _) rfl (one_letter _ (by rw [(Hnil.out).1]; rfl) (by rw [(Hnil.out).2]; rfl)) ?_)
                  | (refine wpList_store_row (P := Try.prog) rfl 43 (.tmp 18) (.tmp 77) rfl (w4.heap.size + 1) y.cells rfl rfl 43 _ ((setRow_other _ _ _ _ (by omega)).trans (heap_alloc2_new w4 _ _)) (size_reply _) rfl (one_reply _) ?_))
                have hbb : ∀ A B, Below w4.heap.size w4 ((((w4.alloc A).alloc B).setRow w4.heap.size o.cells).setRow (w4.heap.size + 1) y.cells) := fun A B =>
                  below_setRow (below_setRow (((Below.refl _ _).alloc (Nat.le_refl _) _).alloc (by simp) _) (Nat.le_refl _) _) (by omega) _
                refine code_from (fun wd => Letter.In wd w4.heap.size o ∧ Reply.In wd (w4.heap.size + 1) y ∧ Mid w g bx ba s2 s L ad cap d Letter.zero Letter.zero wd)
                  ⟨(setRow_other _ _ _ _ (by omega)).trans (setRow_heap _ _ _ _ _ _ (heap_alloc2_old w4 _ _)), setRow_heap _ _ _ _ _ _ ((setRow_other _ _ _ _ (by omega)).trans (heap_alloc2_new w4 _ _)), HM4.out.below (hbb _ _)⟩ ?_
                clear hbb HM4
                generalize w4.heap.size = ho at *
                clear w4 wc
                rintro wd ⟨hO, hY, hM⟩
                have HO := Lib.hid hO
                have HY := Lib.hid hY
                have HM := Lib.hid hM
                clear hO hY hM
                go_wp2_with (first
                  | (refine wpList_load_row rfl 32 _ rfl bx rfl 32 (rcells s ad L.length cap) (0, 0) _ HM.out.box Try.underlying32 rfl (size_ref _ _ _ _) ?_)
                  | (refine wpList_load_cells (P := Try.prog) rfl 47 _ rfl ⟨ba, 8, none⟩ rfl d.l.cells _ (cells_part HM.out.act _ (deed_letter d)) Try.underlying47 rfl (size_letter _) ?_))
                refine (Href.out _ HM.out.lies).mono ?_
                rintro e w5 ⟨rfl, hf', hb5⟩
                have HM5 := Lib.hid (HM.out.below hb5)
                have HO5 := Lib.hid ((hb5.block _ (letter_lt HO.out)).trans HO.out)
                have HY5 := Lib.hid ((hb5.block _ (block_lt HY.out)).trans HY.out)
                have hsz5 : ho + 1 < w5.heap.size := by have h8 := block_lt HY.out; have h9 := hb5.size; omega
                have Hf' := Lib.hid hf'
                clear hb5 hf' HM HO HY
                go_upto_region 18 with (first
                  | (refine wpList_store_row (P := Try.prog) rfl 47 (.tmp 21) (.tmp 85) rfl (w5.heap.size + 1) o.cells rfl rfl 47 Letter.zero.cells ?hg (size_letter _) rfl (one_letter _ (by rw [(Hnil.out).1]; rfl) (by rw [(Hnil.out).2]; rfl)) ?_; case hg => exact heap_three_1 w5 _ _ _)
                  | (refine wpList_store_row (P := Try.prog) rfl 43 (.tmp 23) (.tmp 87) rfl (w5.heap.size + 2) y.cells rfl rfl 43 Reply.zero.cells ?hg (size_reply _) rfl (one_reply _) ?_; case hg => exact (setRow_other _ _ _ _ (by omega)).trans (heap_three_2 w5 _ _ _)))
                have hbb : ∀ A B C, Below w5.heap.size w5 (((((w5.alloc A).alloc B).alloc C).setRow (w5.heap.size + 1) o.cells).setRow (w5.heap.size + 2) y.cells) := fun A B C =>
                  below_setRow (below_setRow (below_three w5 _ _ _) (by omega) _) (by omega) _
                refine code_from (fun wd => RefIn wd w5.heap.size s2 ad L.length cap ∧ Letter.In wd (w5.heap.size + 1) o ∧ Reply.In wd (w5.heap.size + 2) y ∧ Letter.In wd ho o ∧ Reply.In wd (ho + 1) y ∧ Mid w g bx ba s2 s L ad cap d Letter.zero Letter.zero wd)
                  ⟨(setRow_other _ _ _ _ (by omega)).trans ((setRow_other _ _ _ _ (by omega)).trans (heap_three_0 w5 _ _ _)),
                    (setRow_other _ _ _ _ (by omega)).trans (setRow_heap _ _ _ _ _ _ (heap_three_1 w5 _ _ _)),
                    setRow_heap _ _ _ _ _ _ ((setRow_other _ _ _ _ (by omega)).trans (heap_three_2 w5 _ _ _)),
                    ((hbb _ _ _).block _ (letter_lt HO5.out)).trans HO5.out, ((hbb _ _ _).block _ (block_lt HY5.out)).trans HY5.out, HM5.out.below (hbb _ _ _)⟩ ?_
                clear hbb HM5 HO5 HY5
                generalize w5.heap.size = j at *
                clear w5 wd
                rintro wd ⟨hV, hP, hR, hO, hY, hM⟩
                have HV := Lib.hid hV
                have HM5 := Lib.hid hM
                have hM6 := hM.box_set (cap' := cap) hM.lies hgb hba hg0
                have hP6 := (setRow_other wd bx (j + 1) (rcells s2 ad L.length cap) (by omega)).trans hP
                have hR6 := (setRow_other wd bx (j + 2) (rcells s2 ad L.length cap) (by omega)).trans hR
                have hO6 := (setRow_other wd bx ho (rcells s2 ad L.length cap) (by omega)).trans hO
                have hY6 := (setRow_other wd bx (ho + 1) (rcells s2 ad L.length cap) (by omega)).trans hY
                have Hpack := Lib.hid (show Letter.In _ (j + 1) o ∧ Reply.In _ (j + 2) y ∧ Letter.In _ ho o ∧ Reply.In _ (ho + 1) y ∧ Mid w g bx ba s2 s2 L ad cap d Letter.zero Letter.zero _ from ⟨hP6, hR6, hO6, hY6, hM6⟩)
                clear hV hP hR hO hY hM hM6 hP6 hR6 hO6 hY6
                go_upto_region 19 with (first
                  | (refine wpList_load_row rfl 32 _ rfl j rfl 32 (rcells s2 ad L.length cap) (0, 0) _ HV.out Try.underlying32 rfl (size_ref _ _ _ _) ?_)
                  | (refine wpList_store_row (P := Try.prog) rfl 32 (.tmp 9) (.tmp 89) rfl bx (rcells s2 ad L.length cap) rfl rfl 32 _ HM5.out.box (size_ref _ _ _ _) rfl (one_ref _ _ _ _) ?_))
                refine code_from (fun wx => Letter.In wx (j + 1) o ∧ Reply.In wx (j + 2) y ∧ Letter.In wx ho o ∧ Reply.In wx (ho + 1) y ∧ Mid w g bx ba s2 s2 L ad cap d Letter.zero Letter.zero wx) Hpack.out ?_
                clear Hpack HV HM5 wd
                rintro wx ⟨hP, hR, hO, hY, hM⟩
                refine wp_region_held_drew (S := fun w' => Letter.In w' ho o ∧ Letter.In w' (j + 1) o) (by kernel_rfl) ⟨hO, hP⟩ (fun hS => ?_)
                refine wpAnyH_take (i := 0) (v := .agg o.cells) rfl (by kernel_rfl) (by kernel_rfl) (by kernel_rfl) (fun _ _ _ h => h) (yields_load rfl 47 _ rfl ho rfl 47 _ (0, 0) _ (fun _ h => h.1) Try.underlying47 rfl (size_letter _)) hS ?_
                simp only [List.getElem_toArray, List.getElem_cons_zero, List.getElem_cons_succ, Act.put, List.setIfInBounds_toArray, List.set_cons_zero, List.set_cons_succ]
                refine wpAnyH_take (i := 1) (v := .agg o.cells) rfl (by kernel_rfl) (by kernel_rfl) (by kernel_rfl) (fun _ _ _ h => h) (yields_load rfl 47 _ rfl (j + 1) rfl 47 _ (0, 0) _ (fun _ h => h.2) Try.underlying47 rfl (size_letter _)) hS ?_
                simp only [List.getElem_toArray, List.getElem_cons_zero, List.getElem_cons_succ, Act.put, List.setIfInBounds_toArray, List.set_cons_zero, List.set_cons_succ]
                have hM0 : Mid w g bx ba s2 s2 L ad cap d Letter.zero Letter.zero wx.drew := hM.below ((Below.refl _ _).drew)
                have hM1 := hM0.got_set hgb hba hg0 o
                have hM2 := hM1.want_set hgb hba hg0 o
                refine wpAnyH_ready (rs := [2]) (by kernel_rfl) (by simp) ?_
                refine AllReadyH.cons rfl (fun K hK => ?_) AllReadyH.nil
                refine op_wanted rfl (wp_store_row 47 _ _ rfl (ba + 1) o.cells rfl rfl 47 _ hM0.got (size_letter _) rfl (one_letter _ (by rw [Hnil.out.1]; rfl) (by rw [Hnil.out.2]; rfl)) ?_)
                refine hK.out _ _ ⟨(setRow_other _ _ _ _ (by omega)).trans hS.1, (setRow_other _ _ _ _ (by omega)).trans hS.2⟩ (fun hS => ?_)
                clear hK K
                refine wpAnyH_ready (rs := [3]) (by kernel_rfl) (by simp) ?_
                refine AllReadyH.cons rfl (fun K hK => ?_) AllReadyH.nil
                refine op_wanted rfl (wp_store_row 47 _ _ rfl (ba + 2) o.cells rfl rfl 47 _ hM1.want (size_letter _) rfl (one_letter _ (by rw [Hnil.out.1]; rfl) (by rw [Hnil.out.2]; rfl)) ?_)
                refine hK.out _ _ ⟨(setRow_other _ _ _ _ (by omega)).trans hS.1, (setRow_other _ _ _ _ (by omega)).trans hS.2⟩ (fun hS => ?_)
                clear hK K
                have hR2 : Reply.In _ (j + 2) y := (setRow_other _ (ba + 2) (j + 2) o.cells (by omega)).trans ((setRow_other _ (ba + 1) (j + 2) o.cells (by omega)).trans (show Reply.In wx.drew (j + 2) y from hR))
                have hY2 : Reply.In _ (ho + 1) y := (setRow_other _ (ba + 2) (ho + 1) o.cells (by omega)).trans ((setRow_other _ (ba + 1) (ho + 1) o.cells (by omega)).trans (show Reply.In wx.drew (ho + 1) y from hY))
                clear hP hR hO hY hM hM0 hM1
                refine wpAnyH_done (by kernel_rfl) ?_ _
                clear hS
                generalize ((wx.drew.setRow (ba + 1) o.cells).setRow (ba + 2) o.cells) = wz at hR2 hY2 hM2 ⊢
                have hR := hR2
                have hY := hY2
                have hM := hM2
                clear hR2 hY2 hM2
                have r0 : wz.cell? ⟨j + 2, 0, none⟩ = some (.int .u8 y.code) := cell_of_row _ _ 0 _ _ _ hR
                have r1 : wz.cell? ⟨j + 2, 1, none⟩ = some (.string y.text) := cell_of_row _ _ 1 _ _ _ hR
                have y0 : wz.cell? ⟨ho + 1, 0, none⟩ = some (.int .u8 y.code) := cell_of_row _ _ 0 _ _ _ hY
                have y1 : wz.cell? ⟨ho + 1, 1, none⟩ = some (.string y.text) := cell_of_row _ _ 1 _ _ _ hY
                have HM := Lib.hid hM
                clear hR hY hM
                generalize y.code = yc at *
                generalize y.text = yt at *
                have g43 := guard_reply
                have hne : ∀ wx, (binOp .neq 43 (.agg #[.int .u8 yc, .string yt]) (.agg #[.int .u8 yc, .string yt])).run Try.prog wx = .ok (.bool false) wx := fun wx => reply_self ⟨yc, yt⟩ wx
                have ti : (is != is) = false := by simp
                have tk : (tk0 != tk0) = false := by simp
                go_wp2_with fail
                go_meet
                case rel => exact ⟨_, rfl, rfl, ⟨⟨_, _, _, _, _, _, HM.out, Hf'.out, Hnil.out.1, Hnil.out.2⟩⟩⟩
        case rest =>
          clear HM a0
          obtain ⟨c, rfl, rfl, hact⟩ := hcut
          obtain ⟨s', L', ad', cap', d', o, hM, hf, hov, hoi⟩ := hact.all
          clear hact
          have HM := Lib.hid hM
          have Hf := Lib.hid hf
          clear hM hf
          go_wp2_with fail
          refine (waits_any g s' _ HM.out.st).mono ?_
          rintro e w3 ⟨rfl, hb⟩
          have HM3 := Lib.hid (HM.out.below hb)
          clear HM hb
          have hbc : ba + 2 < w3.heap.size := letter_lt HM3.out.want
          go_upto_region 29 with (refine wpList_store_row (P := Try.prog) rfl 36 (.tmp 25) (.tmp 138) rfl w3.heap.size s'.waiting.cells rfl rfl 36 _ (heap_alloc_new w3 _) (size_cmd _) rfl (one_cmd _) ?_)
          refine code_from (fun wd => Cmd.In wd w3.heap.size s'.waiting ∧ Mid w g bx ba s' s' L' ad' cap' d' o o wd) ⟨setRow_heap _ _ _ _ _ _ (heap_alloc_new w3 _), HM3.out.below (below_setRow ((Below.refl _ _).alloc (Nat.le_refl _) _) (Nat.le_refl _) _)⟩ ?_
          clear HM3
          generalize w3.heap.size = bc at *
          clear w3
          rintro wd ⟨hC, hM⟩
          have hl9 : L'.length ≤ 1000 := by have h8 := Hf.out.len; have h9 := Hf.out.seq; omega
          have hlast := Hf.out.last
          have g36 := guard_cmd
          have hne : ∀ wx, (binOp .neq 36 (.agg s'.x.cells) (.agg s'.x.cells)).run Try.prog wx = .ok (.bool false) wx := fun wx => ne_self s'.x wx
          have hnz : ∀ wx, (binOp .neq 36 (.agg #[.int .u8 0, .int .u32 0, .int .u8 0, .string ⟨#[]⟩, .string ⟨#[]⟩, .string ⟨#[]⟩, .int .u8 0]) (.agg #[.int .u8 0, .int .u32 0, .int .u8 0, .string ⟨#[]⟩, .string ⟨#[]⟩, .string ⟨#[]⟩, .int .u8 0])).run Try.prog wx = .ok (.bool false) wx := fun wx => ne_self Cmd.zero wx
          have tcc : (c != c) = false := by simp
          cases hw : s'.waits with
          | true =>
            have hC' : Cmd.In wd bc s'.x := by rw [waiting_yes hw] at hC; exact hC
            have hA : Asking w g bx ba bc s'.x s' L' ad' cap' d' o wd.drew := ⟨hC', hM.below ((Below.refl _ _).drew)⟩
            have hc3 : ∀ x : InW (Asking w g bx ba bc s'.x s' L' ad' cap' d' o), x.w.cell? ⟨bx, 3, none⟩ = some (.bool true) := fun x => by rw [← hw]; exact (ref_reads x.ok.mid.box).2.2.2.1
            have HA := Lib.hid hA
            clear hC hC' hM hA hw
            refine mix_begin (by kernel_rfl) ?_
            refine mix_piece 0 33 (fun w' => ∃ x : InW (Asking w g bx ba bc s'.x s' L' ad' cap' d' o), w' = x.w) (by kernel_rfl) ⟨⟨wd.drew, HA.out⟩, rfl⟩ ?_
            clear HA
            simp only [Nat.reduceSub, List.take_succ_cons, List.take_zero, List.drop_zero]
            go_big_quiet_step (rfl)
            go_big_quiet_step (rfl)
            go_big_quiet_step (rfl)
            go_big_quiet_step (rfl)
            (go_big_quiet_want; refine quiet_load_row 47 (.tmp 12) rfl (ba + 1) rfl 47 o.cells (0, 0) _ (fun w' hw' => by obtain ⟨x, rfl⟩ := hw'; exact x.ok.mid.got) Try.underlying47 rfl (size_letter _) ?_; go_big_quiet_on; simp only [Act.put, List.setIfInBounds_toArray, List.set_cons_zero, List.set_cons_succ])
            (go_big_quiet_want; refine quiet_load_row 47 (.tmp 13) rfl (ba + 2) rfl 47 o.cells (0, 0) _ (fun w' hw' => by obtain ⟨x, rfl⟩ := hw'; exact x.ok.mid.want) Try.underlying47 rfl (size_letter _) ?_; go_big_quiet_on; simp only [Act.put, List.setIfInBounds_toArray, List.set_cons_zero, List.set_cons_succ])
            go_big_quiet_step ((go_at_call 19; exact in_same hov hoi _))
            go_big_quiet_step (rfl)
            go_big_quiet_step (rfl)
            go_big_quiet_step (rfl)
            go_big_quiet_step (rfl)
            go_big_quiet_step (rfl)
            go_big_quiet_step (rfl)
            go_big_quiet_step (rfl)
            go_big_quiet_step (rfl)
            go_big_quiet_step (rfl)
            go_big_quiet_step (rfl)
            go_big_quiet_step (rfl)
            (go_big_quiet_want; refine quiet_load_row 36 (.tmp 25) rfl bc rfl 36 s'.x.cells (0, 0) _ (fun w' hw' => by obtain ⟨x, rfl⟩ := hw'; exact x.ok.cmd) Try.underlying36 rfl (size_cmd _) ?_; go_big_quiet_on; simp only [Act.put, List.setIfInBounds_toArray, List.set_cons_zero, List.set_cons_succ])
            (go_big_quiet_want; refine quiet_load_row 32 (.tmp 9) rfl bx rfl 32 (rcells s' ad' L'.length cap') (0, 0) _ (fun w' hw' => by obtain ⟨x, rfl⟩ := hw'; exact x.ok.mid.box) Try.underlying32 rfl (size_ref _ _ _ _) ?_; go_big_quiet_on; simp only [Act.put, List.setIfInBounds_toArray, List.set_cons_zero, List.set_cons_succ])
            go_big_quiet_step ((go_at_call 20; exact in_last hl9 hlast _))
            go_big_quiet_step (rfl)
            go_big_quiet_step (rfl)
            go_big_quiet_step (rfl)
            go_big_quiet_step (rfl)
            go_big_quiet_step (rfl)
            go_big_quiet_step (rfl)
            go_big_quiet_step (rfl)
            go_big_quiet_step (rfl)
            go_big_quiet_step (rfl)
            go_big_quiet_step (rfl)
            go_big_quiet_step (rfl)
            go_big_quiet_step (rfl)
            refine wpQuiet_nil ?_
            rintro _ ⟨⟨wz, hz⟩, rfl⟩
            refine mix_end 33 rfl (by kernel_rfl) ?_
            go_wp2_with fail
            go_roundg (D.length - (k + 1))
            case measure => omega
            case rel => exact ⟨k + 1, by omega, rfl, by go_num, s', L', ad', cap', Hf.out, hz.mid.st, hz.mid.box, hz.mid.lies, hz.mid.bel⟩
          | false =>
            have hC' : Cmd.In wd bc Cmd.zero := by rw [waiting_no hw] at hC; exact hC
            have hA : Asking w g bx ba bc Cmd.zero s' L' ad' cap' d' o wd.drew := ⟨hC', hM.below ((Below.refl _ _).drew)⟩
            have hc3 : ∀ x : InW (Asking w g bx ba bc Cmd.zero s' L' ad' cap' d' o), x.w.cell? ⟨bx, 3, none⟩ = some (.bool false) := fun x => by rw [← hw]; exact (ref_reads x.ok.mid.box).2.2.2.1
            have HA := Lib.hid hA
            clear hC hC' hM hA hw
            refine mix_begin (by kernel_rfl) ?_
            refine mix_piece 0 33 (fun w' => ∃ x : InW (Asking w g bx ba bc Cmd.zero s' L' ad' cap' d' o), w' = x.w) (by kernel_rfl) ⟨⟨wd.drew, HA.out⟩, rfl⟩ ?_
            clear HA
            simp only [Nat.reduceSub, List.take_succ_cons, List.take_zero, List.drop_zero]
            go_big_quiet_step (rfl)
            go_big_quiet_step (rfl)
            go_big_quiet_step (rfl)
            go_big_quiet_step (rfl)
            (go_big_quiet_want; refine quiet_load_row 47 (.tmp 12) rfl (ba + 1) rfl 47 o.cells (0, 0) _ (fun w' hw' => by obtain ⟨x, rfl⟩ := hw'; exact x.ok.mid.got) Try.underlying47 rfl (size_letter _) ?_; go_big_quiet_on; simp only [Act.put, List.setIfInBounds_toArray, List.set_cons_zero, List.set_cons_succ])
            (go_big_quiet_want; refine quiet_load_row 47 (.tmp 13) rfl (ba + 2) rfl 47 o.cells (0, 0) _ (fun w' hw' => by obtain ⟨x, rfl⟩ := hw'; exact x.ok.mid.want) Try.underlying47 rfl (size_letter _) ?_; go_big_quiet_on; simp only [Act.put, List.setIfInBounds_toArray, List.set_cons_zero, List.set_cons_succ])
            go_big_quiet_step ((go_at_call 19; exact in_same hov hoi _))
            go_big_quiet_step (rfl)
            go_big_quiet_step (rfl)
            go_big_quiet_step (rfl)
            go_big_quiet_step (rfl)
            go_big_quiet_step (rfl)
            go_big_quiet_step (rfl)
            go_big_quiet_step (rfl)
            go_big_quiet_step (rfl)
            go_big_quiet_step (rfl)
            go_big_quiet_step (rfl)
            go_big_quiet_step (rfl)
            go_big_quiet_step (rfl)
            go_big_quiet_step (rfl)
            go_big_quiet_step (rfl)
            go_big_quiet_step (rfl)
            go_big_quiet_step (rfl)
            go_big_quiet_step (rfl)
            go_big_quiet_step (rfl)
            go_big_quiet_step (rfl)
            go_big_quiet_step (rfl)
            go_big_quiet_step (rfl)
            (go_big_quiet_want; refine quiet_load_row 36 (.tmp 25) rfl bc rfl 36 #[.int .u8 0, .int .u32 0, .int .u8 0, .string ⟨#[]⟩, .string ⟨#[]⟩, .string ⟨#[]⟩, .int .u8 0] (0, 0) _ (fun w' hw' => by obtain ⟨x, rfl⟩ := hw'; exact x.ok.cmd) Try.underlying36 rfl (size_cmd Cmd.zero) ?_; go_big_quiet_on; simp only [Act.put, List.setIfInBounds_toArray, List.set_cons_zero, List.set_cons_succ])
            go_big_quiet_step (rfl)
            go_big_quiet_step (rfl)
            go_big_quiet_step (rfl)
            go_big_quiet_step (rfl)
            refine wpQuiet_nil ?_
            rintro _ ⟨⟨wz, hz⟩, rfl⟩
            refine mix_end 33 rfl (by kernel_rfl) ?_
            go_wp2_with fail
            go_roundg (D.length - (k + 1))
            case measure => omega
            case rel => exact ⟨k + 1, by omega, rfl, by go_num, s', L', ad', cap', Hf.out, hz.mid.st, hz.mid.box, hz.mid.lies, hz.mid.bel⟩
      · go_wp2_with fail
        obtain ⟨s, L, ad, cap, hP⟩ := hT
        refine (wakes_any _).mono ?_
        rintro e w' ⟨rfl, hb⟩
        go_wp2_with fail
        go_ret
        exact ⟨rfl, hP.bel.trans (hb.mono hP.bel.size)⟩
end Go.Proofs.Ytakpkedioehjbaa
