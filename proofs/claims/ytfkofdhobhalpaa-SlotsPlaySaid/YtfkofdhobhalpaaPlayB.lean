/-
  THE WALK of the law SlotsPlay.
-/
import Derived.Test.YtfkofdhobhalpaaPlayS
namespace Go.Proofs.Ytfkofdhobhalpaa
open Go.RowKit Go.Maps Go.BigFrame

section
variable {w1 w2 : World} {g m k : Nat} {base top : Int} {n : Nat} {M : Vals} {s : RS} {u c : Int}
/-- The row and the reference behind the same deed. -/
def After (g m k : Nat) (s' : RS) (w2 : World) : Prop := ∃ base' top' n' M', Both base' top' n' k M' s' ∧ RowAt w2 g m base' top' n' M'
theorem keep_both (hB : Both base top n k M s) (h : KeepGoes g m base top n M w1 u c w2) : c = s.keepCode u ∧ After g m (k + 1) (s.keep u) w2 ∧ Only w1 w2 g m := by
  obtain ⟨hno, hyes, ho⟩ := h
  by_cases h1 : u ≤ 4611686018427387904 ∧ u ≤ top
  · obtain ⟨rfl, ha, hc⟩ := hyes h1.1 h1.2
    by_cases h2 : base < u
    · obtain ⟨e1, e2⟩ := hB.keep_new h1.2 h2
      exact ⟨e1.symm, ⟨_, _, _, _, e2, ha h2⟩, ho⟩
    · obtain ⟨e1, e2, e3⟩ := hB.keep_old h1.2 (by omega)
      exact ⟨e1.symm, ⟨_, _, _, _, by rw [e2]; exact e3, hc (by omega)⟩, ho⟩
  · obtain ⟨rfl, hr⟩ := hno h1
    obtain ⟨e1, e2, e3⟩ := hB.keep_far h1
    exact ⟨e1.symm, ⟨_, _, _, _, by rw [e2]; exact e3, hr⟩, ho⟩
theorem jump_both (hB : Both base top n k M s) (h : JumpGoes g m base top n M w1 u c w2) : c = s.jumpCode u ∧ After g m (k + 1) (s.jump u) w2 ∧ Only w1 w2 g m := by
  obtain ⟨hno, hyes, ho⟩ := h
  by_cases h1 : u ≤ 4611686018427387904 ∧ top ≤ u
  · obtain ⟨rfl, ha⟩ := hyes h1.1 h1.2
    obtain ⟨e1, e2⟩ := hB.jump_new h1.1 h1.2
    exact ⟨e1.symm, ⟨_, _, _, _, e2, ha⟩, ho⟩
  · obtain ⟨rfl, hr⟩ := hno h1
    obtain ⟨e1, e2, e3⟩ := hB.jump_far h1
    exact ⟨e1.symm, ⟨_, _, _, _, by rw [e2]; exact e3, hr⟩, ho⟩
theorem next_both {r : Ending} (hB : Both base top n k M s) (h : NextGoes g m base top n M w1 r w2) : r = .returned (.tuple #[.agg (item s.nextItem.1 s.nextItem.2), .bool s.nextIs]) ∧ After g m (k + 1) s.next w2 ∧ Only w1 w2 g m := by
  obtain ⟨hno, hyes, ho⟩ := h
  cases hM : M (top + 1) with
  | none =>
    obtain ⟨e, hr⟩ := hno hM
    obtain ⟨e1, e2, e3, e4⟩ := hB.next_none hM
    exact ⟨by rw [e2, e3]; exact e, ⟨_, _, _, _, by rw [e1]; exact e4, hr⟩, ho⟩
  | some v =>
    obtain ⟨e, hr⟩ := hyes v hM
    obtain ⟨e2, e3, e4⟩ := hB.next_some hM
    exact ⟨by rw [e2, e3]; exact e, ⟨_, _, _, _, e4, hr⟩, ho⟩
theorem After.below {w3 w4 : World} {s' : RS} (h : After g m k s' w3) (hb : Below w3.heap.size w3 w4) : After g m k s' w4 := by
  obtain ⟨a1, a2, a3, a4, hB, hr⟩ := h
  exact ⟨a1, a2, a3, a4, hB, hr.below hb (Nat.le_refl _)⟩
end
/-- All that the branch of Next keeps. -/
structure Nexting (w : World) (g m b k ba bi : Nat) (d : Deed) (s : RS) (ad : Option Addr) (cap : Nat) (s' : RS) (x : Item) (wd : World) : Prop where
  it : ItemIn wd bi x.1 x.2
  box : RefIn wd b s.base s.top ad s.l.length cap
  lies : Lies wd ad s.l
  aft : After g m k s' wd
  act : ActIn wd ba d
  bel : Below w.heap.size w wd
theorem Nexting.below {w wd wx : World} {g m b k ba bi : Nat} {d : Deed} {s : RS} {ad : Option Addr} {cap : Nat} {s' : RS} {x : Item} (h : Nexting w g m b k ba bi d s ad cap s' x wd) (hb : Below wd.heap.size wd wx) : Nexting w g m b k ba bi d s ad cap s' x wx :=
  ⟨(hb.block _ (block_lt h.it)).trans h.it, (hb.block _ (block_lt h.box)).trans h.box, h.lies.below hb, h.aft.below hb, (hb.block _ (block_lt h.act)).trans h.act, h.bel.trans (hb.mono h.bel.size)⟩
/-- Behind the act, and ahead of what is asked. -/
structure Acted (w : World) (g m b k ba : Nat) (d : Deed) (wx : World) : Prop where
  act : ActIn wx ba d
  played : Played w g m b k wx

theorem acted_store {w w3 w4 : World} {g m b k ba : Nat} {d : Deed} {s' : RS} {x y : Int} {ad0 ad' : Option Addr} {n0 c0 cap' : Nat} (hAf : After g m k s' w3) (hbox : RefIn w3 b x y ad0 n0 c0) (hbel : Below w.heap.size w w3) (hA : ActIn w3 ba d)
    (hb : Below w3.heap.size w3 w4) (hl : Lies w4 ad' s'.l) (hrm : Room s'.l.length cap') (hg : b ≠ g) (hm : b ≠ m) (hb0 : w.heap.size ≤ b) (hba : ba ≠ b) :
    RefIn w4 b x y ad0 n0 c0 ∧ Acted w g m b k ba d (w4.setRow b (refCells s'.base s'.top ad' s'.l.length cap')) := by
  obtain ⟨base', top', n', M', hB, hr⟩ := hAf
  have h1 : RefIn w4 b x y ad0 n0 c0 := (hb.block b (block_lt hbox)).trans hbox
  refine ⟨h1, (setRow_other _ _ _ _ hba).trans ((hb.block ba (block_lt hA)).trans hA), ?_⟩
  exact ⟨_, _, _, _, _, _, _, playing_stored hB (hr.below hb (Nat.le_refl _)) h1 hl hrm (hbel.trans (hb.mono hbel.size)) hg hm hb0⟩

set_option maxRecDepth 100000 in
set_option maxHeartbeats 6400000 in
theorem play_go (b0 f most : Int) (v : Value) (L : List Deed) (w : World) (hv : Deeds w v L) (h0 : 0 ≤ b0) (h1 : b0 ≤ 4611686018427387904) (hf0 : 0 ≤ f) (hf1 : f < 18446744073709551616) :
    Calls Try.prog 4 #[.int .u64 b0, v, .int .u64 f, .int .i64 most] w fun r w' => r = .returned (.bool true) ∧ Below w.heap.size w w' := by
  have HG := Lib.hid (great_deeds hv)
  obtain ⟨ad0, cap0, rfl, hL, hfit, hn⟩ := deeds_form hv
  have HL := Lib.hid hL
  have HF := Lib.hid hfit
  clear hv hL hfit
  go_enter Try.func4, Try.ntmps4
  go_wp2_with fail
  refine HG.out.mono ?_
  rintro e w1 ⟨⟨b, rfl, hb⟩, rfl⟩
  cases b with
  | true =>
    clear hb
    go_wp2_with fail
    refine (wakes_any _).mono ?_
    rintro e w' ⟨rfl, hb⟩
    go_wp2_with fail
    go_ret
    exact ⟨rfl, hb⟩
  | false =>
    have h200 := hb rfl
    clear hb hn
    go_wp2_with fail
    refine (new_yes b0 _ h1).mono ?_
    rintro e w2 ⟨rfl, hr2, hb2⟩
    generalize hg : w.heap.size + 1 = g at *
    generalize hm : w.heap.size = m at hr2
    have hg0 : w.heap.size ≤ g := by omega
    have hm0 : w.heap.size ≤ m := by omega
    have hgm : m + 1 = g := by omega
    clear hg hm
    have hlt2 := hr2.lt
    have tb : decide (4611686018427387904 < b0) = false := by simp; omega
    go_upto_region 9 with fail
    have hT : Playing w g m w2.heap.size 0 b0 b0 0 Vals.none ⟨b0, b0, []⟩ none 0 (w2.alloc (.cells (refCells b0 b0 none 0 0) 43 (0, 0))) := playing_start h0 h1 (hr2.alloc _) (heap_alloc_new w2 _) (hb2.alloc hb2.size _)
    refine code_from (fun wd => Played w g m w2.heap.size 0 wd) ⟨_, _, _, _, _, _, _, hT⟩ ?_
    clear hT hr2
    have hfg : w2.heap.size ≠ g := by omega
    have hfm : w2.heap.size ≠ m := by omega
    have hf00 : w.heap.size ≤ w2.heap.size := hb2.size
    clear hb2
    generalize w2.heap.size = bx at *
    clear w2
    rintro w2 hT
    go_wp2_with fail
    go_loopg [12] L.length (fun z s12 wr => ∃ (k : Nat), k ≤ L.length ∧ z = L.length - k ∧ s12 = .int .i64 (k : Int) ∧ Played w g m bx k wr)
    case atStart => exact ⟨0, by omega, by omega, rfl, hT⟩
    case round =>
      clear hT w2
      obtain ⟨k, hk, rfl, rfl, hT⟩ := hrel
      by_cases hlt : k < L.length
      · obtain ⟨base, t, n, M, s, ad, cap, hP⟩ := hT
        obtain ⟨a, rfl, hLa⟩ := HL.out k hlt
        have hd : L[k]? = some L[k] := List.getElem?_eq_getElem hlt
        have fd := HF.out L[k] (List.getElem_mem hlt)
        generalize L[k] = d at hd fd
        have hD := deeds_below hLa hP.bel k d hd
        generalize hq : a.add (k * 3) = q
        have hall := deed_all hD hq
        clear hD hd hLa
        obtain ⟨qb, qo, qs⟩ := q
        have HP := Lib.hid hP
        clear hP
        go_upto_region 13 with (first | (refine wpList_load_cells (P := Try.prog) rfl 31 _ rfl ⟨qb, qo, qs⟩ rfl d.cells _ hall Try.underlying31 rfl (size_act _) ?_) | (refine wpList_store_row (P := Try.prog) rfl 31 (.tmp 13) (.tmp 62) rfl wr.heap.size d.cells rfl rfl 31 _ (heap_alloc_new wr _) (size_act _) rfl (one_act _) ?_))
        refine code_from (fun wc => ActIn wc wr.heap.size d ∧ Playing w g m bx k base t n M s ad cap wc) ⟨act_new, HP.out.below (item_below (Below.refl _ _) _ _)⟩ ?_
        have hba0 := HP.out.row.lt
        have hba1 := HP.out.row.mlt
        have hba2 := block_lt HP.out.box
        have hba3 := HP.out.bel.size
        clear hall HP
        generalize wr.heap.size = ba at *
        clear wr
        rintro wc ⟨hA, hP⟩
        have a0 : wc.cell? ⟨ba, 0, none⟩ = some (.int .u8 d.act) := cell_of_row _ _ 0 _ _ _ hA
        have a1 : wc.cell? ⟨ba, 1, none⟩ = some (.int .u64 d.slot) := cell_of_row _ _ 1 _ _ _ hA
        have a2 : wc.cell? ⟨ba, 2, none⟩ = some (.string d.value) := cell_of_row _ _ 2 _ _ _ hA
        go_upto_block 2 with fail
        go_cut [14, 15] (fun s14 s15 wx => ∃ c : Int, s14 = .int .i64 c ∧ s15 = .int .i64 c ∧ Acted w g m bx (k + 1) ba d wx)
        case first =>
          have HA := Lib.hid hA
          have HP := Lib.hid hP
          have Hfd := Lib.hid fd
          have hbg : ba ≠ g := by omega
          have hbm : ba ≠ m := by omega
          have hbx : ba ≠ bx := by omega
          clear hA hP fd
          by_cases ha0 : d.act = 0
          · have t0 : (d.act == 0) = true := by simp [ha0]
            clear ha0
            have hI := HP.out.both.inv
            have hI0 := hI.b0
            have hI1 := hI.bt
            have hI2 := hI.t1
            have het := HP.out.both.tied.et
            have hlen := HP.out.both.len
            have hle2 : s.top ≤ 4611686018427387904 := by omega
            have hle1 : 0 ≤ s.top := by omega
            clear hI het
            go_wp2_with fail
            refine (next_any g m base t n M _ HP.out.row (by omega) hI2).mono ?_
            rintro e w3 hgo
            obtain ⟨rfl, hAf, ho⟩ := next_both HP.out.both hgo
            obtain ⟨hbox, hlies, hbel⟩ := box_only HP.out ho hfg hfm hg0 hm0
            have hA := act_only HA.out ho hbg hbm
            clear hgo ho a0 a1 a2
            have hN : Nexting w g m bx (k + 1) ba w3.heap.size d s ad cap s.next s.nextItem ((w3.alloc (.cells (item 0 ByteArray.empty) 33 (0, 0))).setRow w3.heap.size (item s.nextItem.1 s.nextItem.2)) := by
              have hbb : Below w3.heap.size w3 ((w3.alloc (.cells (item 0 ByteArray.empty) 33 (0, 0))).setRow w3.heap.size (item s.nextItem.1 s.nextItem.2)) := item_below (Below.refl _ _) _ _
              exact ⟨item_new, (hbb.block _ (block_lt hbox)).trans hbox, hlies.below hbb, hAf.below hbb, (hbb.block _ (block_lt hA)).trans hA, hbel.trans (hbb.mono hbel.size)⟩
            have HN := Lib.hid hN
            clear hN hbox hlies hbel hA hAf
            generalize hni : s.nextItem = ni at *
            generalize hnb : s.nextIs = nb at *
            generalize hnx : s.next = s' at *
            go_upto_region 19 with (refine wpList_store_row (P := Try.prog) rfl 33 (.tmp 16) (.tmp 85) rfl w3.heap.size (item ni.1 ni.2) rfl rfl 33 _ (heap_alloc_new w3 _) (size_item _ _) rfl (one_item _ _) ?_)
            refine code_from (fun wd => Nexting w g m bx (k + 1) ba w3.heap.size d s ad cap s' ni wd) HN.out ?_
            clear HN
            generalize w3.heap.size = bi at *
            clear w3
            rintro w3 hN
            obtain ⟨x0, x1, x2⟩ := ref_reads hN.box
            have HN := Lib.hid hN
            clear hN
            go_wp2_with fail
            refine (refNext_any s ad cap w3 HN.out.lies (by omega) HP.out.room hle1 hle2).mono ?_
            rintro e w4 ⟨⟨v, rfl, ad', cap', rfl, hl', hrm'⟩, hb'⟩
            rw [hni, hnb]
            rw [hnx] at hl' hrm' ⊢
            clear hni hnb hnx
            have hN4 := HN.out.below hb'
            have Hl4 := Lib.hid hl'
            have Hrm := Lib.hid hrm'
            have HN4 := Lib.hid hN4
            clear HN hl' hrm' hN4 hb' x0 x1 x2
            have hbz : w.heap.size ≤ w4.heap.size := HN4.out.bel.size
            go_upto_region 20 with (first
              | (refine wpList_store_row (P := Try.prog) rfl 43 (.tmp 18) (.tmp 90) rfl w4.heap.size (refCells s'.base s'.top ad' s'.l.length cap') rfl rfl 43 _ (heap_alloc2_old w4 _ _) (size_row _ _ _ _ _) rfl (one_row _ _ _ _ _) ?_)
              | (refine wpList_store_row (P := Try.prog) rfl 33 (.tmp 19) (.tmp 91) rfl (w4.heap.size + 1) (item ni.1 ni.2) rfl rfl 33 _ ((setRow_other _ _ _ _ (by omega)).trans (heap_alloc2_new w4 _ _)) (size_item _ _) rfl (one_item _ _) ?_))
            have hbb : Below w4.heap.size w4 ((((w4.alloc (.cells (refCells 0 0 none 0 0) 43 (0, 0))).alloc (.cells (item 0 ByteArray.empty) 33 (0, 0))).setRow w4.heap.size (refCells s'.base s'.top ad' s'.l.length cap')).setRow (w4.heap.size + 1) (item ni.1 ni.2)) :=
              below_setRow (below_setRow (((Below.refl _ _).alloc (Nat.le_refl _) _).alloc (by simp) _) (Nat.le_refl _) _) (by omega) _
            refine code_from (fun wd => RefIn wd w4.heap.size s'.base s'.top ad' s'.l.length cap' ∧ ItemIn wd (w4.heap.size + 1) ni.1 ni.2 ∧ Lies wd ad' s'.l ∧ Nexting w g m bx (k + 1) ba bi d s ad cap s' ni wd)
              ⟨(setRow_other _ _ _ _ (by omega)).trans (setRow_heap _ _ _ _ _ _ (heap_alloc2_old w4 _ _)), setRow_heap _ _ _ _ _ _ ((setRow_other _ _ _ _ (by omega)).trans (heap_alloc2_new w4 _ _)), Hl4.out.below hbb, HN4.out.below hbb⟩ ?_
            clear hbb HN4 Hl4 hbz
            generalize w4.heap.size = bs at *
            clear w4
            rintro w4 ⟨hs, hi2, hl, hN4⟩
            obtain ⟨y0, y1, y2⟩ := ref_reads hs
            obtain ⟨hc4, hact⟩ := acted_store hN4.aft hN4.box hN4.bel hN4.act (Below.refl _ _) hl Hrm.out hfg hfm hf00 hbx
            have HC4 := Lib.hid hc4
            have hi3 : ItemIn (w4.setRow bx (refCells s'.base s'.top ad' s'.l.length cap')) bi ni.1 ni.2 := (setRow_other _ _ _ _ (fun e => by have h9 := hN4.box; rw [← e] at h9; have h8 := hN4.it; unfold RefIn at h9; unfold ItemIn at h8; rw [h8] at h9; injection h9 with h9; injection h9 with h9; injection h9 with h9; simp [item, refCells] at h9)).trans hN4.it
            have hi4 : ItemIn (w4.setRow bx (refCells s'.base s'.top ad' s'.l.length cap')) (bs + 1) ni.1 ni.2 := (setRow_other _ _ _ _ (fun e => by have h9 := hN4.box; rw [← e] at h9; have h8 := hi2; unfold RefIn at h9; unfold ItemIn at h8; rw [h8] at h9; injection h9 with h9; injection h9 with h9; injection h9 with h9; simp [item, refCells] at h9)).trans hi2
            have Hpack := Lib.hid (show ItemIn _ bi ni.1 ni.2 ∧ ItemIn _ (bs + 1) ni.1 ni.2 ∧ Acted w g m bx (k + 1) ba d _ from ⟨hi3, hi4, hact⟩)
            clear hs hi2 hl hN4 hi3 hi4 hact hc4
            go_upto_region 21 with (refine wpList_store_row (P := Try.prog) rfl 43 (.tmp 11) (.tmp 93) rfl bx (refCells s'.base s'.top ad' s'.l.length cap') rfl rfl 43 _ HC4.out (size_row _ _ _ _ _) rfl (one_row _ _ _ _ _) ?_)
            refine code_from (fun wd => ItemIn wd bi ni.1 ni.2 ∧ ItemIn wd (bs + 1) ni.1 ni.2 ∧ Acted w g m bx (k + 1) ba d wd) Hpack.out ?_
            clear Hpack HC4 y0 y1 y2
            clear w4
            rintro w4 ⟨hi3, hi4, hact⟩
            obtain ⟨p0, p1⟩ := item_reads hi3
            obtain ⟨q0, q1⟩ := item_reads hi4
            have HACT := Lib.hid hact
            clear hi3 hi4 hact
            obtain ⟨n1, n2⟩ := ni
            have hgi := guard_item
            have hne : ∀ wx, (binOp .neq 33 (.agg #[.int .u64 n1, .string n2]) (.agg #[.int .u64 n1, .string n2])).run Try.prog wx = .ok (.bool false) wx := fun wx => by rw [ne_item, same_self]; rfl
            cases nb with
            | true =>
              go_wp2_with fail
              go_meet
              case rel => exact ⟨0, rfl, rfl, HACT.out⟩
            | false =>
              go_wp2_with fail
              go_meet
              case rel => exact ⟨0, rfl, rfl, HACT.out⟩
          · have t0 : (d.act == 0) = false := by simp [ha0]
            clear ha0
            by_cases ha1 : d.act = 1
            · have t1 : (d.act == 1) = true := by simp [ha1]
              clear ha1
              go_wp2_with fail
              refine (keep_any d.slot HP.out.row).mono ?_
              rintro e w3 ⟨c, rfl, hgo⟩
              obtain ⟨rfl, hAf, ho⟩ := keep_both HP.out.both hgo
              clear hgo
              obtain ⟨hbox, hlies, hbel⟩ := box_only HP.out ho hfg hfm hg0 hm0
              have hA := act_only HA.out ho hbg hbm
              have hlen := HP.out.both.len
              have hsl := HP.out.room
              clear ho a0 a1 a2
              obtain ⟨x0, x1, x2⟩ := ref_reads hbox
              have a1 : w3.cell? ⟨ba, 1, none⟩ = some (.int .u64 d.slot) := cell_of_row _ _ 1 _ _ _ hA
              have HB := Lib.hid hbox
              have HLi := Lib.hid hlies
              have HBe := Lib.hid hbel
              have HAf := Lib.hid hAf
              have HA3 := Lib.hid hA
              clear hbox hlies hbel hAf hA
              go_wp2_with fail
              refine (refKeep_any s ad cap d.slot w3 HLi.out (by omega) HP.out.room).mono ?_
              rintro e w4 ⟨⟨v, rfl, ad', cap', rfl, hl', hrm'⟩, hb'⟩
              obtain ⟨hc4, hact⟩ := acted_store HAf.out HB.out HBe.out HA3.out hb' hl' hrm' hfg hfm hf00 hbx
              have HC4 := Lib.hid hc4
              have HACT := Lib.hid hact
              clear hc4 hact hl' hrm' hb'
              generalize s.keep d.slot = s' at *
              generalize s.keepCode d.slot = cc at *
              go_wp2_with (refine wpList_store_row (P := Try.prog) rfl 43 (.tmp 11) (.tmp 113) rfl bx (refCells s'.base s'.top ad' s'.l.length cap') rfl rfl 43 _ HC4.out (size_row _ _ _ _ _) rfl (one_row _ _ _ _ _) ?_)
              go_meet
              case rel => exact ⟨cc, rfl, rfl, HACT.out⟩
            · have t1 : (d.act == 1) = false := by simp [ha1]
              clear ha1
              by_cases ha2 : d.act = 2
              · have t2 : (d.act == 2) = true := by simp [ha2]
                clear ha2
                go_wp2_with fail
                refine (jump_any d.slot HP.out.row).mono ?_
                rintro e w3 ⟨c, rfl, hgo⟩
                obtain ⟨rfl, hAf, ho⟩ := jump_both HP.out.both hgo
                clear hgo
                obtain ⟨hbox, hlies, hbel⟩ := box_only HP.out ho hfg hfm hg0 hm0
                have hA := act_only HA.out ho hbg hbm
                have hlen := HP.out.both.len
                have hsl := HP.out.room
                clear ho a0 a1 a2
                obtain ⟨x0, x1, x2⟩ := ref_reads hbox
                have a1 : w3.cell? ⟨ba, 1, none⟩ = some (.int .u64 d.slot) := cell_of_row _ _ 1 _ _ _ hA
                have HB := Lib.hid hbox
                have HLi := Lib.hid hlies
                have HBe := Lib.hid hbel
                have HAf := Lib.hid hAf
                have HA3 := Lib.hid hA
                clear hbox hlies hbel hAf hA
                go_wp2_with fail
                refine (refJump_any s ad cap d.slot w3 HLi.out (by omega) HP.out.room).mono ?_
                rintro e w4 ⟨⟨v, rfl, ad', cap', rfl, hl', hrm'⟩, hb'⟩
                obtain ⟨hc4, hact⟩ := acted_store HAf.out HB.out HBe.out HA3.out hb' hl' hrm' hfg hfm hf00 hbx
                have HC4 := Lib.hid hc4
                have HACT := Lib.hid hact
                clear hc4 hact hl' hrm' hb'
                generalize s.jump d.slot = s' at *
                generalize s.jumpCode d.slot = cc at *
                go_wp2_with (refine wpList_store_row (P := Try.prog) rfl 43 (.tmp 11) (.tmp 126) rfl bx (refCells s'.base s'.top ad' s'.l.length cap') rfl rfl 43 _ HC4.out (size_row _ _ _ _ _) rfl (one_row _ _ _ _ _) ?_)
                go_meet
                case rel => exact ⟨cc, rfl, rfl, HACT.out⟩
              · have t2 : (d.act == 2) = false := by simp [ha2]
                clear ha2
                have hs0 := (u_iff.1 Hfd.out.slot).1
                have hvs := Hfd.out.value
                have hnk := HP.out.both.inv.nk
                go_wp2_with fail
                refine (put_any d.slot d.value HP.out.row hs0 hvs (by unfold maxLen; omega)).mono ?_
                rintro e w3 ⟨rfl, hr, ho⟩
                obtain ⟨hcode, hboth⟩ := HP.out.both.put d.slot d.value
                rw [← hcode]
                have hAf : After g m (k + 1) (s.put d.slot d.value) w3 := ⟨_, _, _, _, hboth, hr⟩
                clear hcode hboth hr
                obtain ⟨hbox, hlies, hbel⟩ := box_only HP.out ho hfg hfm hg0 hm0
                have hA := act_only HA.out ho hbg hbm
                have hlen := HP.out.both.len
                have hsl := HP.out.room
                clear ho a0 a1 a2
                obtain ⟨x0, x1, x2⟩ := ref_reads hbox
                have a1 : w3.cell? ⟨ba, 1, none⟩ = some (.int .u64 d.slot) := cell_of_row _ _ 1 _ _ _ hA
                have a2 : w3.cell? ⟨ba, 2, none⟩ = some (.string d.value) := cell_of_row _ _ 2 _ _ _ hA
                have HB := Lib.hid hbox
                have HLi := Lib.hid hlies
                have HBe := Lib.hid hbel
                have HAf := Lib.hid hAf
                have HA3 := Lib.hid hA
                clear hbox hlies hbel hAf hA
                go_wp2_with fail
                refine (refPut_any s ad cap d.slot d.value w3 HLi.out (by omega) HP.out.room hs0).mono ?_
                rintro e w4 ⟨⟨v, rfl, ad', cap', rfl, hl', hrm'⟩, hb'⟩
                obtain ⟨hc4, hact⟩ := acted_store HAf.out HB.out HBe.out HA3.out hb' hl' hrm' hfg hfm hf00 hbx
                have HC4 := Lib.hid hc4
                have HACT := Lib.hid hact
                clear hc4 hact hl' hrm' hb'
                generalize s.put d.slot d.value = s' at *
                generalize s.putCode d.slot d.value = cc at *
                go_wp2_with (refine wpList_store_row (P := Try.prog) rfl 43 (.tmp 11) (.tmp 78) rfl bx (refCells s'.base s'.top ad' s'.l.length cap') rfl rfl 43 _ HC4.out (size_row _ _ _ _ _) rfl (one_row _ _ _ _ _) ?_)
                go_meet
                case rel => exact ⟨cc, rfl, rfl, HACT.out⟩
        case rest =>
          have HL2 := Lib.hid (HL.out)
          clear hP hA a0 a1 a2 HL
          obtain ⟨c, rfl, rfl, hact, hplayed⟩ := hcut
          have hdu := fd.slot
          have a1 : wc.cell? ⟨ba, 1, none⟩ = some (.int .u64 d.slot) := cell_of_row _ _ 1 _ _ _ hact
          clear hact fd
          obtain ⟨base', t', n', M', s', ad', cap', hP⟩ := hplayed
          have hh0 := held_of hP (by omega)
          obtain ⟨x0, x1, x2, _⟩ := hh0
          have HP := Lib.hid hP
          clear hP
          have hlen := HP.out.both.len
          go_wp2_with fail
          refine (get_any HP.out.row d.slot hdu).mono ?_
          rintro e w5 ⟨rfl, rfl⟩
          go_wp2_with fail
          refine (refGet_any s'.base s'.top ad' cap' s'.l d.slot _ HP.out.lies (by omega)).mono ?_
          rintro e w6 ⟨hsay, hb6⟩
          unfold GetSays at hsay
          rw [HP.out.both.tied.get] at hsay
          subst hsay
          have hh := held_of (HP.out.below hb6) (show k + 1 ≤ 200 by omega)
          clear x0 x1 x2 a1 hb6 HP hdu hlen
          generalize (M' d.slot).getD ByteArray.empty = vv
          generalize (M' d.slot).isSome = vb
          have tb2 : (vb != vb) = false := by simp
          go_upto_region 31 with fail
          go_region_held3 (fun w' => w'.cell? ⟨bx, 0, none⟩ = some (.int .u64 s'.base) ∧ w'.cell? ⟨bx, 1, none⟩ = some (.int .u64 s'.top) ∧ w'.cell? ⟨bx, 2, none⟩ = some (.slice ad' s'.l.length cap') ∧ Standing w g m bx (k + 1) base' t' n' M' s' ad' cap' w')
            (first | exact held_drew hh | exact hh | assumption)
            (first
              | (go_at_call 15; refine (held_base (by assumption)).mono ?_; rintro e w1 ⟨rfl, hh⟩)
              | (go_at_call 14; refine (held_top (by assumption)).mono ?_; rintro e w1 ⟨rfl, hh⟩)
              | (go_at_call 23; refine (held_last (by assumption)).mono ?_; rintro e w1 ⟨rfl, hh⟩)
              | (go_at_call 24; refine (held_refLast (by assumption)).mono ?_; rintro e w1 ⟨rfl, hh⟩)
              | (go_at_call 13; refine (held_items f most (by assumption) hf0 hf1).mono ?_; rintro e w1 ⟨⟨adp, capp, rfl, hlp⟩, hh⟩)
              | (go_at_call 26; refine (held_refItems f most _ _ (by assumption) hlp).mono ?_; rintro e w1 ⟨⟨adq, capq, rfl, hlq, hlp2⟩, hh⟩)
              | (go_at_call 25; refine (held_same f most _ _ _ _ (by assumption) hlp2 hlq).mono ?_; rintro e w1 ⟨rfl, hh⟩))
          go_wp2_with fail
          go_roundg (L.length - (k + 1))
          case measure => omega
          case rel => exact ⟨k + 1, by omega, rfl, by go_num, _, _, _, _, _, _, _, hh.2.2.2.play⟩
      · have hke : k = L.length := by omega
        subst hke
        obtain ⟨base', t', n', M', s', ad', cap', hP⟩ := hT
        have hh := held_of hP h200
        clear hP
        have hz0 : (0 : Int) ≤ 0 := Int.le_refl _
        have hz1 : (0 : Int) < 18446744073709551616 := by decide
        go_upto_region 33 with fail
        go_region_held3 (fun w' => w'.cell? ⟨bx, 0, none⟩ = some (.int .u64 s'.base) ∧ w'.cell? ⟨bx, 1, none⟩ = some (.int .u64 s'.top) ∧ w'.cell? ⟨bx, 2, none⟩ = some (.slice ad' s'.l.length cap') ∧ Standing w g m bx L.length base' t' n' M' s' ad' cap' w')
          (first | exact held_drew hh | exact hh | assumption)
          (first
            | (go_at_call 13; refine (held_items 0 300 (by assumption) hz0 hz1).mono ?_; rintro e w1 ⟨⟨adp, capp, rfl, hlp⟩, hh⟩)
            | (go_at_call 26; refine (held_refItems 0 300 _ _ (by assumption) hlp).mono ?_; rintro e w1 ⟨⟨adq, capq, rfl, hlq, hlp2⟩, hh⟩)
            | (go_at_call 25; refine (held_same 0 300 _ _ _ _ (by assumption) hlp2 hlq).mono ?_; rintro e w1 ⟨rfl, hh⟩)
            | (go_at_call 8; refine (held_wakes (by assumption)).mono ?_; rintro e w1 ⟨rfl, hh⟩))
        go_wp2_with fail
        go_ret
        exact ⟨rfl, hh.2.2.2.play.bel⟩
end Go.Proofs.Ytfkofdhobhalpaa
