/-
  THE WALK of the law SlotsOnce.
-/
import Derived.Test.YtfkofdhobhalpaaFirst
namespace Go.Proofs.Ytfkofdhobhalpaa
open Go.RowKit Go.Maps Go.BigFrame

theorem keep_turned {w w1 w2 : World} {g m fb k : Nat} {base top : Int} {n nF : Nat} {M F : Vals} {u c : Int} (hI : Inv base top n k M) (hF : Firsts base M F) (hk : nF ≤ k) (hmap : MapAt w1 fb nF F) (hb : Below w.heap.size w w1) (hg : w.heap.size ≤ g) (hm : w.heap.size ≤ m)
    (hfg : fb ≠ g) (hfm : fb ≠ m) (h : KeepGoes g m base top n M w1 u c w2) : Turned w g m fb (k + 1) top w2 := by
  obtain ⟨hno, hyes, ho⟩ := h
  have hb2 := below_only hb ho hg hm
  have hm2 := hmap.only ho hfg hfm
  by_cases h1 : u ≤ 4611686018427387904 ∧ u ≤ top
  · obtain ⟨_, ha, hc⟩ := hyes h1.1 h1.2
    by_cases h2 : base < u
    · exact ⟨u, n, nF, _, F, inv_keep hI h1.2 h2, firsts_drop hF (by omega), by omega, ha h2, hm2, hb2⟩
    · exact ⟨base, n, nF, M, F, hI.more, hF, by omega, hc (by omega), hm2, hb2⟩
  · obtain ⟨_, hr⟩ := hno h1
    exact ⟨base, n, nF, M, F, hI.more, hF, by omega, hr, hm2, hb2⟩

set_option maxRecDepth 100000 in
set_option maxHeartbeats 6400000 in
theorem once_go (b0 : Int) (v : Value) (L : List Deed) (w : World) (hv : Deeds w v L) (h0 : 0 ≤ b0) (h1 : b0 ≤ 4611686018427387904) :
    Calls Try.prog 6 #[.int .u64 b0, v] w fun r w' => r = .returned (.bool true) ∧ Below w.heap.size w w' := by
  have HG := Lib.hid (great_deeds hv)
  obtain ⟨ad0, cap, rfl, hL, hfit, hn⟩ := deeds_form hv
  have HL := Lib.hid hL
  have HF := Lib.hid hfit
  clear hv hL hfit
  have hmm := @run_makeMap Try.prog
  go_enter Try.func6, Try.ntmps6
  go_wp2_with fail
  refine HG.out.mono ?_
  rintro e w1 ⟨⟨b, rfl, hb⟩, rfl⟩
  cases b with
  | true =>
    clear hb
    go_wp2_with fail
    refine (wakes_any _).mono ?_
    rintro e w' ⟨rfl, hb⟩
    go_wp2_with fail
    go_ret
    exact ⟨rfl, hb⟩
  | false =>
    have h200 := hb rfl
    clear hb hn
    go_wp2_with fail
    refine (new_yes b0 _ h1).mono ?_
    rintro e w2 ⟨rfl, hr2, hb2⟩
    generalize hg : w.heap.size + 1 = g at *
    generalize hm : w.heap.size = m at hr2
    have hg0 : w.heap.size ≤ g := by omega
    have hm0 : w.heap.size ≤ m := by omega
    have hgm : m + 1 = g := by omega
    clear hg hm
    have hlt2 := hr2.lt
    have o0 := World.ownsMap_made w2 Try.prog 29 (plainElem (H := Unit) Try.prog 9)
    go_upto_region 7 with fail
    have hT : Turned w g m w2.heap.size 0 b0 (w2.alloc (.map #[] 0)) := ⟨b0, 0, 0, _, _, inv_start h0 h1, firsts_start b0, Nat.le_refl _, hr2.alloc _, ⟨_, o0, holds_none⟩, hb2.alloc hb2.size _⟩
    refine code_from (fun wd => Turned w g m w2.heap.size 0 b0 wd) hT ?_
    clear hT o0 hr2 hb2 hmm
    have hfg : w2.heap.size ≠ g := by omega
    have hfm : w2.heap.size ≠ m := by omega
    have hf0 : w.heap.size ≤ w2.heap.size := by omega
    generalize w2.heap.size = fb at *
    clear w2
    rintro w2 hT
    go_wp2_with fail
    go_loopg [8, 9] L.length (fun z s8 s9 wr => ∃ (k : Nat) (t : Int), k ≤ L.length ∧ z = L.length - k ∧ s8 = .int .u64 t ∧ s9 = .int .i64 (k : Int) ∧ Turned w g m fb k t wr)
    case atStart => exact ⟨0, b0, by omega, by omega, rfl, rfl, hT⟩
    case round =>
      clear hT w2
      obtain ⟨k, t, hk, rfl, rfl, rfl, hT⟩ := hrel
      by_cases hlt : k < L.length
      · obtain ⟨base, n, nF, M, F, hI, hFi, hnF, hr, hmap, hbel⟩ := hT
        obtain ⟨a, rfl, hLa⟩ := HL.out k hlt
        have hd : L[k]? = some L[k] := List.getElem?_eq_getElem hlt
        have fd := HF.out L[k] (List.getElem_mem hlt)
        generalize L[k] = d at hd fd
        have hD := deeds_below hLa hbel k d hd
        generalize hq : a.add (k * 3) = q
        have hall := deed_all hD hq
        clear hD hd hLa
        obtain ⟨qb, qo, qs⟩ := q
        have hb0 := hr.lt
        have hb1 := hmap.lt
        go_upto_region 12 with (first | (refine wpList_load_cells (P := Try.prog) rfl 31 _ rfl ⟨qb, qo, qs⟩ rfl d.cells _ hall Try.underlying31 rfl (size_act _) ?_) | (refine wpList_store_row (P := Try.prog) rfl 31 (.tmp 10) (.tmp 48) rfl wr.heap.size d.cells rfl rfl 31 _ (heap_alloc_new wr _) (size_act _) rfl (one_act _) ?_))
        refine code_from (fun wc => ActIn wc wr.heap.size d ∧ RowAt wc g m base t n M ∧ MapAt wc fb nF F ∧ Below w.heap.size w wc)
          ⟨act_new, item_row hr _ _, hmap.same ((setRow_other _ _ _ _ (by omega)).trans (Below.heap_alloc wr _ fb hb1)), item_below hbel _ _⟩ ?_
        clear hr hmap hbel hall
        generalize wr.heap.size = ba at *
        clear wr
        rintro wc ⟨hA, hr, hmap, hbel⟩
        have a0 : wc.cell? ⟨ba, 0, none⟩ = some (.int .u8 d.act) := cell_of_row _ _ 0 _ _ _ hA
        have hI0 := hI.b0
        have hI1 := hI.bt
        have hI2 := hI.t1
        have hI3 := hI.nk
        go_upto_block 2 with fail
        go_cut [8] (fun s8 wx => ∃ t' : Int, s8 = .int .u64 t' ∧ Turned w g m fb (k + 1) t' wx)
        case first =>
          have a1 : wc.cell? ⟨ba, 1, none⟩ = some (.int .u64 d.slot) := cell_of_row _ _ 1 _ _ _ hA
          have a2 : wc.cell? ⟨ba, 2, none⟩ = some (.string d.value) := cell_of_row _ _ 2 _ _ _ hA
          have HA := Lib.hid hA
          have Hr := Lib.hid hr
          have Hm := Lib.hid hmap
          have Hb := Lib.hid hbel
          have HI := Lib.hid hI
          have HFi := Lib.hid hFi
          have Hfd := Lib.hid fd
          have hbg : ba ≠ g := by omega
          have hbm : ba ≠ m := by omega
          have hbf : ba ≠ fb := by omega
          clear hA hr hmap hbel hI hFi fd
          by_cases ha0 : d.act = 0
          · have t0 : (d.act == 0) = true := by simp [ha0]
            clear ha0
            go_wp2_with fail
            refine (next_any g m base t n M _ Hr.out (by omega) hI2).mono ?_
            rintro e w3 ⟨hno, hyes, ho⟩
            have hmap := Hm.out.only ho hfg hfm
            have hbel := below_only Hb.out ho hg0 hm0
            clear ho a0 a1 a2
            cases hM : M (t + 1) with
            | none =>
              obtain ⟨rfl, hr⟩ := hno hM
              have HT := Lib.hid (show Turned w g m fb (k + 1) t w3 from ⟨base, n, nF, M, F, HI.out.more, HFi.out, by omega, hr, hmap, hbel⟩)
              clear hno hyes hM hr hmap hbel
              go_wp2_with (refine wpList_store_row (P := Try.prog) rfl 33 (.tmp 11) (.tmp 104) rfl w3.heap.size (item 0 ByteArray.empty) rfl rfl 33 _ (heap_alloc_new w3 _) (size_item _ _) rfl (one_item _ _) ?_)
              go_roundg (L.length - (k + 1))
              case measure => omega
              case rel => exact ⟨k + 1, t, by omega, rfl, rfl, by go_num, turned_item HT.out _ _⟩
            | some u =>
              obtain ⟨rfl, hr⟩ := hyes u hM
              have hFv : F (t + 1) = some u := (HFi.out.same _ (by omega)).trans hM
              have HM := Lib.hid hM
              clear hno hyes hM
              go_upto_region 23 with (refine wpList_store_row (P := Try.prog) rfl 33 (.tmp 11) (.tmp 104) rfl w3.heap.size (item (t + 1) u) rfl rfl 33 _ (heap_alloc_new w3 _) (size_item _ _) rfl (one_item _ _) ?_)
              have h1 := hmap.lt
              refine code_from (fun wd => ItemIn wd w3.heap.size (t + 1) u ∧ RowAt wd g m base (t + 1) n M ∧ MapAt wd fb nF F ∧ Below w.heap.size w wd)
                ⟨item_new, item_row hr _ _, hmap.same ((setRow_other _ _ _ _ (by omega)).trans (Below.heap_alloc w3 _ fb h1)), item_below hbel _ _⟩ ?_
              clear hr hmap hbel h1
              generalize w3.heap.size = bi at *
              clear w3
              rintro w3 ⟨hi, hr, hmap, hbel⟩
              have i0 : w3.cell? ⟨bi, 0, none⟩ = some (.int .u64 (t + 1)) := cell_of_row _ _ 0 _ _ _ hi
              have i1 : w3.cell? ⟨bi, 1, none⟩ = some (.string u) := cell_of_row _ _ 1 _ _ _ hi
              have hl := hmap.look (k := t + 1) (u_iff.2 ⟨by omega, by omega⟩)
              rw [hFv] at hl
              simp only [Option.getD_some, Option.isSome_some] at hl
              have HT := Lib.hid (show Turned w g m fb (k + 1) (t + 1) w3 from ⟨base, n, nF, M, F, inv_next HI.out HM.out, HFi.out, by omega, hr, hmap, hbel⟩)
              clear hi hr hmap hbel hFv
              go_wp2_with fail
              go_meet
              case rel => exact ⟨t + 1, rfl, HT.out⟩
          · have t0 : (d.act == 0) = false := by simp [ha0]
            clear ha0
            by_cases ha1 : d.act = 1
            · have t1 : (d.act == 1) = true := by simp [ha1]
              clear ha1
              go_wp2_with fail
              refine (keep_any d.slot Hr.out).mono ?_
              rintro e w3 ⟨c, rfl, hgo⟩
              have HT := Lib.hid (keep_turned HI.out HFi.out hnF Hm.out Hb.out hg0 hm0 hfg hfm hgo)
              clear hgo a0 a1 a2
              go_wp2_with fail
              go_meet
              case rel => exact ⟨t, rfl, HT.out⟩
            · have t1 : (d.act == 1) = false := by simp [ha1]
              clear ha1
              by_cases ha2 : d.act = 2
              · have t2 : (d.act == 2) = true := by simp [ha2]
                clear ha2
                go_wp2_with fail
                refine (jump_any d.slot Hr.out).mono ?_
                rintro e w3 ⟨c, rfl, hno, hyes, ho⟩
                have hmap := Hm.out.only ho hfg hfm
                have hbel := below_only Hb.out ho hg0 hm0
                have hA := act_only HA.out ho hbg hbm
                clear ho a0 a1 a2
                by_cases hj : d.slot ≤ 4611686018427387904 ∧ t ≤ d.slot
                · obtain ⟨rfl, hr⟩ := hyes hj.1 hj.2
                  have a1 : w3.cell? ⟨ba, 1, none⟩ = some (.int .u64 d.slot) := cell_of_row _ _ 1 _ _ _ hA
                  have HT := Lib.hid (show Turned w g m fb (k + 1) d.slot w3 from ⟨d.slot, n, nF, _, F, inv_jump HI.out hj.1 hj.2, firsts_drop HFi.out (by omega), by omega, hr, hmap, hbel⟩)
                  clear hno hyes hr hmap hbel hA hj
                  go_wp2_with fail
                  go_meet
                  case rel => exact ⟨d.slot, rfl, HT.out⟩
                · obtain ⟨rfl, hr⟩ := hno hj
                  have HT := Lib.hid (show Turned w g m fb (k + 1) t w3 from ⟨base, n, nF, M, F, HI.out.more, HFi.out, by omega, hr, hmap, hbel⟩)
                  clear hno hyes hr hmap hbel hA hj
                  go_wp2_with fail
                  go_meet
                  case rel => exact ⟨t, rfl, HT.out⟩
              · have t2 : (d.act == 2) = false := by simp [ha2]
                clear ha2
                have hs0 := (u_iff.1 Hfd.out.slot).1
                have hvs := Hfd.out.value
                have hl := Hm.out.look Hfd.out.slot
                by_cases hlo : d.slot ≤ base
                · have tb : decide (base < d.slot) = false := by simp; omega
                  generalize (F d.slot).getD ByteArray.empty = old at hl
                  generalize (F d.slot).isSome = had at hl
                  go_wp2_with fail
                  refine (base_any Hr.out).mono ?_
                  rintro e w3 ⟨rfl, rfl⟩
                  go_wp2_with fail
                  refine (put_any d.slot d.value Hr.out hs0 hvs (by unfold maxLen; omega)).mono ?_
                  rintro e w3 ⟨rfl, hr, ho⟩
                  rw [vals_low hlo] at hr
                  generalize putCode base M d.slot d.value = c
                  have hmap := Hm.out.only ho hfg hfm
                  have hbel := below_only Hb.out ho hg0 hm0
                  have hA := act_only HA.out ho hbg hbm
                  clear ho a0 a1 a2 hl
                  have a1 : w3.cell? ⟨ba, 1, none⟩ = some (.int .u64 d.slot) := cell_of_row _ _ 1 _ _ _ hA
                  have a2 : w3.cell? ⟨ba, 2, none⟩ = some (.string d.value) := cell_of_row _ _ 2 _ _ _ hA
                  have HT := Lib.hid (show Turned w g m fb (k + 1) t w3 from ⟨base, n + 1, nF, M, F, inv_same HI.out, HFi.out, by omega, hr, hmap, hbel⟩)
                  clear hr hmap hbel hA hlo
                  rcases Bool.eq_false_or_eq_true (c == 0) with tc | tc
                  · go_wp2_with fail
                    go_meet
                    case rel => exact ⟨t, rfl, HT.out⟩
                  · go_wp2_with fail
                    go_meet
                    case rel => exact ⟨t, rfl, HT.out⟩
                · have hbs : base < d.slot := by omega
                  have tb : decide (base < d.slot) = true := by simpa using hbs
                  clear hlo
                  cases hFk : F d.slot with
                  | none =>
                    have hM := (HFi.out.same _ hbs).symm.trans hFk
                    rw [hFk] at hl
                    simp only [Option.getD_none, Option.isSome_none] at hl
                    clear hFk
                    by_cases hf : d.slot ≤ 4611686018427387904
                    · go_wp2_with fail
                      refine (base_any Hr.out).mono ?_
                      rintro e w3 ⟨rfl, rfl⟩
                      go_wp2_with fail
                      refine (put_any d.slot d.value Hr.out hs0 hvs (by unfold maxLen; omega)).mono ?_
                      rintro e w3 ⟨rfl, hr, ho⟩
                      rw [vals_none hI0 hbs hf hM] at hr
                      rw [code_none hI0 hbs hf hM]
                      have hmap := Hm.out.only ho hfg hfm
                      have hbel := below_only Hb.out ho hg0 hm0
                      have hA := act_only HA.out ho hbg hbm
                      clear ho a0 a1 a2 hl
                      have a1 : w3.cell? ⟨ba, 1, none⟩ = some (.int .u64 d.slot) := cell_of_row _ _ 1 _ _ _ hA
                      have a2 : w3.cell? ⟨ba, 2, none⟩ = some (.string d.value) := cell_of_row _ _ 2 _ _ _ hA
                      have hIn := inv_put (s := d.slot) (v := d.value) HI.out
                      rw [vals_none hI0 hbs hf hM] at hIn
                      obtain ⟨w4, hrun, hmap4, hg4⟩ := hmap.store Hfd.out.slot hvs (by unfold maxLen; omega)
                      have HT := Lib.hid (show Turned w g m fb (k + 1) t w4 from ⟨base, n + 1, nF + 1, _, _, hIn, firsts_put HFi.out hbs, by omega, row_upd hr hg4 hfg hfm, hmap4, below_upd hbel hg4 hf0⟩)
                      have hA4 := act_upd hA hg4 hbf
                      have b1 : w4.cell? ⟨ba, 1, none⟩ = some (.int .u64 d.slot) := cell_of_row _ _ 1 _ _ _ hA4
                      clear hr hmap hbel hA hIn hM hmap4 hg4 hA4
                      go_wp2_with fail
                      go_meet
                      case rel => exact ⟨t, rfl, HT.out⟩
                    · have hf2 : 4611686018427387904 < d.slot := by omega
                      clear hf
                      go_wp2_with fail
                      refine (base_any Hr.out).mono ?_
                      rintro e w3 ⟨rfl, rfl⟩
                      go_wp2_with fail
                      refine (put_any d.slot d.value Hr.out hs0 hvs (by unfold maxLen; omega)).mono ?_
                      rintro e w3 ⟨rfl, hr, ho⟩
                      rw [vals_far hf2] at hr
                      rw [code_far hf2]
                      have hmap := Hm.out.only ho hfg hfm
                      have hbel := below_only Hb.out ho hg0 hm0
                      have hA := act_only HA.out ho hbg hbm
                      clear ho a0 a1 a2 hl
                      have a1 : w3.cell? ⟨ba, 1, none⟩ = some (.int .u64 d.slot) := cell_of_row _ _ 1 _ _ _ hA
                      have a2 : w3.cell? ⟨ba, 2, none⟩ = some (.string d.value) := cell_of_row _ _ 2 _ _ _ hA
                      have HT := Lib.hid (show Turned w g m fb (k + 1) t w3 from ⟨base, n + 1, nF, M, F, inv_same HI.out, HFi.out, by omega, hr, hmap, hbel⟩)
                      clear hr hmap hbel hA hM
                      go_wp2_with fail
                      go_meet
                      case rel => exact ⟨t, rfl, HT.out⟩
                  | some old =>
                    have hM := (HFi.out.same _ hbs).symm.trans hFk
                    have hf : d.slot ≤ 4611686018427387904 := (HI.out.vals d.slot (by rw [hM]; rfl)).2
                    rw [hFk] at hl
                    simp only [Option.getD_some, Option.isSome_some] at hl
                    clear hFk
                    by_cases hov : old = d.value
                    · subst hov
                      go_wp2_with fail
                      refine (base_any Hr.out).mono ?_
                      rintro e w3 ⟨rfl, rfl⟩
                      go_wp2_with fail
                      refine (put_any d.slot d.value Hr.out hs0 hvs (by unfold maxLen; omega)).mono ?_
                      rintro e w3 ⟨rfl, hr, ho⟩
                      rw [vals_same hI0 hbs hf hM] at hr
                      rw [code_same hI0 hbs hf hM]
                      have hmap := Hm.out.only ho hfg hfm
                      have hbel := below_only Hb.out ho hg0 hm0
                      have hA := act_only HA.out ho hbg hbm
                      clear ho a0 a1 a2 hl
                      have a1 : w3.cell? ⟨ba, 1, none⟩ = some (.int .u64 d.slot) := cell_of_row _ _ 1 _ _ _ hA
                      have a2 : w3.cell? ⟨ba, 2, none⟩ = some (.string d.value) := cell_of_row _ _ 2 _ _ _ hA
                      have hIn := inv_put (s := d.slot) (v := d.value) HI.out
                      rw [vals_same hI0 hbs hf hM] at hIn
                      have HT := Lib.hid (show Turned w g m fb (k + 1) t w3 from ⟨base, n + 1, nF, _, F, hIn, firsts_again HFi.out hbs hM, by omega, hr, hmap, hbel⟩)
                      clear hr hmap hbel hA hM hIn hf
                      go_wp2_with fail
                      go_meet
                      case rel => exact ⟨t, rfl, HT.out⟩
                    · have tv : (old.toList == d.value.toList) = false := by
                        rw [beq_eq_false_iff_ne]
                        exact fun e => hov (text_inj e)
                      go_wp2_with fail
                      refine (base_any Hr.out).mono ?_
                      rintro e w3 ⟨rfl, rfl⟩
                      go_wp2_with fail
                      refine (put_any d.slot d.value Hr.out hs0 hvs (by unfold maxLen; omega)).mono ?_
                      rintro e w3 ⟨rfl, hr, ho⟩
                      rw [vals_other hM hov] at hr
                      rw [code_other hI0 hbs hf hM hov]
                      have hmap := Hm.out.only ho hfg hfm
                      have hbel := below_only Hb.out ho hg0 hm0
                      have hA := act_only HA.out ho hbg hbm
                      clear ho a0 a1 a2 hl
                      have a1 : w3.cell? ⟨ba, 1, none⟩ = some (.int .u64 d.slot) := cell_of_row _ _ 1 _ _ _ hA
                      have a2 : w3.cell? ⟨ba, 2, none⟩ = some (.string d.value) := cell_of_row _ _ 2 _ _ _ hA
                      have HT := Lib.hid (show Turned w g m fb (k + 1) t w3 from ⟨base, n + 1, nF, M, F, inv_same HI.out, HFi.out, by omega, hr, hmap, hbel⟩)
                      clear hr hmap hbel hA hM hf hov
                      go_wp2_with fail
                      go_meet
                      case rel => exact ⟨t, rfl, HT.out⟩
        case rest =>
          clear hA hr hmap hbel a0 hI hI0 hI1 hI2 hI3 hFi
          obtain ⟨t', rfl, base', n', nF', M', F', hI, hFi, hnF', hr, hmap, hbel⟩ := hcut
          have hI1 := hI.bt
          have hI2 := hI.t1
          have hI0 := hI.b0
          go_wp2_with fail
          refine (top_any hr).mono ?_
          rintro e w3 ⟨rfl, rfl⟩
          have tt : (t' != t') = false := by simp
          go_wp2_with fail
          refine (base_any hr).mono ?_
          rintro e w3 ⟨rfl, rfl⟩
          go_wp2_with fail
          refine (last_any hr (by omega) hI2).mono ?_
          rintro e w3 ⟨⟨x, rfl, hx⟩, hb3⟩
          have hx1 := hx.1
          replace hr := hr.below hb3 (Nat.le_refl _)
          replace hmap := hmap.below hb3
          replace hbel := hbel.trans (hb3.mono hbel.size)
          clear hb3 hx
          have HT := Lib.hid (show Turned w g m fb (k + 1) t' w3 from ⟨base', n', nF', M', F', hI, hFi, hnF', hr, hmap, hbel⟩)
          clear hI hFi hr hmap hbel
          go_wp2_with fail
          go_roundg (L.length - (k + 1))
          case measure => omega
          case rel => exact ⟨k + 1, t', by omega, rfl, rfl, by go_num, HT.out⟩
      · obtain ⟨base, n, nF, M, F, hI, hFi, hnF, hr, hmap, hbel⟩ := hT
        go_wp2_with fail
        refine (wakes_any _).mono ?_
        rintro e w' ⟨rfl, hb⟩
        go_wp2_with fail
        go_ret
        exact ⟨rfl, hbel.trans (hb.mono hbel.size)⟩
end Go.Proofs.Ytfkofdhobhalpaa
