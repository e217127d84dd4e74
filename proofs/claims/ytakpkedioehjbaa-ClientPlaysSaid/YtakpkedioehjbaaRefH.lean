/-
  THE WALK of the reference client's Invoke of a client that does not wait.
-/
import Derived.Test.YtakpkedioehjbaaRefG
import Derived.Test.YtakpkedioehjbaaOnceA
import Derived.Deep.RegionLaw
import Derived.Deep.CutBlock
import Derived.Deep.DeepCutAuto
namespace Go.Proofs.Ytakpkedioehjbaa
open Go.RowKit Go.Maps Go.BigFrame

theorem grown_one (w : World) (o : Obj) : w.grownBy (w.alloc o) none := ⟨rfl, rfl, rfl, by simp, fun i hi _ => Below.heap_alloc w o i hi⟩
theorem inv4_drew {w W : World} {s : St} {ad : Option Addr} {n cap : Nat} {y : Cmd} (h : Inv4 w s ad n cap y W) : Inv4 w s ad n cap y W.drew := ⟨h.box, h.cmd, h.out, h.letter, h.bel.drew⟩
theorem inv4_alloc {w W : World} {s : St} {ad : Option Addr} {n cap : Nat} {y : Cmd} (h : Inv4 w s ad n cap y W) (o : Obj) : Inv4 w s ad n cap y (W.alloc o) :=
  ⟨(Below.heap_alloc _ o _ (block_lt h.box)).trans h.box, (Below.heap_alloc _ o _ (block_lt h.cmd)).trans h.cmd, (Below.heap_alloc _ o _ (block_lt h.out)).trans h.out, (Below.heap_alloc _ o _ (letter_lt h.letter)).trans h.letter, h.bel.alloc h.bel.size _⟩
theorem inv4_grown {w W w1 : World} {s : St} {ad : Option Addr} {n cap : Nat} {y : Cmd} (h : Inv4 w s ad n cap y W) (hg : W.grownBy w1 none) : Inv4 w s ad n cap y w1 :=
  ⟨(hg.block _ (block_lt h.box) (by simp)).trans h.box, (hg.block _ (block_lt h.cmd) (by simp)).trans h.cmd, (hg.block _ (block_lt h.out) (by simp)).trans h.out, (hg.block _ (letter_lt h.letter) (by simp)).trans h.letter,
    ⟨hg.os.trans h.bel.os, hg.tape.trans h.bel.tape, hg.output.trans h.bel.output, Nat.le_trans h.bel.size hg.size, fun i hi => (hg.block i (Nat.lt_of_lt_of_le hi h.bel.size) (by simp)).trans (h.bel.block i hi)⟩⟩
def InvokeSays (s : St) (ad : Option Addr) (cap : Nat) (l : List Cmd) (x : Cmd) (w : World) (r : Ending) (w' : World) : Prop :=
  ((s.named x).mayB = false → r = .returned (.tuple #[.agg (rcells s ad l.length cap), .agg Letter.zero.cells, .int .i64 2])) ∧
  ((s.named x).mayB = true → ∃ ad' cap', r = .returned (.tuple #[.agg (rcells (s.invoked x) ad' (l ++ [s.named x]).length cap'), .agg (s.invoked x).asks.cells, .int .i64 0]) ∧ LiesC w' ad' (l ++ [s.named x])) ∧ Below w.heap.size w w'
/-- Behind the appends. -/
structure Longer (w : World) (s : St) (l : List Cmd) (x : Cmd) (ad : Option Addr) (cap : Nat) (wd : World) : Prop where
  box : RefIn wd w.heap.size s ad (l ++ [x]).length cap
  lies : LiesC wd ad (l ++ [x])
  out : RefIn wd (w.heap.size + 2) rzero none 0 0
  letter : Letter.In wd (w.heap.size + 3) Letter.zero
  bel : Below w.heap.size w wd
  far : ∀ q, ad = some ⟨q, 0, none⟩ → w.heap.size + 4 ≤ q
theorem LiesC.set {w : World} {ad : Option Addr} {l : List Cmd} {b i : Nat} {v : Value} (h : LiesC w ad l) (hf : ∀ q, ad = some ⟨q, 0, none⟩ → q ≠ b) : LiesC (w.setCell ⟨b, i, none⟩ v) ad l := fun j x hx => by
  obtain ⟨q, e, hc⟩ := h j x hx
  exact ⟨q, e, fun k u hu => (World.cell?_of_block (a := ⟨q, j * 7 + k, none⟩) (set_other _ _ _ _ _ (by show q ≠ b; exact hf q e))).trans (hc k u hu)⟩
theorem LiesC.setRow {w : World} {ad : Option Addr} {l : List Cmd} {b : Nat} (h : LiesC w ad l) (hf : ∀ q, ad = some ⟨q, 0, none⟩ → q ≠ b) (cs : Array Value) : LiesC (w.setRow b cs) ad l := fun j x hx => by
  obtain ⟨q, e, hc⟩ := h j x hx
  exact ⟨q, e, fun k u hu => (World.cell?_of_block (a := ⟨q, j * 7 + k, none⟩) (setRow_other w b q cs (hf q e))).trans (hc k u hu)⟩
theorem longer_set {w W w2 : World} {s : St} {l : List Cmd} {x y : Cmd} {ad : Option Addr} {cap n g c B : Nat} {r : Option Nat} (h : Inv4 w s ad n cap y W) (hB : w.heap.size + 4 ≤ B) (hg : W.grownBy w2 r) (hr : ∀ k, r = some k → B ≤ k)
    (ho : w2.ownsRow B 36 7 (.slice (some ⟨g, 0, none⟩) (l.length + 1) c) (l.length + 1) (ccells l ++ x.cells.toList)) :
    RefIn w2 w.heap.size s ad n cap ∧ Longer w s l x (some ⟨g, 0, none⟩) c (w2.setCell ⟨w.heap.size, 2, none⟩ (.slice (some ⟨g, 0, none⟩) (l.length + 1) c)) := by
  have h0 := block_lt h.box
  have h2 := block_lt h.out
  have h3 := block_lt h.letter
  have k0 : w2.heap[w.heap.size]? = W.heap[w.heap.size]? := hg.block _ h0 (by intro e; have := hr _ e.symm; omega)
  have k2 : w2.heap[w.heap.size + 2]? = W.heap[w.heap.size + 2]? := hg.block _ h2 (by intro e; have := hr _ e.symm; omega)
  have k3 : w2.heap[w.heap.size + 3]? = W.heap[w.heap.size + 3]? := hg.block _ h3 (by intro e; have := hr _ e.symm; omega)
  have hbox : RefIn w2 w.heap.size s ad n cap := k0.trans h.box
  have hgB := (ho.lt g rfl).1
  have hlen : (l ++ [x]).length = l.length + 1 := by simp
  refine ⟨hbox, ⟨by rw [hlen]; exact ref_set hbox rfl, ?_, (set_other _ _ _ _ _ (by omega)).trans (k2.trans h.out), letter_set (k3.trans h.letter) (by omega), ?_, fun q e => (by injection e with e; injection e with e; omega)⟩⟩
  · rw [← ccells_snoc] at ho
    have hl := rows_liesC ho
    intro i z hz
    obtain ⟨q, e, hc⟩ := hl i z hz
    have hq : q = g := by injection e with e; injection e with e; exact e.symm
    subst hq
    refine ⟨q, e, fun j v hv => ?_⟩
    exact (World.cell?_of_block (a := ⟨q, i * 7 + j, none⟩) (set_other _ _ _ _ _ (by show q ≠ w.heap.size; omega))).trans (hc j v hv)
  · have hW : Below w.heap.size w w2 := ⟨hg.os.trans h.bel.os, hg.tape.trans h.bel.tape, hg.output.trans h.bel.output, Nat.le_trans h.bel.size hg.size, fun i hi => (hg.block i (Nat.lt_of_lt_of_le hi h.bel.size) (by intro e; have := hr _ e.symm; omega)).trans (h.bel.block i hi)⟩
    exact hW.setCell (Nat.le_refl _) _

set_option maxRecDepth 100000 in
set_option maxHeartbeats 3200000 in
theorem refInvoke_go (s : St) (ad : Option Addr) (cap : Nat) (l : List Cmd) (x : Cmd) (w : World) (hw : s.waits = false) (hok : s.Ok) (hl : LiesC w ad l) (hlen : (l.length : Int) = s.seq) (hn : l.length ≤ 900) (hnil : l = [] → ad = none ∧ cap = 0) :
    Calls Try.prog 13 #[.agg (rcells s ad l.length cap), .agg x.cells] w (InvokeSays s ad cap l x w) := by
  have hu1 : IntKind.u32.wrap (l.length : Int) = s.seq := by rw [IntKind.wrap_u32']; omega
  have hu2 : IntKind.u32.wrap (s.seq + 1) = s.seq + 1 := by rw [IntKind.wrap_u32']; omega
  have hq : s.seq < 4294967295 := by omega
  have Hok := Lib.hid hok
  have Hl := Lib.hid hl
  have Hlen := Lib.hid hlen
  have Hnil := Lib.hid hnil
  clear hok hl hlen hnil
  go_enter Try.func13, Try.ntmps13
  go_upto_region 1 with fail
  refine code_from (Inv4 w s ad l.length cap x) ⟨heap_four_0 _ _ _ _ _, heap_four_1 _ _ _ _ _, heap_four_2 _ _ _ _ _, heap_four_3 _ _ _ _ _, below_four w _ _ _ _⟩ ?_
  rintro wd hI
  obtain ⟨c0, c1, c2, c3, c4⟩ := ref_reads hI.box
  rw [hw] at c3
  have d0 : wd.cell? ⟨w.heap.size + 1, 0, none⟩ = some (.int .u8 x.client) := cell_of_row wd _ 0 _ _ _ hI.cmd
  have d1 : wd.cell? ⟨w.heap.size + 1, 1, none⟩ = some (.int .u32 x.seq) := cell_of_row wd _ 1 _ _ _ hI.cmd
  have f0 : wd.frozen? ⟨w.heap.size + 1, 0, none⟩ = false := frozen_of_row wd _ 0 _ _ hI.cmd
  have f1 : wd.frozen? ⟨w.heap.size + 1, 1, none⟩ = false := frozen_of_row wd _ 1 _ _ hI.cmd
  have HI := Lib.hid hI
  clear hI
  go_upto_region 5 with fail
  refine code_from (Inv4 w s ad l.length cap (s.named x)) ⟨(set_other _ _ _ _ _ (by omega)).trans ((set_other _ _ _ _ _ (by omega)).trans HI.out.box), named_in HI.out.cmd, (set_other _ _ _ _ _ (by omega)).trans ((set_other _ _ _ _ _ (by omega)).trans HI.out.out),
    letter_set (letter_set HI.out.letter (by omega)) (by omega), (HI.out.bel.setCell (by simp) _).setCell (by simp) _⟩ ?_
  clear HI c0 c1 c2 c3 c4 d0 d1 f0 f1 wd
  rintro wd hI
  have hseq0 : 0 ≤ (s.named x).seq := by have := Hok.out.seq0; show 0 ≤ s.seq + 1; omega
  have HI := Lib.hid hI
  clear hI
  go_wp2_with (refine wpList_load_row rfl 36 _ rfl (w.heap.size + 1) rfl 36 (s.named x).cells (0, 0) _ HI.out.cmd Try.underlying36 rfl (size_cmd _) ?_)
  refine (refMay09 (s.named x) _ hseq0).mono ?_
  rintro e w2 ⟨rfl, hb2⟩
  have hI2 : Inv4 w s ad l.length cap (s.named x) w2 := ⟨(hb2.block _ (block_lt HI.out.box)).trans HI.out.box, (hb2.block _ (block_lt HI.out.cmd)).trans HI.out.cmd, (hb2.block _ (block_lt HI.out.out)).trans HI.out.out, (hb2.block _ (letter_lt HI.out.letter)).trans HI.out.letter, HI.out.bel.trans (hb2.mono HI.out.bel.size)⟩
  have HI2 := Lib.hid hI2
  clear hI2 hb2 HI hseq0 wd
  cases hm : (s.named x).mayB with
  | false =>
    have Hm := Lib.hid hm
    clear hm
    go_wp2_with (first
      | (refine wpList_load_row rfl 32 _ rfl w.heap.size rfl 32 (rcells s ad l.length cap) (0, 0) _ HI2.out.box Try.underlying32 rfl (size_ref _ _ _ _) ?_)
      | (refine wpList_store_row (P := Try.prog) rfl 32 (.tmp 4) (.tmp 23) rfl (w.heap.size + 2) (rcells s ad l.length cap) rfl rfl 32 _ HI2.out.out (size_ref _ _ _ _) rfl (one_ref _ _ _ _) ?_)
      | (refine wpList_store_row (P := Try.prog) rfl 47 (.tmp 5) (.tmp 24) rfl (w.heap.size + 3) Letter.zero.cells rfl rfl 47 _ ((setRow_other _ _ _ _ (by omega)).trans HI2.out.letter) (size_letter _) rfl (one_letter _ rfl rfl) ?_))
    exact ret_told s ad l.length cap Letter.zero (w.heap.size + 2) (w.heap.size + 3) rfl rfl rfl ((setRow_other _ _ _ _ (by omega)).trans (setRow_heap _ _ _ _ _ _ HI2.out.out)) (setRow_heap _ _ _ _ _ _ ((setRow_other _ _ _ _ (by omega)).trans HI2.out.letter)) rfl
      ⟨fun _ => rfl, fun h => absurd (Hm.out.symm.trans h) (by decide), below_setRow (below_setRow HI2.out.bel (by omega) _) (by omega) _⟩
  | true =>
    have Hm := Lib.hid hm
    clear hm
    go_upto_region 7 with fail
    go_cut [] (fun wx => ∃ (ad' : Option Addr) (cap' : Nat), Longer w s l (s.named x) ad' cap' wx)
    case first =>
      have HB4 : w.heap.size + 4 ≤ w2.heap.size := by have := letter_lt HI2.out.letter; omega
      generalize hy : s.named x = y at HI2 ⊢
      have Hy := Lib.hid hy
      clear hy Hm
      obtain ⟨i0, hi, hz0, hz1, hz2⟩ := info_parts infoC
      obtain ⟨n0, n1, n2, n3, n4, n5, n6⟩ := cmd_reads HI2.out.cmd
      obtain ⟨_, _, c2, _, _⟩ := ref_reads HI2.out.box
      have z2 := fun ob => (ref_reads (inv4_alloc HI2.out ob).box).2.2.1
      cases l with
      | nil =>
        obtain ⟨rfl, rfl⟩ := Hnil.out rfl
        clear Hnil Hl Hlen
        go_region_law (first | (refine step_append_lies _ (by rfl) (.tmp 27) (.tmp 29) 30 (by rfl) w2.heap.size 36 i0 (.agg Cmd.zero.cells) 7 72 Try.underlying30 hi hz0 hz1 hz2 rfl (by decide) _ 0 _ (by rfl) (World.ownsRow_nil _ _ _ _) ⟨w2.heap.size, 0, none⟩ 1 1 [.int .u8 y.client, .int .u32 y.seq, .int .u8 y.kind, .string y.key, .string y.old, .string y.new, .int .u8 y.set] (by rfl) rfl (World.news_of_block (w := (w2.alloc _).drew) (heap_alloc_new w2 _)) (by intro u hu; simp at hu; rcases hu with rfl | rfl | rfl | rfl | rfl | rfl | rfl <;> rfl) (by decide) (by decide) (by decide) (by simp) _ rfl ?_; intro gg cc w3 hown hgr hat hlt3; obtain ⟨q1, q2⟩ := longer_set (l := []) (inv4_drew (inv4_alloc HI2.out _)) HB4 hgr (fun k hk => (by cases hk)) hown; have q3 := (ref_reads q1).2.2.1; have q4 := frozen_of_row w3 w.heap.size 2 _ _ q1; have HS := Lib.hid q2; clear q1 q2 hown hgr hat hlt3) | fail)
        all_goals
          go_wp2_with fail
          go_meet
          case rel => rw [Hy.out]; exact ⟨_, _, HS.out⟩
      | cons z0 l0 =>
        have hpos : 0 < (z0 :: l0).length := by simp
        generalize z0 :: l0 = l at *
        clear z0 l0
        have hl2 := Hl.out.below HI2.out.bel
        obtain ⟨g, rfl, _⟩ := hl2 0 l[0] (List.getElem?_eq_getElem hpos)
        have hnews := liesC_news hl2
        have hnlen : (ccells l).length = l.length * 7 := ccells_len l
        have Hnews := Lib.hid hnews
        have Hnlen := Lib.hid hnlen
        clear hl2 hnews hnlen Hnil Hl Hlen
        go_region_law (first
          | (refine step_append_lies _ (by rfl) (.const (.slice none 0 0)) (.tmp 26) 30 (by rfl) w2.heap.size 36 i0 (.agg Cmd.zero.cells) 7 72 Try.underlying30 hi hz0 hz1 hz2 rfl (by decide) _ 0 _ (by rfl) (World.ownsRow_nil _ _ _ _) ⟨g, 0, none⟩ l.length cap (ccells l) (by rfl) Hnlen.out (fun j u hu => by first | exact Hnews.out j u hu | exact (World.cell?_alloc_some _ _ _ (by rw [Hnews.out j u hu]; rfl)).trans (Hnews.out j u hu)) (ccells_one l) hpos (by unfold maxLen; omega) (by omega) (by simp) _ rfl ?_; intro g1 cc1 w3 hown hgr hat hlt3; simp only [Nat.zero_add, List.nil_append] at hown ⊢; have hI3 : Inv4 w s (some ⟨g, 0, none⟩) l.length cap y w3 := (by first | exact inv4_grown (inv4_drew HI2.out) hgr | exact inv4_grown (inv4_drew (inv4_alloc HI2.out _)) hgr); obtain ⟨n0, n1, n2, n3, n4, n5, n6⟩ := cmd_reads hI3.cmd; have hz3 : w2.heap.size ≤ w3.heap.size := (by have h9 := hgr.size; simp at h9; omega); have HI3 := Lib.hid hI3; have Hown := Lib.hid hown; have Hgr := Lib.hid hgr; clear hI3 hown hgr hat hlt3)
          | (refine step_append_lies _ (by rfl) (.tmp 27) (.tmp 29) 30 (by rfl) w2.heap.size 36 i0 (.agg Cmd.zero.cells) 7 72 Try.underlying30 hi hz0 hz1 hz2 rfl (by decide) _ l.length _ (by rfl) (Hown.out.alloc _) ⟨w3.heap.size, 0, none⟩ 1 1 [.int .u8 y.client, .int .u32 y.seq, .int .u8 y.kind, .string y.key, .string y.old, .string y.new, .int .u8 y.set] (by rfl) rfl (World.news_of_block (heap_alloc_new w3 _)) (by intro u hu; simp at hu; rcases hu with rfl | rfl | rfl | rfl | rfl | rfl | rfl <;> rfl) (by decide) (by unfold maxLen; omega) (by omega) (by first | exact hz3 | (simp; omega)) _ rfl ?_; intro gg cc w4 hown hgr hat hlt4; obtain ⟨q1, q2⟩ := longer_set (l := l) (inv4_alloc HI3.out _) HB4 hgr (fun k hk => (Hown.out.lt k hk).1) hown; have q3 := (ref_reads q1).2.2.1; have q4 := frozen_of_row w4 w.heap.size 2 _ _ q1; have HS := Lib.hid q2; clear q1 q2 hown hgr hat hlt4)
          | (refine step_append_lies _ (by rfl) (.tmp 27) (.tmp 29) 30 (by rfl) w2.heap.size 36 i0 (.agg Cmd.zero.cells) 7 72 Try.underlying30 hi hz0 hz1 hz2 rfl (by decide) _ l.length _ (by rfl) Hown.out ⟨w2.heap.size, 0, none⟩ 1 1 [.int .u8 y.client, .int .u32 y.seq, .int .u8 y.kind, .string y.key, .string y.old, .string y.new, .int .u8 y.set] (by rfl) rfl (World.news_of_block ((Hgr.out.block w2.heap.size (by simp) (by intro e; cases e)).trans (heap_alloc_new w2 _))) (by intro u hu; simp at hu; rcases hu with rfl | rfl | rfl | rfl | rfl | rfl | rfl <;> rfl) (by decide) (by unfold maxLen; omega) (by omega) (by first | exact hz3 | (simp; omega)) _ rfl ?_; intro gg cc w4 hown hgr hat hlt4; obtain ⟨q1, q2⟩ := longer_set (l := l) HI3.out HB4 hgr (fun k hk => (Hown.out.lt k hk).1) hown; have q3 := (ref_reads q1).2.2.1; have q4 := frozen_of_row w4 w.heap.size 2 _ _ q1; have HS := Lib.hid q2; clear q1 q2 hown hgr hat hlt4)
          | fail)
        all_goals
          go_wp2_with fail
          go_meet
          case rel => rw [Hy.out]; exact ⟨_, _, HS.out⟩
    case rest =>
      obtain ⟨ad', cap', hL⟩ := hcut
      clear HI2
      obtain ⟨_, _, _, c3, _⟩ := ref_reads hL.box
      have f3 := frozen_of_row _ w.heap.size 3 _ _ hL.box
      have HL := Lib.hid hL
      clear hL
      go_upto_region 9 with fail
      have hok' := invoked_ok (x := x) Hok.out hq
      have hn' : (l ++ [s.named x]).length ≤ 1000 := by simp; omega
      have hx' : lastC (l ++ [s.named x]) = (s.invoked x).x := lastC_snoc _ _
      have Hx := Lib.hid hx'
      clear hx'
      refine code_from (fun wx => RefIn wx w.heap.size (s.invoked x) ad' (l ++ [s.named x]).length cap' ∧ RefIn wx (w.heap.size + 2) rzero none 0 0 ∧ Letter.In wx (w.heap.size + 3) Letter.zero ∧ LiesC wx ad' (l ++ [s.named x]) ∧ Below w.heap.size w wx)
        ⟨ref_set HL.out.box rfl, (set_other _ _ _ _ _ (by omega)).trans HL.out.out, letter_set HL.out.letter (by omega), HL.out.lies.set (fun q e => by have := HL.out.far q e; omega), HL.out.bel.setCell (Nat.le_refl _) _⟩ ?_
      have Hfar := Lib.hid HL.out.far
      clear c3 f3 HL Hok Hl Hlen Hnil hu1 hu2 hq hn
      clear w2
      rintro wx ⟨hr, ho, hlt, hlx, hb⟩
      generalize hss : s.invoked x = s' at *
      generalize hll : l ++ [s.named x] = l' at *
      have Hss := Lib.hid hss
      have Hll := Lib.hid hll
      clear hss hll
      refine wp_region_held_drew (S := fun w' => RefIn w' w.heap.size s' ad' l'.length cap') (by kernel_rfl) hr (fun hS => ?_)
      refine wpAnyH_take (i := 0) (v := .agg (rcells s' ad' l'.length cap')) rfl (by kernel_rfl) (by kernel_rfl) (by kernel_rfl) (fun _ _ _ h => h) (yields_load rfl 32 _ rfl w.heap.size rfl 32 _ (0, 0) _ (fun _ h => h) Try.underlying32 rfl (size_ref _ _ _ _)) hS ?_
      simp only [Act.put, List.setIfInBounds_toArray, List.set_cons_zero, List.set_cons_succ]
      refine wpAnyH_take (i := 1) (v := .agg (rcells s' ad' l'.length cap')) rfl (by kernel_rfl) (by kernel_rfl) (by kernel_rfl) (fun _ _ _ h => h) (yields_load rfl 32 _ rfl w.heap.size rfl 32 _ (0, 0) _ (fun _ h => h) Try.underlying32 rfl (size_ref _ _ _ _)) hS ?_
      simp only [Act.put, List.setIfInBounds_toArray, List.set_cons_zero, List.set_cons_succ]
      refine wpAnyH_ready (rs := [2]) (by kernel_rfl) (by simp) ?_
      refine AllReadyH.cons rfl (fun K hK => ?_) AllReadyH.nil
      go_simp
      refine (refAsks_any s' ad' cap' l' wx.drew (show LiesC wx.drew ad' l' from hlx) hn' Hx.out hok').mono ?_
      rintro e w2 ⟨rfl, hb2⟩
      have ho2 : RefIn w2 (w.heap.size + 2) rzero none 0 0 := (hb2.block _ (block_lt ho)).trans ho
      have hl2 : Letter.In w2 (w.heap.size + 3) Letter.zero := (hb2.block _ (letter_lt hlt)).trans hlt
      have hr2 : RefIn w2 w.heap.size s' ad' l'.length cap' := (hb2.block _ (block_lt hr)).trans hr
      have hbb : Below w.heap.size w w2 := (hb.drew).trans (hb2.mono hb.size)
      have hlz : LiesC w2 ad' l' := (show LiesC wx.drew ad' l' from hlx).below hb2
      clear hr ho hlt hb hb2 hlx hS
      refine hK.out _ _ hr2 (fun hS => ?_)
      clear hK K
      refine wpAnyH_ready (rs := [3]) (by kernel_rfl) (by simp) ?_
      refine AllReadyH.cons rfl (fun K hK => ?_) AllReadyH.nil
      refine op_wanted rfl (wp_store_row 32 _ _ rfl (w.heap.size + 2) (rcells s' ad' l'.length cap') rfl rfl 32 _ ho2 (size_ref _ _ _ _) rfl (one_ref _ _ _ _) ?_)
      have ho3 := setRow_heap _ _ _ (rcells s' ad' l'.length cap') _ _ ho2
      have hl3 : Letter.In (w2.setRow (w.heap.size + 2) (rcells s' ad' l'.length cap')) (w.heap.size + 3) Letter.zero := (setRow_other _ _ _ _ (by omega)).trans hl2
      have hr3 : RefIn (w2.setRow (w.heap.size + 2) (rcells s' ad' l'.length cap')) w.heap.size s' ad' l'.length cap' := (setRow_other _ _ _ _ (by omega)).trans hr2
      have hb3 := below_setRow hbb (show w.heap.size ≤ w.heap.size + 2 by omega) (rcells s' ad' l'.length cap')
      clear ho2 hl2 hr2 hbb hS
      refine hK.out _ _ hr3 (fun hS => ?_)
      clear hK K
      have hlz3 := hlz.setRow (fun q e => by have := Hfar.out q e; show q ≠ w.heap.size + 2; omega) (rcells s' ad' l'.length cap')
      clear hlz
      generalize w2.setRow (w.heap.size + 2) (rcells s' ad' l'.length cap') = w3 at ho3 hl3 hr3 hb3 hS hlz3
      refine wpAnyH_ready (rs := [4]) (by kernel_rfl) (by simp) ?_
      refine AllReadyH.cons rfl (fun K hK => ?_) AllReadyH.nil
      refine op_wanted rfl (wp_store_row 47 _ _ rfl (w.heap.size + 3) s'.asks.cells rfl rfl 47 _ hl3 (size_letter _) rfl (one_letter _ rfl rfl) ?_)
      have hl4 := setRow_heap _ _ _ s'.asks.cells _ _ hl3
      have ho4 : RefIn (w3.setRow (w.heap.size + 3) s'.asks.cells) (w.heap.size + 2) s' ad' l'.length cap' := (setRow_other _ _ _ _ (by omega)).trans ho3
      have hr4 : RefIn (w3.setRow (w.heap.size + 3) s'.asks.cells) w.heap.size s' ad' l'.length cap' := (setRow_other _ _ _ _ (by omega)).trans hr3
      have hb4 := below_setRow hb3 (show w.heap.size ≤ w.heap.size + 3 by omega) s'.asks.cells
      clear ho3 hl3 hr3 hb3 hS
      refine hK.out _ _ hr4 (fun hS => ?_)
      clear hK K
      have hlz4 := hlz3.setRow (fun q e => by have := Hfar.out q e; show q ≠ w.heap.size + 3; omega) s'.asks.cells
      clear hlz3
      generalize w3.setRow (w.heap.size + 3) s'.asks.cells = w4 at ho4 hl4 hr4 hb4 hS hlz4
      have HLZ := Lib.hid hlz4
      clear hlz4
      refine wpAnyH_ready (rs := [5]) (by kernel_rfl) (by simp) ?_
      refine AllReadyH.cons rfl (fun K hK => ?_) AllReadyH.nil
      go_simp
      refine hK.out _ _ hr4 (fun hS => ?_)
      clear hK K
      refine wpAnyH_done (by kernel_rfl) ?_ _
      go_wp2_with fail
      have hss := Hss.out
      have hll := Hll.out
      subst hss hll
      exact ret_told (s.invoked x) ad' (l ++ [s.named x]).length cap' (s.invoked x).asks (w.heap.size + 2) (w.heap.size + 3) rfl rfl rfl ho4 hl4 rfl ⟨fun h => absurd (Hm.out.symm.trans h) (by decide), fun _ => ⟨ad', cap', rfl, HLZ.out⟩, hb4⟩
end Go.Proofs.Ytakpkedioehjbaa
