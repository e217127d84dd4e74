/-
  THE WALK of the reference client's Hear.
-/
import Derived.Test.YtakpkedioehjbaaRefH
namespace Go.Proofs.Ytakpkedioehjbaa
open Go.RowKit Go.Maps Go.BigFrame

theorem results_hear {P : Program} {fn : Func} {p q r u v : Tmp} {ty tz tx : TypeId} (h : fn.results = #[.cell p ty, .cell q tz, .tmp r, .cell u tx, .tmp v]) (tmps : Array Value) (w : World) (g k m : Nat) (t t2 t3 : TypeId) (cs ds es : Array Value) (fr gr hr : Nat × Nat) (d e f : TypeDesc)
    (hp : tmps.getD p undef = .pointer (some ⟨g, 0, none⟩)) (hg : w.heap[g]? = some (.cells cs t fr))
    (hu : P.underlying ty = some d) (hd : (match d with | .struct _ | .array _ _ => true | _ => false) = true) (hi : (P.info? ty).map (·.size) = some cs.size)
    (hq : tmps.getD q undef = .pointer (some ⟨k, 0, none⟩)) (hk : w.heap[k]? = some (.cells ds t2 gr))
    (hv : P.underlying tz = some e) (he : (match e with | .struct _ | .array _ _ => true | _ => false) = true) (hj : (P.info? tz).map (·.size) = some ds.size)
    (hx : tmps.getD u undef = .pointer (some ⟨m, 0, none⟩)) (hm : w.heap[m]? = some (.cells es t3 hr))
    (hy : P.underlying tx = some f) (hz : (match f with | .struct _ | .array _ _ => true | _ => false) = true) (hn : (P.info? tx).map (·.size) = some es.size) :
    (results fn tmps).run P w = .ok (.tuple #[.agg cs, .agg ds, tmps.getD r undef, .agg es, tmps.getD v undef]) w := by
  have hp' : tmps[p]?.getD undef = .pointer (some ⟨g, 0, none⟩) := by simpa using hp
  have hq' : tmps[q]?.getD undef = .pointer (some ⟨k, 0, none⟩) := by simpa using hq
  have hx' : tmps[u]?.getD undef = .pointer (some ⟨m, 0, none⟩) := by simpa using hx
  simp [results, h, hp', hq', hx', asAddr, run_loadVar_row w g t ty cs fr d hg hu hd hi, run_loadVar_row w k t2 tz ds gr e hk hv he hj, run_loadVar_row w m t3 tx es hr f hm hy hz hn]
theorem ret_heard {w : World} {a : Act} {fn : Func} {R : Ending → World → Prop} {p q r u v : Tmp} (s : St) (ad : Option Addr) (n cap : Nat) (l : Letter) (y : Reply) (B C D : Nat) (hr : fn.results = #[.cell p 32, .cell q 47, .tmp r, .cell u 43, .tmp v])
    (hp : a.tmps.getD p undef = .pointer (some ⟨B, 0, none⟩)) (hq : a.tmps.getD q undef = .pointer (some ⟨C, 0, none⟩)) (hu : a.tmps.getD u undef = .pointer (some ⟨D, 0, none⟩)) (hB : RefIn w B s ad n cap) (hC : Letter.In w C l) (hD : Reply.In w D y) (hd : a.defers = [])
    (h : R (.returned (.tuple #[.agg (rcells s ad n cap), .agg l.cells, a.tmps.getD r undef, .agg y.cells, a.tmps.getD v undef])) w) : bodyPost Try.prog fn R .ret a w :=
  bodyPost_ret (results_hear hr _ w B C D 32 47 43 _ _ _ (0, 0) (0, 0) (0, 0) _ _ _ hp hB Try.underlying32 rfl (size_ref _ _ _ _) hq hC Try.underlying47 rfl (size_letter _) hu hD Try.underlying43 rfl (size_reply _)) hd h
theorem heap_five_0 (w : World) (A B C D E : Obj) : (((((w.alloc A).alloc B).alloc C).alloc D).alloc E).heap[w.heap.size]? = some A := (Below.heap_alloc _ E w.heap.size (by simp <;> omega)).trans (heap_four_0 w A B C D)
theorem heap_five_1 (w : World) (A B C D E : Obj) : (((((w.alloc A).alloc B).alloc C).alloc D).alloc E).heap[w.heap.size + 1]? = some B := (Below.heap_alloc _ E (w.heap.size + 1) (by simp <;> omega)).trans (heap_four_1 w A B C D)
theorem heap_five_2 (w : World) (A B C D E : Obj) : (((((w.alloc A).alloc B).alloc C).alloc D).alloc E).heap[w.heap.size + 2]? = some C := (Below.heap_alloc _ E (w.heap.size + 2) (by simp <;> omega)).trans (heap_four_2 w A B C D)
theorem heap_five_3 (w : World) (A B C D E : Obj) : (((((w.alloc A).alloc B).alloc C).alloc D).alloc E).heap[w.heap.size + 3]? = some D := (Below.heap_alloc _ E (w.heap.size + 3) (by simp <;> omega)).trans (heap_four_3 w A B C D)
theorem heap_five_4 (w : World) (A B C D E : Obj) : (((((w.alloc A).alloc B).alloc C).alloc D).alloc E).heap[w.heap.size + 4]? = some E := by
  have h := heap_alloc_new ((((w.alloc A).alloc B).alloc C).alloc D) E
  simpa [Nat.add_assoc] using h
theorem below_five (w : World) (A B C D E : Obj) : Below w.heap.size w (((((w.alloc A).alloc B).alloc C).alloc D).alloc E) := (below_four w A B C D).alloc (by simp <;> omega) _

theorem letter_at2 (l : Letter) : l.cells[2]? = some (.int .u8 l.kind) := rfl
theorem letter_at7 (l : Letter) : l.cells[7]? = some (.int .u8 l.node) := rfl
theorem letter_at18 (l : Letter) : l.cells[18]? = some (.int .u8 l.code) := rfl
theorem letter_at19 (l : Letter) : l.cells[19]? = some (.string l.text) := rfl
/-- The variables of a Hear. -/
structure Inv5 (w : World) (s : St) (ad : Option Addr) (n cap : Nat) (l : Letter) (wd : World) : Prop where
  box : RefIn wd w.heap.size s ad n cap
  msg : Letter.In wd (w.heap.size + 1) l
  out : RefIn wd (w.heap.size + 2) rzero none 0 0
  letter : Letter.In wd (w.heap.size + 3) Letter.zero
  reply : Reply.In wd (w.heap.size + 4) Reply.zero
  bel : Below w.heap.size w wd
section
variable {w W W' : World} {s s' : St} {ad : Option Addr} {n cap : Nat} {l : Letter}
theorem Inv5.below (h : Inv5 w s ad n cap l W) (hb : Below W.heap.size W W') : Inv5 w s ad n cap l W' :=
  ⟨(hb.block _ (block_lt h.box)).trans h.box, (hb.block _ (letter_lt h.msg)).trans h.msg, (hb.block _ (block_lt h.out)).trans h.out, (hb.block _ (letter_lt h.letter)).trans h.letter, (hb.block _ (block_lt h.reply)).trans h.reply, h.bel.trans (hb.mono h.bel.size)⟩
theorem Inv5.drewN (h : Inv5 w s ad n cap l W) (k : Nat) : Inv5 w s ad n cap l (W.drewN k) := h.below (drawn (Below.refl _ _) k)
theorem Inv5.set {i : Nat} {v : Value} (h : Inv5 w s ad n cap l W) (he : (rcells s ad n cap).setIfInBounds i v = rcells s' ad n cap) : Inv5 w s' ad n cap l (W.setCell ⟨w.heap.size, i, none⟩ v) :=
  ⟨ref_set h.box he, letter_set h.msg (by omega), (set_other _ _ _ _ _ (by omega)).trans h.out, letter_set h.letter (by omega), (set_other _ _ _ _ _ (by omega)).trans h.reply, h.bel.setCell (Nat.le_refl _) _⟩
/-- Behind the stores into the variables that go out. -/
structure Told (w : World) (s : St) (ad : Option Addr) (n cap : Nat) (o : Letter) (y : Reply) (wd : World) : Prop where
  out : RefIn wd (w.heap.size + 2) s ad n cap
  letter : Letter.In wd (w.heap.size + 3) o
  reply : Reply.In wd (w.heap.size + 4) y
  bel : Below w.heap.size w wd
theorem told_of {t : St} {m c : Nat} {a : Option Addr} {o : Letter} {y : Reply} (h : Inv5 w s ad n cap l W) : Told w t a m c o y (((W.setRow (w.heap.size + 2) (rcells t a m c)).setRow (w.heap.size + 3) o.cells).setRow (w.heap.size + 4) y.cells) :=
  ⟨(setRow_other _ _ _ _ (by omega)).trans ((setRow_other _ _ _ _ (by omega)).trans (setRow_heap _ _ _ _ _ _ h.out)), (setRow_other _ _ _ _ (by omega)).trans (setRow_heap _ _ _ _ _ _ ((setRow_other _ _ _ _ (by omega)).trans h.letter)),
    setRow_heap _ _ _ _ _ _ ((setRow_other _ _ _ _ (by omega)).trans ((setRow_other _ _ _ _ (by omega)).trans h.reply)), below_setRow (below_setRow (below_setRow h.bel (by omega) _) (by omega) _) (by omega) _⟩
end
def RefHearSays (s : St) (ad : Option Addr) (n cap : Nat) (l : Letter) (w : World) (r : Ending) (w' : World) : Prop :=
  (s.moves l = true → r = .returned (.tuple #[.agg (rcells (s.heardMoved l) ad n cap), .agg (s.heardMoved l).asks.cells, .bool true, .agg Reply.zero.cells, .bool false])) ∧
  (s.moves l = false → s.takes l = true → r = .returned (.tuple #[.agg (rcells s.heardReply ad n cap), .agg Letter.zero.cells, .bool false, .agg l.reply.cells, .bool true])) ∧
  (s.moves l = false → s.takes l = false → r = .returned (.tuple #[.agg (rcells s ad n cap), .agg Letter.zero.cells, .bool false, .agg Reply.zero.cells, .bool false])) ∧ Below w.heap.size w w'
theorem hears_none {s : St} {ad : Option Addr} {n cap : Nat} {l : Letter} {w w' : World} (hm : s.moves l = false) (ht : s.takes l = false) (hb : Below w.heap.size w w') :
    RefHearSays s ad n cap l w (.returned (.tuple #[.agg (rcells s ad n cap), .agg Letter.zero.cells, .bool false, .agg Reply.zero.cells, .bool false])) w' :=
  ⟨fun h => absurd (hm.symm.trans h) (by decide), fun _ h => absurd (ht.symm.trans h) (by decide), fun _ _ => rfl, hb⟩

set_option maxRecDepth 100000 in
set_option maxHeartbeats 2400000 in
theorem refHear_any (s : St) (ad : Option Addr) (cap : Nat) (L : List Cmd) (l : Letter) (w : World) (hok : s.Ok) (hl : LiesC w ad L) (hn : L.length ≤ 1000) (hlast : lastC L = s.x) (hown : s.waits = true → s.x.seq = s.seq ∧ s.x.client = s.id) (hf : l.Fits) :
    Calls Try.prog 17 #[.agg (rcells s ad L.length cap), .agg l.cells] w (RefHearSays s ad L.length cap l w) := by
  have hu := u8_add s.id hok.id0 hok.id1
  have hsc : IntKind.i64.wrap l.src = l.src := by have h1 := hf.src0; have h2 := hf.src1; rw [IntKind.wrap_i64]; omega
  have hnc : IntKind.i64.wrap l.node = l.node := by have h1 := hf.node0; have h2 := hf.node1; rw [IntKind.wrap_i64]; omega
  have Hok := Lib.hid hok
  have Hl := Lib.hid hl
  have Hown := Lib.hid hown
  have Hf := Lib.hid hf
  have Hlast := Lib.hid hlast
  clear hok hl hown hf hlast
  go_enter Try.func17, Try.ntmps17
  go_upto_region 1 with fail
  refine code_from (Inv5 w s ad L.length cap l) ⟨heap_five_0 _ _ _ _ _ _, heap_five_1 _ _ _ _ _ _, heap_five_2 _ _ _ _ _ _, heap_five_3 _ _ _ _ _ _, heap_five_4 _ _ _ _ _ _, below_five w _ _ _ _ _⟩ ?_
  rintro wd hI
  have HI := Lib.hid hI
  clear hI
  go_wp2_with (refine wpList_load_row rfl 32 _ rfl w.heap.size rfl 32 (rcells s ad L.length cap) (0, 0) _ HI.out.box Try.underlying32 rfl (size_ref _ _ _ _) ?_)
  refine (refLast_any s ad cap L _ (Hl.out.below HI.out.bel) hn).mono ?_
  rintro e w2 ⟨rfl, hb2⟩
  rw [Hlast.out]
  have HI2 := Lib.hid (HI.out.below hb2)
  clear hb2 HI wd
  go_upto_region 2 with (refine wpList_store_row (P := Try.prog) rfl 36 (.tmp 9) (.tmp 11) rfl w2.heap.size s.x.cells rfl rfl 36 _ (heap_alloc_new w2 _) (size_cmd _) rfl (one_cmd _) ?_)
  have hbx : w.heap.size + 5 ≤ w2.heap.size := by have := block_lt HI2.out.reply; omega
  refine code_from (fun wx => Cmd.In wx w2.heap.size s.x ∧ Inv5 w s ad L.length cap l wx) ⟨setRow_heap _ _ _ _ _ _ (heap_alloc_new w2 _), HI2.out.below (below_setRow ((Below.refl _ _).alloc (Nat.le_refl _) _) (Nat.le_refl _) _)⟩ ?_
  clear HI2
  generalize w2.heap.size = bx at *
  clear w2
  rintro wd ⟨hC, hI⟩
  obtain ⟨c0, c1, c2, c3, c4⟩ := ref_reads hI.box
  have x0 : wd.cell? ⟨bx, 0, none⟩ = some (.int .u8 s.x.client) := cell_of_row wd bx 0 _ _ _ hC
  have x1 : wd.cell? ⟨bx, 1, none⟩ = some (.int .u32 s.x.seq) := cell_of_row wd bx 1 _ _ _ hC
  have m0 : wd.cell? ⟨w.heap.size + 1, 0, none⟩ = some (.int .u8 l.src) := cell_of_row wd _ 0 _ _ _ hI.msg
  have m1 : wd.cell? ⟨w.heap.size + 1, 1, none⟩ = some (.int .u8 l.dst) := cell_of_row wd _ 1 _ _ _ hI.msg
  have m2 : wd.cell? ⟨w.heap.size + 1, 2, none⟩ = some (.int .u8 l.kind) := cell_of_row wd _ 2 _ _ _ hI.msg
  have m7 : wd.cell? ⟨w.heap.size + 1, 7, none⟩ = some (.int .u8 l.node) := cell_of_row wd _ 7 _ _ _ hI.msg
  have m11 : wd.cell? ⟨w.heap.size + 1, 11, none⟩ = some (.int .u8 l.cmd.client) := cell_of_row wd _ 11 _ _ _ hI.msg
  have m12 : wd.cell? ⟨w.heap.size + 1, 12, none⟩ = some (.int .u32 l.cmd.seq) := cell_of_row wd _ 12 _ _ _ hI.msg
  have m18 : wd.cell? ⟨w.heap.size + 1, 18, none⟩ = some (.int .u8 l.code) := cell_of_row wd _ 18 _ _ _ hI.msg
  have m19 : wd.cell? ⟨w.heap.size + 1, 19, none⟩ = some (.string l.text) := cell_of_row wd _ 19 _ _ _ hI.msg
  have HI := Lib.hid hI
  clear hI hC
  simp only [Act.put, List.setIfInBounds_toArray, List.set_cons_zero, List.set_cons_succ]
  go_cut [48] (fun s48 wx => s48 = .bool (!s.own l) ∧ Inv5 w s ad L.length cap l wx)
  case first =>
    cases hw : s.waits with
    | false =>
      rw [hw] at c3
      have Hw := Lib.hid hw
      clear hw
      go_wp2_with fail
      go_meet
      case rel => exact ⟨by simp [St.own, Hw.out], HI.out⟩
    | true =>
      rw [hw] at c3
      obtain ⟨hq, hc⟩ := Hown.out hw
      have Hw := Lib.hid hw
      have Hq := Lib.hid hq
      have Hc := Lib.hid hc
      clear hw hq hc
      by_cases hd : l.dst = 16 + s.id
      · have td : (l.dst != 16 + s.id) = false := by simpa using hd
        have Hd := Lib.hid hd
        clear hd
        by_cases hs : l.src < s.n
        · by_cases he : l.cmd.client = s.x.client
          · have te : (l.cmd.client != s.x.client) = false := by simpa using he
            have He := Lib.hid he
            clear he
            by_cases hg : l.cmd.seq = s.x.seq
            · have tg : (l.cmd.seq != s.x.seq) = false := by simpa using hg
              have Hg := Lib.hid hg
              clear hg
              go_wp2_with fail
              go_meet
              case rel => exact ⟨by simp [St.own, Hw.out, Hd.out, He.out, Hg.out, Hq.out, Hc.out, hs], HI.out⟩
            · have tg : (l.cmd.seq != s.x.seq) = true := by simpa using hg
              have Hg := Lib.hid hg
              clear hg
              go_wp2_with fail
              go_meet
              case rel => exact ⟨by have h9 := Hg.out; rw [Hq.out] at h9; simp [St.own, h9], HI.out⟩
          · have te : (l.cmd.client != s.x.client) = true := by simpa using he
            have He := Lib.hid he
            clear he
            go_wp2_with fail
            go_meet
            case rel => exact ⟨by have h9 := He.out; rw [Hc.out] at h9; simp [St.own, h9], HI.out⟩
        · go_wp2_with fail
          go_meet
          case rel => exact ⟨by have h9 : ¬ l.src < s.n := (by omega); simp [St.own, h9], HI.out⟩
      · have td : (l.dst != 16 + s.id) = true := by simpa using hd
        have Hd := Lib.hid hd
        clear hd
        go_wp2_with fail
        go_meet
        case rel => exact ⟨by simp [St.own, Hd.out], HI.out⟩
  case rest =>
    clear HI c0 c1 c2 c3 c4 x0 x1 m0 m1 m2 m7 m11 m12 m18 m19 hu hsc
    obtain ⟨rfl, hI⟩ := hcut
    obtain ⟨c0, c1, c2, c3, c4⟩ := ref_reads hI.box
    have m2 := cell_of_row _ _ 2 _ _ _ hI.msg
    have m7 := cell_of_row _ _ 7 _ _ _ hI.msg
    have m18 := cell_of_row _ _ 18 _ _ _ hI.msg
    have m19 := cell_of_row _ _ 19 _ _ _ hI.msg
    rw [letter_at2] at m2
    rw [letter_at7] at m7
    rw [letter_at18] at m18
    rw [letter_at19] at m19
    have HI := Lib.hid hI
    clear hI
    cases ho : s.own l with
    | false => as_aux_lemma =>
      have hmo : s.moves l = false := by simp [St.moves, ho]
      have hta : s.takes l = false := by simp [St.takes, ho]
      have Hmo := Lib.hid hmo
      have Hta := Lib.hid hta
      clear hmo hta
      clear ho
      go_wp2_with (first
        | (refine wpList_load_row rfl 32 _ rfl w.heap.size rfl 32 (rcells s ad L.length cap) (0, 0) _ HI.out.box Try.underlying32 rfl (size_ref _ _ _ _) ?_)
        | (refine wpList_store_row (P := Try.prog) rfl 32 (.tmp 4) (.tmp 49) rfl (w.heap.size + 2) (rcells s ad L.length cap) rfl rfl 32 _ HI.out.out (size_ref _ _ _ _) rfl (one_ref _ _ _ _) ?_)
        | (refine wpList_store_row (P := Try.prog) rfl 47 (.tmp 5) (.tmp 50) rfl (w.heap.size + 3) Letter.zero.cells rfl rfl 47 _ ((setRow_other _ _ _ _ (by omega)).trans HI.out.letter) (size_letter _) rfl (one_letter _ rfl rfl) ?_)
        | (refine wpList_store_row (P := Try.prog) rfl 43 (.tmp 7) (.tmp 51) rfl (w.heap.size + 4) Reply.zero.cells rfl rfl 43 _ ((setRow_other _ _ _ _ (by omega)).trans ((setRow_other _ _ _ _ (by omega)).trans HI.out.reply)) (size_reply _) rfl (one_reply _) ?_))
      have hT := told_of (t := s) (m := L.length) (c := cap) (a := ad) (o := Letter.zero) (y := Reply.zero) HI.out
      exact ret_heard s ad L.length cap Letter.zero Reply.zero (w.heap.size + 2) (w.heap.size + 3) (w.heap.size + 4) rfl rfl rfl rfl hT.out hT.letter hT.reply rfl (hears_none Hmo.out Hta.out hT.bel)
    | true =>
      by_cases hk : l.kind = 3
      · have tk : (l.kind == 3) = true := by simp [hk]
        by_cases hnn : l.node < s.n
        · have Hmo := Lib.hid (moves_yes ho hk hnn)
          clear ho hk
          as_aux_lemma =>
            have f4 := frozen_of_row _ _ 4 _ _ HI.out.box
            go_upto_region 6 with fail
            have hok' := moved_ok (l := l) Hok.out Hf.out.node0 hnn
            have Hx' := Lib.hid (show lastC L = (s.heardMoved l).x from Hlast.out)
            refine code_from (Inv5 w (s.heardMoved l) ad L.length cap l) (by exact HI.out.set rfl) ?_
            clear HI c0 c1 c2 c3 c4 m2 m7 m18 m19 tk f4 hnc hnn Hok Hf
            rintro wx hI
            have hlx := Hl.out.below hI.bel
            generalize hss : s.heardMoved l = s' at *
            have Hss := Lib.hid hss
            clear hss
            have hr := hI.box
            refine wp_region_held_drew (S := fun w' => RefIn w' w.heap.size s' ad L.length cap) (by kernel_rfl) hr (fun hS => ?_)
            refine wpAnyH_take (i := 0) (v := .agg (rcells s' ad L.length cap)) rfl (by kernel_rfl) (by kernel_rfl) (by kernel_rfl) (fun _ _ _ h => h) (yields_load rfl 32 _ rfl w.heap.size rfl 32 _ (0, 0) _ (fun _ h => h) Try.underlying32 rfl (size_ref _ _ _ _)) hS ?_
            simp only [Act.put, List.setIfInBounds_toArray, List.set_cons_zero, List.set_cons_succ]
            refine wpAnyH_take (i := 1) (v := .agg (rcells s' ad L.length cap)) rfl (by kernel_rfl) (by kernel_rfl) (by kernel_rfl) (fun _ _ _ h => h) (yields_load rfl 32 _ rfl w.heap.size rfl 32 _ (0, 0) _ (fun _ h => h) Try.underlying32 rfl (size_ref _ _ _ _)) hS ?_
            simp only [Act.put, List.setIfInBounds_toArray, List.set_cons_zero, List.set_cons_succ]
            refine wpAnyH_take (i := 3) (v := .agg Reply.zero.cells) rfl (by kernel_rfl) (by kernel_rfl) (by kernel_rfl) (fun _ _ _ h => h) (Or.inl ⟨by rfl, fun w _ => by go_simp; rfl⟩) hS ?_
            simp only [Act.put, List.setIfInBounds_toArray, List.set_cons_zero, List.set_cons_succ]
            refine wpAnyH_ready (rs := [2]) (by kernel_rfl) (by simp) ?_
            refine AllReadyH.cons rfl (fun K hK => ?_) AllReadyH.nil
            go_simp
            refine (refAsks_any s' ad cap L wx.drew (show LiesC wx.drew ad L from hlx) hn Hx'.out hok').mono ?_
            rintro e w2 ⟨rfl, hb2⟩
            have HD := Lib.hid (hI.below (Below.trans ((Below.refl _ _).drew) hb2))
            clear hr hI hb2 hlx hS
            refine hK.out _ _ HD.out.box (fun hS => ?_)
            clear hK K
            refine wpAnyH_ready (rs := [4]) (by kernel_rfl) (by simp) ?_
            refine AllReadyH.cons rfl (fun K hK => ?_) AllReadyH.nil
            refine op_wanted rfl (wp_store_row 32 _ _ rfl (w.heap.size + 2) (rcells s' ad L.length cap) rfl rfl 32 _ HD.out.out (size_ref _ _ _ _) rfl (one_ref _ _ _ _) ?_)
            have hr3 : RefIn (w2.setRow (w.heap.size + 2) (rcells s' ad L.length cap)) w.heap.size s' ad L.length cap := (setRow_other _ _ _ _ (by omega)).trans HD.out.box
            refine hK.out _ _ hr3 (fun hS => ?_)
            clear hK K
            refine wpAnyH_ready (rs := [5]) (by kernel_rfl) (by simp) ?_
            refine AllReadyH.cons rfl (fun K hK => ?_) AllReadyH.nil
            refine op_wanted rfl (wp_store_row 47 _ _ rfl (w.heap.size + 3) s'.asks.cells rfl rfl 47 _ ((setRow_other _ _ _ _ (by omega)).trans HD.out.letter) (size_letter _) rfl (one_letter _ rfl rfl) ?_)
            have hr4 : RefIn ((w2.setRow (w.heap.size + 2) (rcells s' ad L.length cap)).setRow (w.heap.size + 3) s'.asks.cells) w.heap.size s' ad L.length cap := (setRow_other _ _ _ _ (by omega)).trans hr3
            refine hK.out _ _ hr4 (fun hS => ?_)
            clear hK K
            refine wpAnyH_ready (rs := [6]) (by kernel_rfl) (by simp) ?_
            refine AllReadyH.cons rfl (fun K hK => ?_) AllReadyH.nil
            go_simp
            refine hK.out _ _ hr4 (fun hS => ?_)
            clear hK K
            refine wpAnyH_ready (rs := [7]) (by kernel_rfl) (by simp) ?_
            refine AllReadyH.cons rfl (fun K hK => ?_) AllReadyH.nil
            refine op_wanted rfl (wp_store_row 43 _ _ rfl (w.heap.size + 4) Reply.zero.cells rfl rfl 43 _ ((setRow_other _ _ _ _ (by omega)).trans ((setRow_other _ _ _ _ (by omega)).trans HD.out.reply)) (size_reply _) rfl (one_reply _) ?_)
            have hr5 : RefIn (((w2.setRow (w.heap.size + 2) (rcells s' ad L.length cap)).setRow (w.heap.size + 3) s'.asks.cells).setRow (w.heap.size + 4) Reply.zero.cells) w.heap.size s' ad L.length cap := (setRow_other _ _ _ _ (by omega)).trans hr4
            refine hK.out _ _ hr5 (fun hS => ?_)
            clear hK K
            have hT := told_of (t := s') (m := L.length) (c := cap) (a := ad) (o := s'.asks) (y := Reply.zero) HD.out
            generalize (((w2.setRow (w.heap.size + 2) (rcells s' ad L.length cap)).setRow (w.heap.size + 3) s'.asks.cells).setRow (w.heap.size + 4) Reply.zero.cells) = w5 at hT hS hr5
            have HT := Lib.hid hT
            clear hT
            refine wpAnyH_ready (rs := [8]) (by kernel_rfl) (by simp) ?_
            refine AllReadyH.cons rfl (fun K hK => ?_) AllReadyH.nil
            go_simp
            refine hK.out _ _ hr5 (fun hS => ?_)
            clear hK K
            refine wpAnyH_done (by kernel_rfl) ?_ _
            go_wp2_with fail
            have hss := Hss.out
            subst hss
            exact ret_heard (s.heardMoved l) ad L.length cap (s.heardMoved l).asks Reply.zero (w.heap.size + 2) (w.heap.size + 3) (w.heap.size + 4) rfl rfl rfl rfl HT.out.out HT.out.letter HT.out.reply rfl ⟨fun _ => rfl, fun h => absurd (Hmo.out.symm.trans h) (by decide), fun h => absurd (Hmo.out.symm.trans h) (by decide), HT.out.bel⟩
        · have tk2 : (l.kind == 2) = false := by simp [hk]
          have hmo : s.moves l = false := by simp [St.moves, hnn]
          have hta : s.takes l = false := by simp [St.takes, hk]
          have Hmo := Lib.hid hmo
          have Hta := Lib.hid hta
          clear hmo hta
          clear ho hk
          go_upto_region 10 with fail
          go_wp2_with (first
            | (refine wpList_load_row rfl 32 _ rfl w.heap.size rfl 32 (rcells s ad L.length cap) (0, 0) _ HI.out.box Try.underlying32 rfl (size_ref _ _ _ _) ?_)
            | (refine wpList_store_row (P := Try.prog) rfl 32 (.tmp 4) (.tmp 90) rfl (w.heap.size + 2) (rcells s ad L.length cap) rfl rfl 32 _ HI.out.out (size_ref _ _ _ _) rfl (one_ref _ _ _ _) ?_)
            | (refine wpList_store_row (P := Try.prog) rfl 47 (.tmp 5) (.tmp 91) rfl (w.heap.size + 3) Letter.zero.cells rfl rfl 47 _ ((setRow_other _ _ _ _ (by omega)).trans HI.out.letter) (size_letter _) rfl (one_letter _ rfl rfl) ?_)
            | (refine wpList_store_row (P := Try.prog) rfl 43 (.tmp 7) (.tmp 92) rfl (w.heap.size + 4) Reply.zero.cells rfl rfl 43 _ ((setRow_other _ _ _ _ (by omega)).trans ((setRow_other _ _ _ _ (by omega)).trans HI.out.reply)) (size_reply _) rfl (one_reply _) ?_))
          have hT := told_of (t := s) (m := L.length) (c := cap) (a := ad) (o := Letter.zero) (y := Reply.zero) HI.out
          exact ret_heard s ad L.length cap Letter.zero Reply.zero (w.heap.size + 2) (w.heap.size + 3) (w.heap.size + 4) rfl rfl rfl rfl hT.out hT.letter hT.reply rfl (hears_none Hmo.out Hta.out hT.bel)
      · have tk : (l.kind == 3) = false := by simp [hk]
        by_cases hk2 : l.kind = 2
        · have tk2 : (l.kind == 2) = true := by simp [hk2]
          by_cases hc : l.code = 3
          · have tc : (l.code != 3) = false := by simp [hc]
            have hmo : s.moves l = false := by simp [St.moves, hk]
            have hta : s.takes l = false := by simp [St.takes, hc]
            have Hmo := Lib.hid hmo
            have Hta := Lib.hid hta
            clear hmo hta
            clear ho hk hk2 hc
            go_upto_region 10 with fail
            go_wp2_with (first
              | (refine wpList_load_row rfl 32 _ rfl w.heap.size rfl 32 (rcells s ad L.length cap) (0, 0) _ HI.out.box Try.underlying32 rfl (size_ref _ _ _ _) ?_)
              | (refine wpList_store_row (P := Try.prog) rfl 32 (.tmp 4) (.tmp 90) rfl (w.heap.size + 2) (rcells s ad L.length cap) rfl rfl 32 _ HI.out.out (size_ref _ _ _ _) rfl (one_ref _ _ _ _) ?_)
              | (refine wpList_store_row (P := Try.prog) rfl 47 (.tmp 5) (.tmp 91) rfl (w.heap.size + 3) Letter.zero.cells rfl rfl 47 _ ((setRow_other _ _ _ _ (by omega)).trans HI.out.letter) (size_letter _) rfl (one_letter _ rfl rfl) ?_)
              | (refine wpList_store_row (P := Try.prog) rfl 43 (.tmp 7) (.tmp 92) rfl (w.heap.size + 4) Reply.zero.cells rfl rfl 43 _ ((setRow_other _ _ _ _ (by omega)).trans ((setRow_other _ _ _ _ (by omega)).trans HI.out.reply)) (size_reply _) rfl (one_reply _) ?_))
            have hT := told_of (t := s) (m := L.length) (c := cap) (a := ad) (o := Letter.zero) (y := Reply.zero) HI.out
            exact ret_heard s ad L.length cap Letter.zero Reply.zero (w.heap.size + 2) (w.heap.size + 3) (w.heap.size + 4) rfl rfl rfl rfl hT.out hT.letter hT.reply rfl (hears_none Hmo.out Hta.out hT.bel)
          · have tc : (l.code != 3) = true := by simp [hc]
            have hmo : s.moves l = false := by simp [St.moves, hk]
            have Hmo := Lib.hid hmo
            have Hta := Lib.hid (takes_yes ho hk2 hc)
            clear ho hk hk2 hc hmo
            as_aux_lemma =>
              have f3 := frozen_of_row _ _ 3 _ _ HI.out.box
              go_upto_region 9 with fail
              refine code_from (Inv5 w s.heardReply ad L.length cap l) (by exact HI.out.set rfl) ?_
              clear HI c0 c1 c2 c3 c4 m2 m7 m18 m19 tk tk2 tc f3 hnc
              rintro wd hI
              have HI := Lib.hid hI
              clear hI
              generalize hss : s.heardReply = s' at *
              have Hss := Lib.hid hss
              clear hss
              refine wp_region_held_drew (S := fun w' => RefIn w' w.heap.size s' ad L.length cap ∧ Letter.In w' (w.heap.size + 1) l) (by kernel_rfl) ⟨HI.out.box, HI.out.msg⟩ (fun hS => ?_)
              refine wpAnyH_take (i := 0) (v := .agg (rcells s' ad L.length cap)) rfl (by kernel_rfl) (by kernel_rfl) (by kernel_rfl) (fun _ _ _ h => h) (yields_load rfl 32 _ rfl w.heap.size rfl 32 _ (0, 0) _ (fun _ h => h.1) Try.underlying32 rfl (size_ref _ _ _ _)) hS ?_
              simp only [List.getElem_toArray, List.getElem_cons_zero, List.getElem_cons_succ, Act.put, List.setIfInBounds_toArray, List.set_cons_zero, List.set_cons_succ]
              refine wpAnyH_take (i := 1) (v := .agg Letter.zero.cells) rfl (by kernel_rfl) (by kernel_rfl) (by kernel_rfl) (fun _ _ _ h => h) (Or.inl ⟨by rfl, fun w _ => by go_simp; rfl⟩) hS ?_
              simp only [List.getElem_toArray, List.getElem_cons_zero, List.getElem_cons_succ, Act.put, List.setIfInBounds_toArray, List.set_cons_zero, List.set_cons_succ]
              refine wpAnyH_take (i := 2) (v := .pointer (some ⟨w.heap.size + 1, 2, none⟩)) rfl (by kernel_rfl) (by kernel_rfl) (by kernel_rfl) (fun _ _ _ h => h) (Or.inl ⟨by rfl, fun w _ => by go_simp⟩) hS ?_
              simp only [List.getElem_toArray, List.getElem_cons_zero, List.getElem_cons_succ, Act.put, List.setIfInBounds_toArray, List.set_cons_zero, List.set_cons_succ]
              refine wpAnyH_take (i := 3) (v := .pointer (some ⟨w.heap.size + 1, 18, none⟩)) rfl (by kernel_rfl) (by kernel_rfl) (by kernel_rfl) (fun _ _ _ h => h) (Or.inl ⟨by rfl, fun w _ => by go_simp⟩) hS ?_
              simp only [List.getElem_toArray, List.getElem_cons_zero, List.getElem_cons_succ, Act.put, List.setIfInBounds_toArray, List.set_cons_zero, List.set_cons_succ]
              refine wpAnyH_take (i := 4) (v := .agg l.reply.cells) rfl (by kernel_rfl) (by kernel_rfl) (by kernel_rfl) (fun _ _ _ h => h) (Or.inl ⟨by rfl, fun w hw => by have h18 := cell_of_row _ _ 18 _ _ _ hw.2; have h19 := cell_of_row _ _ 19 _ _ _ hw.2; rw [letter_at18] at h18; rw [letter_at19] at h19; go_simp; rfl⟩) hS ?_
              simp only [List.getElem_toArray, List.getElem_cons_zero, List.getElem_cons_succ, Act.put, List.setIfInBounds_toArray, List.set_cons_zero, List.set_cons_succ]
              have HD := Lib.hid (HI.out.below (W' := wd.drew) ((Below.refl _ _).drew))
              clear HI
              refine wpAnyH_ready (rs := [5]) (by kernel_rfl) (by simp) ?_
              refine AllReadyH.cons rfl (fun K hK => ?_) AllReadyH.nil
              refine op_wanted rfl (wp_store_row 32 _ _ rfl (w.heap.size + 2) (rcells s' ad L.length cap) rfl rfl 32 _ HD.out.out (size_ref _ _ _ _) rfl (one_ref _ _ _ _) ?_)
              refine hK.out _ _ ⟨(setRow_other _ _ _ _ (by omega)).trans hS.1, (setRow_other _ _ _ _ (by omega)).trans hS.2⟩ (fun hS => ?_)
              clear hK K
              refine wpAnyH_ready (rs := [6]) (by kernel_rfl) (by simp) ?_
              refine AllReadyH.cons rfl (fun K hK => ?_) AllReadyH.nil
              refine op_wanted rfl (wp_store_row 47 _ _ rfl (w.heap.size + 3) Letter.zero.cells rfl rfl 47 _ ((setRow_other _ _ _ _ (by omega)).trans HD.out.letter) (size_letter _) rfl (one_letter _ rfl rfl) ?_)
              refine hK.out _ _ ⟨(setRow_other _ _ _ _ (by omega)).trans hS.1, (setRow_other _ _ _ _ (by omega)).trans hS.2⟩ (fun hS => ?_)
              clear hK K
              refine wpAnyH_ready (rs := [7]) (by kernel_rfl) (by simp) ?_
              refine AllReadyH.cons rfl (fun K hK => ?_) AllReadyH.nil
              go_simp
              refine hK.out _ _ hS (fun hS => ?_)
              clear hK K
              refine wpAnyH_ready (rs := [8]) (by kernel_rfl) (by simp) ?_
              refine AllReadyH.cons rfl (fun K hK => ?_) AllReadyH.nil
              refine op_wanted rfl (wp_store_row 43 _ _ rfl (w.heap.size + 4) l.reply.cells rfl rfl 43 _ ((setRow_other _ _ _ _ (by omega)).trans ((setRow_other _ _ _ _ (by omega)).trans HD.out.reply)) (size_reply _) rfl (one_reply _) ?_)
              refine hK.out _ _ ⟨(setRow_other _ _ _ _ (by omega)).trans hS.1, (setRow_other _ _ _ _ (by omega)).trans hS.2⟩ (fun hS => ?_)
              clear hK K
              have hT := told_of (t := s') (m := L.length) (c := cap) (a := ad) (o := Letter.zero) (y := l.reply) HD.out
              generalize (((wd.drew.setRow (w.heap.size + 2) (rcells s' ad L.length cap)).setRow (w.heap.size + 3) Letter.zero.cells).setRow (w.heap.size + 4) l.reply.cells) = w5 at hT hS
              have HT := Lib.hid hT
              clear hT
              refine wpAnyH_ready (rs := [9]) (by kernel_rfl) (by simp) ?_
              refine AllReadyH.cons rfl (fun K hK => ?_) AllReadyH.nil
              go_simp
              refine hK.out _ _ hS (fun hS => ?_)
              clear hK K
              refine wpAnyH_done (by kernel_rfl) ?_ _
              go_wp2_with fail
              have hss := Hss.out
              subst hss
              exact ret_heard s.heardReply ad L.length cap Letter.zero l.reply (w.heap.size + 2) (w.heap.size + 3) (w.heap.size + 4) rfl rfl rfl rfl HT.out.out HT.out.letter HT.out.reply rfl ⟨fun h => absurd (Hmo.out.symm.trans h) (by decide), fun _ _ => rfl, fun _ h => absurd (Hta.out.symm.trans h) (by decide), HT.out.bel⟩
        · have tk2 : (l.kind == 2) = false := by simp [hk2]
          have hmo : s.moves l = false := by simp [St.moves, hk]
          have hta : s.takes l = false := by simp [St.takes, hk2]
          have Hmo := Lib.hid hmo
          have Hta := Lib.hid hta
          clear hmo hta
          clear ho hk hk2
          go_upto_region 10 with fail
          go_wp2_with (first
            | (refine wpList_load_row rfl 32 _ rfl w.heap.size rfl 32 (rcells s ad L.length cap) (0, 0) _ HI.out.box Try.underlying32 rfl (size_ref _ _ _ _) ?_)
            | (refine wpList_store_row (P := Try.prog) rfl 32 (.tmp 4) (.tmp 90) rfl (w.heap.size + 2) (rcells s ad L.length cap) rfl rfl 32 _ HI.out.out (size_ref _ _ _ _) rfl (one_ref _ _ _ _) ?_)
            | (refine wpList_store_row (P := Try.prog) rfl 47 (.tmp 5) (.tmp 91) rfl (w.heap.size + 3) Letter.zero.cells rfl rfl 47 _ ((setRow_other _ _ _ _ (by omega)).trans HI.out.letter) (size_letter _) rfl (one_letter _ rfl rfl) ?_)
            | (refine wpList_store_row (P := Try.prog) rfl 43 (.tmp 7) (.tmp 92) rfl (w.heap.size + 4) Reply.zero.cells rfl rfl 43 _ ((setRow_other _ _ _ _ (by omega)).trans ((setRow_other _ _ _ _ (by omega)).trans HI.out.reply)) (size_reply _) rfl (one_reply _) ?_))
          have hT := told_of (t := s) (m := L.length) (c := cap) (a := ad) (o := Letter.zero) (y := Reply.zero) HI.out
          exact ret_heard s ad L.length cap Letter.zero Reply.zero (w.heap.size + 2) (w.heap.size + 3) (w.heap.size + 4) rfl rfl rfl rfl hT.out hT.letter hT.reply rfl (hears_none Hmo.out Hta.out hT.bel)
end Go.Proofs.Ytakpkedioehjbaa
