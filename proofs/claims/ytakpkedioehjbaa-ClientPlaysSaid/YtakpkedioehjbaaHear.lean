/-
  THE WALK of a client's Hear.
-/
import Derived.Test.YtakpkedioehjbaaInvoke
namespace Go.Proofs.Ytakpkedioehjbaa
open Go.RowKit Go.Maps

/-- Results: two structs in memory, a slot behind each. -/
theorem results_cell_tmp_cell_tmp {P : Program} {fn : Func} {p q r s : Tmp} {ty tz : TypeId} (h : fn.results = #[.cell p ty, .tmp q, .cell r tz, .tmp s]) (tmps : Array Value) (w : World) (g k : Nat) (t u : TypeId) (cs ds : Array Value) (fr gr : Nat × Nat) (d e : TypeDesc)
    (hp : tmps.getD p undef = .pointer (some ⟨g, 0, none⟩)) (hg : w.heap[g]? = some (.cells cs t fr))
    (hu : P.underlying ty = some d) (hd : (match d with | .struct _ | .array _ _ => true | _ => false) = true) (hi : (P.info? ty).map (·.size) = some cs.size)
    (hr : tmps.getD r undef = .pointer (some ⟨k, 0, none⟩)) (hk : w.heap[k]? = some (.cells ds u gr))
    (hv : P.underlying tz = some e) (he : (match e with | .struct _ | .array _ _ => true | _ => false) = true) (hj : (P.info? tz).map (·.size) = some ds.size) :
    (results fn tmps).run P w = .ok (.tuple #[.agg cs, tmps.getD q undef, .agg ds, tmps.getD s undef]) w := by
  have hp' : tmps[p]?.getD undef = .pointer (some ⟨g, 0, none⟩) := by simpa using hp
  have hr' : tmps[r]?.getD undef = .pointer (some ⟨k, 0, none⟩) := by simpa using hr
  simp [results, h, hp', hr', asAddr, run_loadVar_row w g t ty cs fr d hg hu hd hi, run_loadVar_row w k u tz ds gr e hk hv he hj]

def Reply.In (w : World) (b : Nat) (r : Reply) : Prop := w.heap[b]? = some (.cells r.cells 43 (0, 0))
theorem ret_hear {w : World} {a : Act} {fn : Func} {R : Ending → World → Prop} {p q u s : Tmp} (l : Letter) (r : Reply) (B C : Nat) (hr : fn.results = #[.cell p 47, .tmp q, .cell u 43, .tmp s]) (hp : a.tmps.getD p undef = .pointer (some ⟨B, 0, none⟩))
    (hu : a.tmps.getD u undef = .pointer (some ⟨C, 0, none⟩)) (hB : Letter.In w B l) (hC : Reply.In w C r) (hd : a.defers = []) (h : R (.returned (.tuple #[.agg l.cells, a.tmps.getD q undef, .agg r.cells, a.tmps.getD s undef])) w) : bodyPost Try.prog fn R .ret a w :=
  bodyPost_ret (results_cell_tmp_cell_tmp hr _ w B C 47 43 _ _ (0, 0) (0, 0) _ _ hp hB Try.underlying47 rfl (size_letter _) hu hC Try.underlying43 rfl (size_reply _)) hd h

set_option maxRecDepth 100000 in
set_option maxHeartbeats 1600000 in
theorem own_nil (l : Letter) (w : World) :
    Calls Try.prog 29 #[.pointer none, .agg l.cells] w fun r w' => r = .returned (.bool false) ∧ Below w.heap.size w w' := by
  obtain ⟨lsrc, ldst, lkind, lbn, lbr, lbase, lslot, lnode, lvalue, lvotes, litems, ⟨lclient, lseq, lckind, lkey, lold, lnew, lset⟩, lcode, ltext⟩ := l
  simp only [Letter.cells]
  go_enter Try.func29, Try.ntmps29
  go_upto_region 2 with fail
  refine code_from (fun wc => Below w.heap.size w wc) (((Below.refl _ _).alloc (Nat.le_refl _) _).alloc (by simp) _) ?_
  rintro wc hbel
  go_quiet (fail)
  go_wp2_with fail
  go_ret
  exact ⟨rfl, drawn hbel _⟩

theorem heap_three_0 (w : World) (A B C : Obj) : (((w.alloc A).alloc B).alloc C).heap[w.heap.size]? = some A := (Below.heap_alloc ((w.alloc A).alloc B) C w.heap.size (by simp; omega)).trans (heap_alloc2_old w A B)
theorem heap_three_1 (w : World) (A B C : Obj) : (((w.alloc A).alloc B).alloc C).heap[w.heap.size + 1]? = some B := (Below.heap_alloc ((w.alloc A).alloc B) C (w.heap.size + 1) (by simp)).trans (heap_alloc2_new w A B)
theorem heap_three_2 (w : World) (A B C : Obj) : (((w.alloc A).alloc B).alloc C).heap[w.heap.size + 2]? = some C := by
  have h := heap_alloc_new ((w.alloc A).alloc B) C
  simpa [Nat.add_assoc] using h
/-- To store what a row holds changes nothing. -/
theorem setRow_same {w : World} {g : Nat} {cs : Array Value} {t : TypeId} {fr : Nat × Nat} (h : w.heap[g]? = some (.cells cs t fr)) : w.setRow g cs = w := by
  have hh : (w.setRow g cs).heap = w.heap := by
    apply Array.ext_getElem?
    intro i
    by_cases hi : i = g
    · subst hi; rw [setRow_heap _ _ _ _ _ _ h, h]
    · exact setRow_other w g i cs hi
  cases w
  simp only [World.setRow] at hh ⊢
  rw [hh]

/-- A struct that lies somewhere, cell by cell, is loaded whole. -/
theorem run_loadVar_cells {P : Program} (w : World) (ad : Addr) (ty : TypeId) (ds : Array Value) (d : TypeDesc) (hc : ∀ j v, ds[j]? = some v → w.cell? (ad.add j) = some v)
    (hu : P.underlying ty = some d) (hd : (match d with | .struct _ | .array _ _ => true | _ => false) = true) (hi : (P.info? ty).map (·.size) = some ds.size) :
    (loadVar ty ad).run P w = .ok (.agg ds) w := by
  have hl : (loadCells ad ds.toList.length).run P w = .ok ds.toList.toArray w := run_loadCells_list (P := P) w ad ds.toList (fun j v hv => hc j v (by simpa using hv))
  cases hq : P.info? ty with
  | none => simp [hq] at hi
  | some i =>
    have hs : i.size = ds.size := by simpa [hq] using hi
    have hagg : (isAgg ty).run P w = .ok true w := by
      unfold isAgg
      rw [Sem.run_bind, run_underlying hu w]
      cases d <;> simp_all
    simp only [Array.length_toList, Array.toArray_toList] at hl
    simp [loadVar, Sem.run_bind, hagg, sizeOf, typeInfo, hq, hs, hl]
theorem still_load {P : Program} {ops : Array Oper} {w : World} {Q : Act → Prop} {o : Oper} {rest : List Oper} {a : Act} (hgd : o.guard = none) (ty : TypeId) (x : Operand) (ho : o.op = .load ty x)
    (g : Nat) (hx : a.eval x = .pointer (some ⟨g, 0, none⟩)) (t : TypeId) (cs : Array Value) (fr : Nat × Nat) (d : TypeDesc) (hg : w.heap[g]? = some (.cells cs t fr))
    (hu : P.underlying ty = some d) (hd : (match d with | .struct _ | .array _ _ => true | _ => false) = true) (hi : (P.info? ty).map (·.size) = some cs.size)
    (h : wpStill P ops w Q rest (a.put o.dst (.agg cs))) : wpStill P ops w Q (o :: rest) a := by
  have hw : Region.wanted o (yielded ops a.tmps) = true := by simp [Region.wanted, hgd]
  unfold wpStill
  rw [if_pos hw]
  unfold Oper.still execOp
  simp only [ho, hx, Instr.loadAt, Instr.sureAddr, Sem.run_bind, Sem.run_pure, Result.andThen_ok, run_loadVar_row w g t ty cs fr d hg hu hd hi]
  exact ⟨rfl, h⟩
theorem still_load_cells {P : Program} {ops : Array Oper} {w : World} {Q : Act → Prop} {o : Oper} {rest : List Oper} {a : Act} (hgd : o.guard = none) (ty : TypeId) (x : Operand) (ho : o.op = .load ty x)
    (ad : Addr) (hx : a.eval x = .pointer (some ad)) (ds : Array Value) (d : TypeDesc) (hc : ∀ j v, ds[j]? = some v → w.cell? (ad.add j) = some v)
    (hu : P.underlying ty = some d) (hd : (match d with | .struct _ | .array _ _ => true | _ => false) = true) (hi : (P.info? ty).map (·.size) = some ds.size)
    (h : wpStill P ops w Q rest (a.put o.dst (.agg ds))) : wpStill P ops w Q (o :: rest) a := by
  have hw : Region.wanted o (yielded ops a.tmps) = true := by simp [Region.wanted, hgd]
  unfold wpStill
  rw [if_pos hw]
  unfold Oper.still execOp
  simp only [ho, hx, Instr.loadAt, Instr.sureAddr, Sem.run_bind, Sem.run_pure, Result.andThen_ok, run_loadVar_cells w ad ty ds d hc hu hd hi]
  exact ⟨rfl, h⟩
theorem still_same {P : Program} {ops : Array Oper} {w : World} {Q : Act → Prop} {o : Oper} {rest : List Oper} {a : Act} (hgd : o.guard = none) (ty : TypeId) (x y : Operand) (ho : o.op = .store ty x y)
    (g : Nat) (cells : Array Value) (hx : a.eval x = .pointer (some ⟨g, 0, none⟩)) (hy : a.eval y = .agg cells)
    (t : TypeId) (hg : w.heap[g]? = some (.cells cells t (0, 0))) (hi : (P.info? ty).map (·.size) = some cells.size) (h1 : cells.all (·.oneCell') = true)
    (h : wpStill P ops w Q rest (a.put o.dst undef)) : wpStill P ops w Q (o :: rest) a := by
  have hw : Region.wanted o (yielded ops a.tmps) = true := by simp [Region.wanted, hgd]
  unfold wpStill
  rw [if_pos hw]
  unfold Oper.still execOp
  simp only [ho, hx, hy, Instr.storeAt, Instr.sureAddr, Sem.run_bind, Sem.run_pure, Result.andThen_ok, run_storeVar_row w g t ty cells cells hg hi rfl h1, setRow_same hg]
  exact ⟨rfl, h⟩

theorem below_three (w : World) (A B C : Obj) : Below w.heap.size w (((w.alloc A).alloc B).alloc C) := (((Below.refl _ _).alloc (Nat.le_refl _) _).alloc (by simp) _).alloc (by simp; omega) _

set_option maxRecDepth 100000 in
set_option maxHeartbeats 1600000 in
theorem hear_nil (l : Letter) (w : World) :
    Calls Try.prog 16 #[.pointer none, .agg l.cells] w fun r w' => r = .returned (.tuple #[.agg Letter.zero.cells, .bool false, .agg Reply.zero.cells, .bool false]) ∧ Below w.heap.size w w' := by
  go_enter Try.func16, Try.ntmps16
  go_upto_region 1 with fail
  refine code_from (fun wc => Letter.In wc w.heap.size l ∧ Letter.In wc (w.heap.size + 1) Letter.zero ∧ Reply.In wc (w.heap.size + 2) Reply.zero ∧ Below w.heap.size w wc) ⟨?_, ?_, ?_, below_three w _ _ _⟩ ?_
  · exact heap_three_0 _ _ _ _
  · exact heap_three_1 _ _ _ _
  · exact heap_three_2 _ _ _ _
  rintro wc ⟨hL, hO, hR, hbel⟩
  go_wp2_with (refine wpList_load_row rfl 47 _ rfl w.heap.size rfl 47 l.cells (0, 0) _ hL Try.underlying47 rfl (size_letter _) ?_)
  refine (own_nil l _).mono ?_
  rintro e w1 ⟨rfl, hb⟩
  go_upto_region 2 with fail
  have hO1 : Letter.In w1.drew (w.heap.size + 1) Letter.zero := letter_drew ((hb.block _ (letter_lt hO)).trans hO)
  have hR1 : w1.drew.heap[w.heap.size + 2]? = some (.cells Reply.zero.cells 43 (0, 0)) := (hb.block _ (block_lt hR)).trans hR
  have hbel1 := (hbel.trans (hb.mono hbel.size)).drew
  refine wp_region_still_lit (by kernel_rfl) (by kernel_rfl) ?_
  change wpStill _ _ w1.drew _ _ _
  refine still_load rfl 47 _ rfl (w.heap.size + 1) rfl 47 Letter.zero.cells (0, 0) _ hO1 Try.underlying47 rfl (size_letter _) ?_
  refine still_load rfl 43 _ rfl (w.heap.size + 2) rfl 43 Reply.zero.cells (0, 0) _ hR1 Try.underlying43 rfl (size_reply _) ?_
  refine still_same rfl 47 _ _ rfl (w.heap.size + 1) Letter.zero.cells rfl rfl 47 hO1 (size_letter _) (one_letter _ rfl rfl) ?_
  still_step
  refine still_same rfl 43 _ _ rfl (w.heap.size + 2) Reply.zero.cells rfl rfl 43 hR1 (size_reply _) (one_reply _) ?_
  still_step
  refine wpStill_nil ?_
  change Exit.then _ _ _ _ w1.drew
  go_wp2_with fail
  exact ret_hear Letter.zero Reply.zero (w.heap.size + 1) (w.heap.size + 2) rfl rfl rfl hO1 hR1 rfl ⟨rfl, hbel1⟩

theorem wpList_load_cells {P : Program} {ops : Array Oper} {rest : List Oper} {o : Oper} {a : Act} {w : World} {Q : Exit → Act → World → Prop} (hgd : o.guard = none) (ty : TypeId) (x : Operand) (ho : o.op = .load ty x)
    (ad : Addr) (hx : a.eval x = .pointer (some ad)) (ds : Array Value) (d : TypeDesc) (hc : ∀ j v, ds[j]? = some v → w.cell? (ad.add j) = some v)
    (hu : P.underlying ty = some d) (hd : (match d with | .struct _ | .array _ _ => true | _ => false) = true) (hi : (P.info? ty).map (·.size) = some ds.size)
    (h : wpList P ops Q rest (a.put o.dst (.agg ds)) w) : wpList P ops Q (o :: rest) a w := by
  refine wpList_plain hgd fun K hK => ?_
  unfold Oper.wp execOp
  simp only [ho, hx, Instr.loadAt, Instr.sureAddr, Sem.run_bind, Sem.run_pure, Result.andThen_ok, run_loadVar_cells w ad ty ds d hc hu hd hi]
  exact hK _ _ h

theorem add_plain (b i j : Nat) : (⟨b, i, none⟩ : Addr).add j = ⟨b, i + j, none⟩ := by unfold Addr.add; split <;> simp_all
/-- A struct inside a row. -/
theorem cells_part {w : World} {b k n : Nat} {cs : Array Value} {t : TypeId} {fr : Nat × Nat} (h : w.heap[b]? = some (.cells cs t fr)) (ds : Array Value) (he : ds = cs.extract k n) :
    ∀ j v, ds[j]? = some v → w.cell? ((⟨b, k, none⟩ : Addr).add j) = some v := by
  intro j v hv
  rw [add_plain, cell_of_row w b (k + j) _ _ _ h]
  subst he
  simp [Array.getElem?_extract] at hv
  exact hv.2

/-- A letter's message. -/
def Letter.msg (l : Letter) : Array Value := #[.int .u8 l.kind, .int .u64 l.bn, .int .u8 l.br, .int .u64 l.base, .int .u64 l.slot, .int .u8 l.node, .string l.value, l.votes, l.items,
  .int .u8 l.cmd.client, .int .u32 l.cmd.seq, .int .u8 l.cmd.kind, .string l.cmd.key, .string l.cmd.old, .string l.cmd.new, .int .u8 l.cmd.set, .int .u8 l.code, .string l.text]
theorem msg_part (l : Letter) : l.msg = l.cells.extract 2 20 := by simp [Letter.msg, Letter.cells]
theorem size_msg (l : Letter) : (Try.prog.info? 45).map (·.size) = some l.msg.size := by
  rw [show l.msg.size = 18 from rfl]
  kernel_rfl
theorem one_msg (l : Letter) (hv : l.votes.oneCell' = true) (hi : l.items.oneCell' = true) : l.msg.all (·.oneCell') = true := by
  rw [Array.all_eq_true_iff_forall_mem]
  intro v h
  simp only [Letter.msg, List.mem_toArray, List.mem_cons, List.not_mem_nil, or_false] at h
  rcases h with rfl | rfl | rfl | rfl | rfl | rfl | rfl | rfl | rfl | rfl | rfl | rfl | rfl | rfl | rfl | rfl | rfl | rfl <;> first | exact hv | exact hi | rfl
structure Letter.Fits (l : Letter) : Prop where
  src0 : 0 ≤ l.src
  src1 : l.src < 256
  node0 : 0 ≤ l.node
  node1 : l.node < 256
  votes : l.votes.oneCell' = true
  items : l.items.oneCell' = true
def Letter.reply (l : Letter) : Reply := ⟨l.code, l.text⟩
def St.heardMoved (s : St) (l : Letter) : St := { s with dst := l.node }
def St.heardReply (s : St) : St := { s with waits := false }
def St.moves (s : St) (l : Letter) : Bool := s.own l && (l.kind == 3 && decide (l.node < s.n))
def St.takes (s : St) (l : Letter) : Bool := s.own l && (l.kind == 2 && l.code != 3)
/-- What Hear answers and leaves. -/
def HearGoes (g : Nat) (s : St) (l : Letter) (w : World) (r : Ending) (w' : World) : Prop :=
  (s.moves l = true → r = .returned (.tuple #[.agg (s.heardMoved l).asks.cells, .bool true, .agg Reply.zero.cells, .bool false]) ∧ Upd w w' g (s.heardMoved l)) ∧
  (s.moves l = false → s.takes l = true → r = .returned (.tuple #[.agg Letter.zero.cells, .bool false, .agg l.reply.cells, .bool true]) ∧ Upd w w' g s.heardReply) ∧
  (s.moves l = false → s.takes l = false → r = .returned (.tuple #[.agg Letter.zero.cells, .bool false, .agg Reply.zero.cells, .bool false]) ∧ Upd w w' g s)
theorem hear_none {g : Nat} {s : St} {l : Letter} {w w' : World} (hm : s.moves l = false) (ht : s.takes l = false) (hs : St.At w' g s) (hb : Below w.heap.size w w') :
    HearGoes g s l w (.returned (.tuple #[.agg Letter.zero.cells, .bool false, .agg Reply.zero.cells, .bool false])) w' :=
  ⟨fun h => absurd (hm.symm.trans h) (by decide), fun _ h => absurd (ht.symm.trans h) (by decide), fun _ _ => ⟨rfl, hs, grown_below hb (Nat.le_refl _)⟩⟩

theorem op_wanted {P : Program} {ops : Array Oper} {o : Oper} {a : Act} {w : World} {K : Act → World → Prop} {Q : Exit → Act → World → Prop} {E : Prop} (hgd : o.guard = none) (h : Oper.wp P o a w K Q) :
    if Region.wanted o (yielded ops a.tmps) = true then Oper.wp P o a w K Q else E := by
  rw [if_pos (by simp [Region.wanted, hgd])]
  exact h
theorem yields_load {P : Program} {ops : Array Oper} {S : World → Prop} {o : Oper} {a : Act} (hgd : o.guard = none) (ty : TypeId) (x : Operand) (ho : o.op = .load ty x)
    (g : Nat) (hx : a.eval x = .pointer (some ⟨g, 0, none⟩)) (t : TypeId) (cs : Array Value) (fr : Nat × Nat) (d : TypeDesc) (hS : ∀ w, S w → w.heap[g]? = some (.cells cs t fr))
    (hu : P.underlying ty = some d) (hd : (match d with | .struct _ | .array _ _ => true | _ => false) = true) (hi : (P.info? ty).map (·.size) = some cs.size) : YieldsIf P ops S o (.agg cs) a := by
  refine Or.inl ⟨by simp [Region.wanted, hgd], fun w h => ?_⟩
  unfold execOp
  simp only [ho, hx, Instr.loadAt, Instr.sureAddr, Sem.run_bind, Sem.run_pure, Result.andThen_ok, run_loadVar_row w g t ty cs fr d (hS w h) hu hd hi]
theorem old_letter {w : World} {b : Nat} {l : Letter} (h : Letter.In w b l) (o : Obj) (cs : Array Value) : Letter.In ((w.alloc o).setRow w.heap.size cs) b l := by
  have hlt := letter_lt h
  exact (setRow_other _ _ _ _ (by omega)).trans ((Below.heap_alloc w o b hlt).trans h)
theorem old_reply {w : World} {b : Nat} {r : Reply} (h : Reply.In w b r) (o : Obj) (cs : Array Value) : Reply.In ((w.alloc o).setRow w.heap.size cs) b r := by
  have hlt := block_lt h
  exact (setRow_other _ _ _ _ (by omega)).trans ((Below.heap_alloc w o b hlt).trans h)
theorem old_st {w : World} {g : Nat} {s : St} (h : St.At w g s) (o : Obj) (cs : Array Value) : St.At ((w.alloc o).setRow w.heap.size cs) g s := by
  have hlt := st_lt h
  exact (setRow_other _ _ _ _ (by omega)).trans ((Below.heap_alloc w o g hlt).trans h)
theorem old_below {a w : World} (h : Below a.heap.size a w) (o : Obj) (cs : Array Value) : Below a.heap.size a ((w.alloc o).setRow w.heap.size cs) :=
  below_setRow (h.alloc h.size o) h.size cs

theorem moves_yes {s : St} {l : Letter} (h : s.own l = true) (hk : l.kind = 3) (hn : l.node < s.n) : s.moves l = true := by simp [St.moves, h, hk, hn]
theorem moved_ok {s : St} {l : Letter} (h : s.Ok) (h0 : 0 ≤ l.node) (hn : l.node < s.n) : (s.heardMoved l).Ok := ⟨h.id0, h.id1, h.n0, h.n1, h0, hn, h.seq0, h.seq1⟩
end Go.Proofs.Ytakpkedioehjbaa
