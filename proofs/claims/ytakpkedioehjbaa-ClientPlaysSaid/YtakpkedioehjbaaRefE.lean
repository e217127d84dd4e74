/-
  THE WALK of the reference client's Nudge.
-/
import Derived.Test.YtakpkedioehjbaaRefB
namespace Go.Proofs.Ytakpkedioehjbaa
open Go.RowKit Go.Maps Go.BigFrame

/-- Results: two structs in memory, and a slot. -/
theorem results_cell_cell_tmp {P : Program} {fn : Func} {p q r : Tmp} {ty tz : TypeId} (h : fn.results = #[.cell p ty, .cell q tz, .tmp r]) (tmps : Array Value) (w : World) (g k : Nat) (t u : TypeId) (cs ds : Array Value) (fr gr : Nat × Nat) (d e : TypeDesc)
    (hp : tmps.getD p undef = .pointer (some ⟨g, 0, none⟩)) (hg : w.heap[g]? = some (.cells cs t fr))
    (hu : P.underlying ty = some d) (hd : (match d with | .struct _ | .array _ _ => true | _ => false) = true) (hi : (P.info? ty).map (·.size) = some cs.size)
    (hr : tmps.getD q undef = .pointer (some ⟨k, 0, none⟩)) (hk : w.heap[k]? = some (.cells ds u gr))
    (hv : P.underlying tz = some e) (he : (match e with | .struct _ | .array _ _ => true | _ => false) = true) (hj : (P.info? tz).map (·.size) = some ds.size) :
    (results fn tmps).run P w = .ok (.tuple #[.agg cs, .agg ds, tmps.getD r undef]) w := by
  have hp' : tmps[p]?.getD undef = .pointer (some ⟨g, 0, none⟩) := by simpa using hp
  have hr' : tmps[q]?.getD undef = .pointer (some ⟨k, 0, none⟩) := by simpa using hr
  simp [results, h, hp', hr', asAddr, run_loadVar_row w g t ty cs fr d hg hu hd hi, run_loadVar_row w k u tz ds gr e hk hv he hj]
theorem ret_told {w : World} {a : Act} {fn : Func} {R : Ending → World → Prop} {p q r : Tmp} (s : St) (ad : Option Addr) (n cap : Nat) (l : Letter) (B C : Nat) (hr : fn.results = #[.cell p 32, .cell q 47, .tmp r]) (hp : a.tmps.getD p undef = .pointer (some ⟨B, 0, none⟩))
    (hq : a.tmps.getD q undef = .pointer (some ⟨C, 0, none⟩)) (hB : RefIn w B s ad n cap) (hC : Letter.In w C l) (hd : a.defers = []) (h : R (.returned (.tuple #[.agg (rcells s ad n cap), .agg l.cells, a.tmps.getD r undef])) w) : bodyPost Try.prog fn R .ret a w :=
  bodyPost_ret (results_cell_cell_tmp hr _ w B C 32 47 _ _ (0, 0) (0, 0) _ _ hp hB Try.underlying32 rfl (size_ref _ _ _ _) hq hC Try.underlying47 rfl (size_letter _)) hd h
theorem ref_set {w : World} {b i : Nat} {s s' : St} {ad ad' : Option Addr} {n n' c c' : Nat} {v : Value} (h : RefIn w b s ad n c) (he : (rcells s ad n c).setIfInBounds i v = rcells s' ad' n' c') : RefIn (w.setCell ⟨b, i, none⟩ v) b s' ad' n' c' := by
  have h1 := set_cells h i v
  rw [he] at h1
  exact h1
/-- The variables of a call: the client that came in, the one and the letter that go out. -/
structure Vars (w : World) (s : St) (ad : Option Addr) (n cap : Nat) (wd : World) : Prop where
  box : RefIn wd w.heap.size s ad n cap
  out : ∃ t a m c, RefIn wd (w.heap.size + 1) t a m c
  letter : Letter.In wd (w.heap.size + 2) Letter.zero
  bel : Below w.heap.size w wd
def rzero : St := ⟨0, 0, 0, false, Cmd.zero, 0⟩

set_option maxRecDepth 100000 in
set_option maxHeartbeats 1600000 in
theorem refNudge_no (s : St) (ad : Option Addr) (cap n : Nat) (w : World) (hw : s.waits = false) :
    Calls Try.prog 15 #[.agg (rcells s ad n cap)] w fun r w' => r = .returned (.tuple #[.agg (rcells s ad n cap), .agg Letter.zero.cells, .int .i64 13]) ∧ Below w.heap.size w w' := by
  go_enter Try.func15, Try.ntmps15
  go_upto_region 1 with fail
  refine code_from (fun wd => RefIn wd w.heap.size s ad n cap ∧ RefIn wd (w.heap.size + 1) rzero none 0 0 ∧ Letter.In wd (w.heap.size + 2) Letter.zero ∧ Below w.heap.size w wd) ⟨heap_three_0 _ _ _ _, heap_three_1 _ _ _ _, heap_three_2 _ _ _ _, below_three w _ _ _⟩ ?_
  rintro wd ⟨hr, ho, hl, hb⟩
  obtain ⟨c0, c1, c2, c3, c4⟩ := ref_reads hr
  rw [hw] at c3
  have HO := Lib.hid ho
  have HLt := Lib.hid hl
  have Hb := Lib.hid hb
  have HR := Lib.hid hr
  clear hr ho hl hb
  go_wp2_with (first
    | (refine wpList_load_row rfl 32 _ rfl w.heap.size rfl 32 (rcells s ad n cap) (0, 0) _ HR.out Try.underlying32 rfl (size_ref _ _ _ _) ?_)
    | (refine wpList_store_row (P := Try.prog) rfl 32 (.tmp 2) (.tmp 8) rfl (w.heap.size + 1) (rcells s ad n cap) rfl rfl 32 _ HO.out (size_ref _ _ _ _) rfl (one_ref _ _ _ _) ?_)
    | (refine wpList_store_row (P := Try.prog) rfl 47 (.tmp 3) (.tmp 9) rfl (w.heap.size + 2) Letter.zero.cells rfl rfl 47 _ ((setRow_other _ _ _ _ (by omega)).trans HLt.out) (size_letter _) rfl (one_letter _ rfl rfl) ?_))
  exact ret_told s ad n cap Letter.zero (w.heap.size + 1) (w.heap.size + 2) rfl rfl rfl ((setRow_other _ _ _ _ (by omega)).trans (setRow_heap _ _ _ _ _ _ HO.out)) (setRow_heap _ _ _ _ _ _ ((setRow_other _ _ _ _ (by omega)).trans HLt.out)) rfl
    ⟨rfl, below_setRow (below_setRow Hb.out (by omega) _) (by omega) _⟩
end Go.Proofs.Ytakpkedioehjbaa
