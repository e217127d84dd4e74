/-
  THE WALKS of a client's New, sends, Waits, Nudge.
-/
import Derived.Test.YtakpkedioehjbaaAsks
import Derived.Deep.WholeRow
namespace Go.Proofs.Ytakpkedioehjbaa
open Go.RowKit Go.Maps

/-- Results: a struct in memory, and a slot. -/
theorem results_cell_tmp {P : Program} {fn : Func} {p q : Tmp} {ty : TypeId} (h : fn.results = #[.cell p ty, .tmp q]) (tmps : Array Value) (w : World) (g : Nat) (t : TypeId) (cs : Array Value) (fr : Nat × Nat) (d : TypeDesc)
    (hp : tmps.getD p undef = .pointer (some ⟨g, 0, none⟩)) (hg : w.heap[g]? = some (.cells cs t fr))
    (hu : P.underlying ty = some d) (hd : (match d with | .struct _ | .array _ _ => true | _ => false) = true) (hi : (P.info? ty).map (·.size) = some cs.size) :
    (results fn tmps).run P w = .ok (.tuple #[.agg cs, tmps.getD q undef]) w := by
  have hp' : tmps[p]?.getD undef = .pointer (some ⟨g, 0, none⟩) := by simpa using hp
  simp [results, h, hp', asAddr, run_loadVar_row w g t ty cs fr d hg hu hd hi]

theorem ret_letter {w : World} {a : Act} {fn : Func} {R : Ending → World → Prop} {p q : Tmp} (l : Letter) (B : Nat) (hr : fn.results = #[.cell p 47, .tmp q]) (hp : a.tmps.getD p undef = .pointer (some ⟨B, 0, none⟩))
    (hB : Letter.In w B l) (hd : a.defers = []) (h : R (.returned (.tuple #[.agg l.cells, a.tmps.getD q undef])) w) : bodyPost Try.prog fn R .ret a w :=
  bodyPost_ret (results_cell_tmp hr _ w B 47 _ (0, 0) _ hp hB Try.underlying47 rfl (size_letter _)) hd h

set_option maxRecDepth 100000 in
set_option maxHeartbeats 1600000 in
theorem sends_no (e : Int) (f : Value) (w : World) (he : (e != 0) = true) :
    Calls Try.prog 25 #[.int .i64 e, f] w fun r w' => r = .returned (.tuple #[.agg Letter.zero.cells, .int .i64 e]) ∧ Below w.heap.size w w' := by
  go_enter Try.func25, Try.ntmps25
  go_wp2_with (first | (refine wpList_store_row (P := Try.prog) rfl 47 (.tmp 4) (.tmp 8) rfl w.heap.size Letter.zero.cells rfl rfl 47 _ (heap_alloc_new w _) (size_letter _) rfl (one_letter _ rfl rfl) ?_))
  exact ret_letter Letter.zero w.heap.size rfl rfl (setRow_heap _ _ _ _ _ _ (heap_alloc_new w _)) rfl ⟨rfl, below_setRow ((Below.refl _ _).alloc (Nat.le_refl _) _) (Nat.le_refl _) _⟩

theorem st_alloc {w : World} {g : Nat} {s : St} (h : St.At w g s) (o : Obj) : St.At (w.alloc o) g s := (Below.heap_alloc w o g (st_lt h)).trans h
theorem st_below {w w' : World} {B g : Nat} {s : St} (h : St.At w g s) (hb : Below B w w') (hg : g < B) : St.At w' g s := (hb.block g hg).trans h
/-- What a call leaves of a block that its caller has just made, and of all that was there. -/
theorem below_new {w w1 : World} {o : Obj} (hb : Below (w.alloc o).heap.size (w.alloc o) w1) : w1.heap[w.heap.size]? = some o ∧ Below w.heap.size w w1 := by
  refine ⟨(hb.block _ (by simp)).trans (heap_alloc_new w o), ((Below.refl _ _).alloc (Nat.le_refl _) o).trans (hb.mono (by simp))⟩

set_option maxRecDepth 100000 in
set_option maxHeartbeats 1600000 in
theorem sends_yes (g : Nat) (s : St) (w : World) (hs : St.At w g s) (hok : s.Ok) :
    Calls Try.prog 25 #[.int .i64 0, .func (.func 26) #[.pointer (some ⟨g, 0, none⟩)] #[]] w fun r w' => r = .returned (.tuple #[.agg s.asks.cells, .int .i64 0]) ∧ Below w.heap.size w w' := by
  have hs' := fun o => st_alloc hs o
  go_enter Try.func25, Try.ntmps25
  go_wp2_with fail
  refine (asks_any g s _ (hs' _) hok).mono ?_
  rintro e w1 ⟨rfl, hb⟩
  obtain ⟨hB, hbel⟩ := below_new hb
  clear hb hs hs' hok
  go_wp2_with (first | (refine wpList_store_row (P := Try.prog) rfl 47 (.tmp 4) (.tmp 11) rfl w.heap.size s.asks.cells rfl rfl 47 _ hB (size_letter _) rfl (one_letter _ rfl rfl) ?_))
  exact ret_letter s.asks w.heap.size rfl rfl (setRow_heap _ _ _ _ _ _ hB) rfl ⟨rfl, below_setRow hbel (Nat.le_refl _) _⟩

/-- May there be such a client? -/
def mayNew (id n : Int) : Bool := decide (id < 4) && (decide (1 ≤ n) && decide (n ≤ 7))
def St.new (id n : Int) : St := ⟨id, n, 0, false, Cmd.zero, id % n⟩
set_option maxRecDepth 100000 in
set_option maxHeartbeats 1600000 in
theorem new_no (id n : Int) (w : World) (h : ¬ (id < 4 ∧ 1 ≤ n ∧ n ≤ 7)) :
    Calls Try.prog 9 #[.int .u8 id, .int .i64 n] w fun r w' => r = .returned (.tuple #[.pointer none, .int .i64 2]) ∧ w = w' := by
  by_cases h1 : id < 4
  · by_cases h2 : n < 1
    · clear h
      go_enter Try.func9, Try.ntmps9
      go_wp2
      go_ret2
      exact ⟨rfl, rfl⟩
    · have h3 : 7 < n := by omega
      clear h
      go_enter Try.func9, Try.ntmps9
      go_wp2
      go_ret2
      exact ⟨rfl, rfl⟩
  · clear h
    go_enter Try.func9, Try.ntmps9
    go_wp2
    go_ret2
    exact ⟨rfl, rfl⟩
set_option maxRecDepth 100000 in
set_option maxHeartbeats 1600000 in
theorem new_yes (id n : Int) (w : World) (h0 : 0 ≤ id) (h1 : id < 4) (h2 : 1 ≤ n) (h3 : n ≤ 7) :
    Calls Try.prog 9 #[.int .u8 id, .int .i64 n] w fun r w' => r = .returned (.tuple #[.pointer (some ⟨w.heap.size, 0, none⟩), .int .i64 0]) ∧ St.At w' w.heap.size (St.new id n) ∧ Below w.heap.size w w' := by
  have hm := Int.emod_nonneg id (show n ≠ 0 by omega)
  have hm2 := Int.emod_lt_of_pos id (show 0 < n by omega)
  go_enter Try.func9, Try.ntmps9
  go_wp2
  go_ret2
  exact ⟨rfl, heap_alloc_new w _, (Below.refl _ _).alloc (Nat.le_refl _) _⟩
end Go.Proofs.Ytakpkedioehjbaa
