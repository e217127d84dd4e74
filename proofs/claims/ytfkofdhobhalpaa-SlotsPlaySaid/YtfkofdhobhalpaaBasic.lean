/-
  THE WALKS of a row's New, Top, Base, Get, Next.
-/
import Derived.Test.YtfkofdhobhalpaaRow
import Derived.BigRegion
import Derived.Laws.CopyOwn
import Derived.Deep.QuietTactic
import Derived.BigQuiet
import Derived.Deep.WholeRow
import Derived.Deep.DeepCutAuto
import Derived.Deep.CutBlock
import Derived.Deep.LoopGhost
namespace Go.Proofs.Ytfkofdhobhalpaa
open Go.RowKit Go.Maps

set_option maxRecDepth 100000 in
set_option maxHeartbeats 800000 in
theorem new_no (b : Int) (w : World) (h : 4611686018427387904 < b) : Calls Try.prog 9 #[.int .u64 b] w fun r w' => r = .returned (.tuple #[.pointer none, .int .i64 2]) ∧ w = w' := by
  go_enter Try.func9, Try.ntmps9
  go_wp2_with fail
  go_ret2
  exact ⟨rfl, rfl⟩
set_option maxRecDepth 100000 in
set_option maxHeartbeats 800000 in
theorem new_yes (b : Int) (w : World) (h : b ≤ 4611686018427387904) : Calls Try.prog 9 #[.int .u64 b] w fun r w' =>
    r = .returned (.tuple #[.pointer (some ⟨w.heap.size + 1, 0, none⟩), .int .i64 0]) ∧ RowAt w' (w.heap.size + 1) w.heap.size b b 0 Vals.none ∧ Below w.heap.size w w' := by
  have hmm := @run_makeMap Try.prog
  have o0 := World.ownsMap_made w Try.prog 29 (plainElem (H := Unit) Try.prog 9)
  have o1 := o0.alloc (.cells #[.int .u64 b, .int .u64 b, .map (some w.heap.size)] 57 (0, 0))
  have hrow : RowAt ((w.alloc (.map #[] 0)).alloc (.cells #[.int .u64 b, .int .u64 b, .map (some w.heap.size)] 57 (0, 0))) (w.heap.size + 1) w.heap.size b b 0 Vals.none :=
    ⟨heap_alloc2_new w _ _, ⟨_, o1, holds_none⟩, by omega⟩
  have Hrow := Lib.hid hrow
  clear o0 o1 hrow
  go_enter Try.func9, Try.ntmps9
  go_wp2_with fail
  go_ret2
  exact ⟨rfl, Hrow.out, ((Below.refl _ _).alloc (Nat.le_refl _) _).alloc (by simp) _⟩

section
variable {w : World} {g m : Nat} {base top : Int} {n : Nat} {M : Vals}
theorem RowAt.cell0 (h : RowAt w g m base top n M) : w.cell? ⟨g, 0, none⟩ = some (.int .u64 base) := cell_of_row w g 0 _ _ _ h.row
theorem RowAt.cell1 (h : RowAt w g m base top n M) : w.cell? ⟨g, 1, none⟩ = some (.int .u64 top) := cell_of_row w g 1 _ _ _ h.row
theorem RowAt.cell2 (h : RowAt w g m base top n M) : w.cell? ⟨g, 2, none⟩ = some (.map (some m)) := cell_of_row w g 2 _ _ _ h.row
theorem RowAt.free (h : RowAt w g m base top n M) (i : Nat) : w.frozen? ⟨g, i, none⟩ = false := frozen_of_row w g i _ _ h.row

set_option maxRecDepth 100000 in
set_option maxHeartbeats 800000 in
theorem top_any (h : RowAt w g m base top n M) : Calls Try.prog 14 #[.pointer (some ⟨g, 0, none⟩)] w fun r w' => r = .returned (.int .u64 top) ∧ w = w' := by
  have c1 := h.cell1
  clear h
  go_enter Try.func14, Try.ntmps14
  go_wp2_with fail
  go_ret
  exact ⟨rfl, rfl⟩
set_option maxRecDepth 100000 in
set_option maxHeartbeats 800000 in
theorem base_any (h : RowAt w g m base top n M) : Calls Try.prog 15 #[.pointer (some ⟨g, 0, none⟩)] w fun r w' => r = .returned (.int .u64 base) ∧ w = w' := by
  have c1 := h.cell0
  clear h
  go_enter Try.func15, Try.ntmps15
  go_wp2_with fail
  go_ret
  exact ⟨rfl, rfl⟩
set_option maxRecDepth 100000 in
set_option maxHeartbeats 800000 in
theorem get_any (h : RowAt w g m base top n M) (k : Int) (hk : U k) : Calls Try.prog 21 #[.pointer (some ⟨g, 0, none⟩), .int .u64 k] w fun r w' =>
    r = .returned (.tuple #[.string ((M k).getD ByteArray.empty), .bool (M k).isSome]) ∧ w = w' := by
  have c2 := h.cell2
  have hl := h.look hk
  clear h
  generalize (M k).getD ByteArray.empty = v at *
  generalize (M k).isSome = b at *
  go_enter Try.func21, Try.ntmps21
  go_wp2_with fail
  go_ret2
  exact ⟨rfl, rfl⟩
end

set_option maxRecDepth 100000 in
set_option maxHeartbeats 800000 in
theorem top_nil (w : World) : Calls Try.prog 14 #[.pointer none] w fun r w' => r = .returned (.int .u64 0) ∧ w = w' := by
  go_enter Try.func14, Try.ntmps14
  go_wp2_with fail
  go_ret
  exact ⟨rfl, rfl⟩
set_option maxRecDepth 100000 in
set_option maxHeartbeats 800000 in
theorem base_nil (w : World) : Calls Try.prog 15 #[.pointer none] w fun r w' => r = .returned (.int .u64 0) ∧ w = w' := by
  go_enter Try.func15, Try.ntmps15
  go_wp2_with fail
  go_ret
  exact ⟨rfl, rfl⟩
set_option maxRecDepth 100000 in
set_option maxHeartbeats 800000 in
theorem get_nil (k : Int) (w : World) : Calls Try.prog 21 #[.pointer none, .int .u64 k] w fun r w' => r = .returned (.tuple #[.string ByteArray.empty, .bool false]) ∧ w = w' := by
  go_enter Try.func21, Try.ntmps21
  go_wp2_with fail
  go_ret2
  exact ⟨rfl, rfl⟩

/-- An item's cells. -/
def item (k : Int) (v : ByteArray) : Array Value := #[.int .u64 k, .string v]
theorem size_item (k : Int) (v : ByteArray) : (Try.prog.info? 33).map (·.size) = some (item k v).size := by
  rw [show (item k v).size = 2 from rfl]
  kernel_rfl
theorem one_item (k : Int) (v : ByteArray) : (item k v).all (·.oneCell') = true := by simp [item, Value.oneCell']
/-- Results: a struct in memory, and a slot. -/
theorem results_cell_tmp {P : Program} {fn : Func} {p q : Tmp} {ty : TypeId} (h : fn.results = #[.cell p ty, .tmp q]) (tmps : Array Value) (w : World) (g : Nat) (t : TypeId) (cs : Array Value) (fr : Nat × Nat) (d : TypeDesc)
    (hp : tmps.getD p undef = .pointer (some ⟨g, 0, none⟩)) (hg : w.heap[g]? = some (.cells cs t fr))
    (hu : P.underlying ty = some d) (hd : (match d with | .struct _ | .array _ _ => true | _ => false) = true) (hi : (P.info? ty).map (·.size) = some cs.size) :
    (results fn tmps).run P w = .ok (.tuple #[.agg cs, tmps.getD q undef]) w := by
  have hp' : tmps[p]?.getD undef = .pointer (some ⟨g, 0, none⟩) := by simpa using hp
  simp [results, h, hp', asAddr, run_loadVar_row w g t ty cs fr d hg hu hd hi]
def ItemIn (w : World) (b : Nat) (k : Int) (v : ByteArray) : Prop := w.heap[b]? = some (.cells (item k v) 33 (0, 0))
theorem ret_item {w : World} {a : Act} {fn : Func} {R : Ending → World → Prop} {p q : Tmp} (k : Int) (v : ByteArray) (B : Nat) (hr : fn.results = #[.cell p 33, .tmp q]) (hp : a.tmps.getD p undef = .pointer (some ⟨B, 0, none⟩))
    (hB : ItemIn w B k v) (hd : a.defers = []) (h : R (.returned (.tuple #[.agg (item k v), a.tmps.getD q undef])) w) : bodyPost Try.prog fn R .ret a w :=
  bodyPost_ret (results_cell_tmp hr _ w B 33 _ (0, 0) _ hp hB Try.underlying33 rfl (size_item _ _)) hd h

set_option maxRecDepth 100000 in
set_option maxHeartbeats 800000 in
theorem next_nil (w : World) : Calls Try.prog 10 #[.pointer none] w fun r w' => r = .returned (.tuple #[.agg (item 0 ByteArray.empty), .bool false]) ∧ Below w.heap.size w w' := by
  go_enter Try.func10, Try.ntmps10
  go_wp2_with (first | (refine wpList_store_row (P := Try.prog) rfl 33 (.tmp 2) (.tmp 8) rfl w.heap.size (item 0 ByteArray.empty) rfl rfl 33 _ (heap_alloc_new w _) (size_item _ _) rfl (one_item _ _) ?_))
  exact ret_item 0 ByteArray.empty w.heap.size rfl rfl (setRow_heap _ _ _ _ _ _ (heap_alloc_new w _)) rfl ⟨rfl, below_setRow ((Below.refl _ _).alloc (Nat.le_refl _) _) (Nat.le_refl _) _⟩

theorem RowAt.row2 {w : World} {g m : Nat} {base top : Int} {n : Nat} {M : Vals} (h : RowAt w g m base top n M) {B : Nat} (hB : w.heap.size ≤ B) (cs : Array Value) : RowAt (w.setRow B cs) g m base top n M :=
  h.same (setRow_other w B g cs (by have := h.lt; omega)) (setRow_other w B m cs (by have := h.mlt; omega))

theorem RowAt.setRow {w : World} {g m : Nat} {base top : Int} {n : Nat} {M : Vals} (h : RowAt w g m base top n M) {B : Nat} (hg : g ≠ B) (hm : m ≠ B) (cs : Array Value) : RowAt (w.setRow B cs) g m base top n M :=
  h.same (setRow_other w B g cs hg) (setRow_other w B m cs hm)
theorem only_setRow {a w : World} {g m B : Nat} (h : Only a w g m) (hB : a.heap.size ≤ B) (cs : Array Value) : Only a (w.setRow B cs) g m :=
  ⟨h.os, h.tape, h.output, by simpa using h.size, fun k hk h1 h2 => (setRow_other w B k cs (by omega)).trans (h.block k hk h1 h2)⟩
theorem only_alloc {a w : World} {g m : Nat} (h : Only a w g m) (o : Obj) : Only a (w.alloc o) g m :=
  ⟨h.os, h.tape, h.output, Nat.le_trans h.size (by simp), fun k hk h1 h2 => (Below.heap_alloc w o k (Nat.lt_of_lt_of_le hk h.size)).trans (h.block k hk h1 h2)⟩

/-- What Next answers and leaves. -/
def NextGoes (g m : Nat) (base top : Int) (n : Nat) (M : Vals) (w : World) (r : Ending) (w' : World) : Prop :=
  (M (top + 1) = none → r = .returned (.tuple #[.agg (item 0 ByteArray.empty), .bool false]) ∧ RowAt w' g m base top n M) ∧
  (∀ v, M (top + 1) = some v → r = .returned (.tuple #[.agg (item (top + 1) v), .bool true]) ∧ RowAt w' g m base (top + 1) n M) ∧ Only w w' g m

theorem code_from {P : Program} {c : Code} {Q : Exit → Act → World → Prop} {a : Act} {W : World} (R : World → Prop) (hR : R W) (h : ∀ w, R w → Code.wp P c Q a w) : Code.wp P c Q a W := h W hR

set_option maxRecDepth 100000 in
set_option maxHeartbeats 1600000 in
theorem next_any (g m : Nat) (base top : Int) (n : Nat) (M : Vals) (w : World) (h : RowAt w g m base top n M) (h0 : 0 ≤ top) (h1 : top ≤ 4611686018427387904) :
    Calls Try.prog 10 #[.pointer (some ⟨g, 0, none⟩)] w (NextGoes g m base top n M w) := by
  have hk : U (top + 1) := u_iff.2 ⟨by omega, by omega⟩
  have hlt := h.lt
  have hmt := h.mlt
  go_enter Try.func10, Try.ntmps10
  go_upto_region 3 with fail
  refine code_from (fun wc => ItemIn wc w.heap.size 0 ByteArray.empty ∧ RowAt wc g m base top n M ∧ Only w wc g m) ⟨heap_alloc_new w _, h.alloc _, only_alloc (Only.refl _ _ _) _⟩ ?_
  rintro wc ⟨hI, hr, ho⟩
  have c1 := hr.cell1
  have c2 := hr.cell2
  have hl := fun k => (hr.drew k).look hk
  clear h hk
  cases hM : M (top + 1) with
  | none =>
    rw [hM] at hl
    simp only [Option.getD_none, Option.isSome_none] at hl
    have HM := Lib.hid hM
    clear hM
    go_quiet (fail)
    go_wp2_with (first | (refine wpList_store_row (P := Try.prog) rfl 33 (.tmp 2) (.tmp 24) rfl w.heap.size (item 0 ByteArray.empty) rfl rfl 33 _ hI (size_item _ _) rfl (one_item _ _) ?_))
    refine ret_item 0 ByteArray.empty w.heap.size rfl rfl (setRow_heap _ _ _ _ _ _ hI) rfl ⟨fun _ => ⟨rfl, (hr.drew _).setRow (by omega) (by omega) _⟩, fun v hv => ?_, only_setRow (only_drewN ho _) (Nat.le_refl _) _⟩
    rw [HM.out] at hv; cases hv
  | some v =>
    rw [hM] at hl
    simp only [Option.getD_some, Option.isSome_some] at hl
    have HM := Lib.hid hM
    clear hM
    have fr := hr.free 1
    go_quiet (fail)
    go_upto_region 7 with fail
    refine code_from (fun wd => ItemIn wd w.heap.size 0 ByteArray.empty ∧ RowAt wd g m base (top + 1) n M ∧ Only w wd g m)
      ⟨(Below.heap_setCell (wc.drewN nq) ⟨g, 1, none⟩ _ _ (by show w.heap.size ≠ g; omega)).trans hI, (hr.drew nq).setTop (top + 1), only_set (only_drewN ho nq) _⟩ ?_
    clear hI hr ho c1 c2 hl fr wc
    rintro wc ⟨hI, hr, ho⟩
    have c1 := hr.cell1
    go_wp2_with (first | (refine wpList_store_row (P := Try.prog) rfl 33 (.tmp 2) (.tmp 37) rfl w.heap.size (item (top + 1) v) rfl rfl 33 _ hI (size_item _ _) rfl (one_item _ _) ?_))
    refine ret_item (top + 1) v w.heap.size rfl rfl (setRow_heap _ _ _ _ _ _ hI) rfl ⟨fun hn => ?_, fun v' hv => ?_, only_setRow ho (Nat.le_refl _) _⟩
    · rw [HM.out] at hn; cases hn
    · rw [HM.out] at hv; cases hv
      exact ⟨rfl, hr.setRow (by omega) (by omega) _⟩
end Go.Proofs.Ytfkofdhobhalpaa
