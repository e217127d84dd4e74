/-
  THE REFERENCE CLIENT, by value; the walks of its May, New, Last, asks.
-/
import Derived.Test.YtakpkedioehjbaaTakes
import Derived.Deep.RegionHeld3
namespace Go.Proofs.Ytakpkedioehjbaa
open Go.RowKit Go.Maps Go.BigFrame

/-- The reference client: its list's length stands for the number of the last command. -/
abbrev rcells (s : St) (ad : Option Addr) (n cap : Nat) : Array Value := #[.int .u8 s.id, .int .i64 s.n, .slice ad n cap, .bool s.waits, .int .u8 s.dst]
theorem size_ref (s : St) (ad : Option Addr) (n cap : Nat) : (Try.prog.info? 32).map (·.size) = some (rcells s ad n cap).size := by
  rw [show (rcells s ad n cap).size = 5 from rfl]
  kernel_rfl
theorem one_ref (s : St) (ad : Option Addr) (n cap : Nat) : (rcells s ad n cap).all (·.oneCell') = true := by simp [rcells, Value.oneCell']
def RefIn (w : World) (b : Nat) (s : St) (ad : Option Addr) (n cap : Nat) : Prop := w.heap[b]? = some (.cells (rcells s ad n cap) 32 (0, 0))
theorem ref_reads {w : World} {b : Nat} {s : St} {ad : Option Addr} {n cap : Nat} (h : RefIn w b s ad n cap) : w.cell? ⟨b, 0, none⟩ = some (.int .u8 s.id) ∧ w.cell? ⟨b, 1, none⟩ = some (.int .i64 s.n) ∧ w.cell? ⟨b, 2, none⟩ = some (.slice ad n cap) ∧
    w.cell? ⟨b, 3, none⟩ = some (.bool s.waits) ∧ w.cell? ⟨b, 4, none⟩ = some (.int .u8 s.dst) :=
  ⟨cell_of_row w b 0 _ _ _ h, cell_of_row w b 1 _ _ _ h, cell_of_row w b 2 _ _ _ h, cell_of_row w b 3 _ _ _ h, cell_of_row w b 4 _ _ _ h⟩
/-- A slice's elements, where they lie. -/
def LiesC (w : World) (ad : Option Addr) (l : List Cmd) : Prop := ∀ (i : Nat) (x : Cmd), l[i]? = some x → ∃ g, ad = some ⟨g, 0, none⟩ ∧ ∀ (j : Nat) (v : Value), x.cells[j]? = some v → w.cell? ⟨g, i * 7 + j, none⟩ = some v
theorem LiesC.below {w w' : World} {ad : Option Addr} {l : List Cmd} (h : LiesC w ad l) (hb : Below w.heap.size w w') : LiesC w' ad l := fun i x hx => by
  obtain ⟨g, e, hc⟩ := h i x hx
  exact ⟨g, e, fun j v hv => (hb.cell (World.block_lt_of_cell? w _ (hc j v hv))).trans (hc j v hv)⟩
/-- The command invoked last. -/
def lastC (l : List Cmd) : Cmd := l.getLast?.getD Cmd.zero

set_option maxRecDepth 100000 in
set_option maxHeartbeats 800000 in
theorem refMay_any (id n : Int) (w : World) : Calls Try.prog 10 #[.int .u8 id, .int .i64 n] w fun r w' => r = .returned (.bool (decide (id < 4 ∧ 1 ≤ n ∧ n ≤ 7))) ∧ w = w' := by
  by_cases h1 : id < 4
  · by_cases h2 : 0 < n
    · by_cases h3 : n < 8
      · go_enter Try.func10, Try.ntmps10
        go_wp2_with fail
        go_ret
        exact ⟨ret_bool (by simp; omega), rfl⟩
      · go_enter Try.func10, Try.ntmps10
        go_wp2_with fail
        go_ret
        exact ⟨ret_bool (by simp; omega), rfl⟩
    · go_enter Try.func10, Try.ntmps10
      go_wp2_with fail
      go_ret
      exact ⟨ret_bool (by simp; omega), rfl⟩
  · go_enter Try.func10, Try.ntmps10
    go_wp2_with fail
    go_ret
    exact ⟨ret_bool (by simp; omega), rfl⟩

set_option maxRecDepth 100000 in
set_option maxHeartbeats 800000 in
theorem refNew_any (id n : Int) (w : World) (h0 : 0 ≤ id) (h1 : id < 4) (h2 : 1 ≤ n) (h3 : n ≤ 7) :
    Calls Try.prog 11 #[.int .u8 id, .int .i64 n] w fun r w' => r = .returned (.agg (rcells (St.new id n) none 0 0)) ∧ Below w.heap.size w w' := by
  have hu : IntKind.u8.wrap n = n := by rw [IntKind.wrap_u8']; omega
  have hz : ¬ n = 0 := by omega
  have hm0 := Int.emod_nonneg id hz
  have hm := Int.emod_lt_of_pos id (show 0 < n by omega)
  have ht : id.tmod n = id % n := Int.tmod_eq_emod_of_nonneg h0
  have hw : IntKind.u8.wrap (id % n) = id % n := by rw [IntKind.wrap_u8']; omega
  go_enter Try.func11, Try.ntmps11
  go_wp2_with (first | (refine wpList_store_row (P := Try.prog) rfl 32 (.tmp 4) (.tmp 11) rfl w.heap.size (rcells (St.new id n) none 0 0) rfl (by simp [rcells, St.new, go_sem, hu, ht, hw]; done) 32 _ (heap_alloc_new w _) (size_ref _ _ _ _) rfl (one_ref _ _ _ _) ?_))
  exact bodyPost_ret (results_cell_row rfl _ _ w.heap.size 32 _ (0, 0) _ rfl (setRow_heap _ _ _ _ _ _ (heap_alloc_new w _)) Try.underlying32 rfl (size_ref _ _ _ _)) rfl ⟨rfl, below_setRow ((Below.refl _ _).alloc (Nat.le_refl _) _) (Nat.le_refl _) _⟩

theorem lastC_nil : lastC [] = Cmd.zero := rfl
theorem lastC_at {l : List Cmd} {x : Cmd} (h : l[l.length - 1]? = some x) : lastC l = x := by
  unfold lastC
  rw [List.getLast?_eq_getElem?, h]
  rfl

set_option maxRecDepth 100000 in
set_option maxHeartbeats 800000 in
theorem refLast_any (s : St) (ad : Option Addr) (cap : Nat) (l : List Cmd) (w : World) (hl : LiesC w ad l) (hn : l.length ≤ 1000) :
    Calls Try.prog 20 #[.agg (rcells s ad l.length cap)] w fun r w' => r = .returned (.agg (lastC l).cells) ∧ Below w.heap.size w w' := by
  go_enter Try.func20, Try.ntmps20
  go_upto_region 1 with fail
  refine code_from (fun wd => RefIn wd w.heap.size s ad l.length cap ∧ Cmd.In wd (w.heap.size + 1) Cmd.zero ∧ Below w.heap.size w wd) ⟨heap_alloc2_old w _ _, heap_alloc2_new w _ _, below_two w _ _⟩ ?_
  rintro wd ⟨hr, ho, hb⟩
  have hld := hl.below hb
  obtain ⟨_, _, c2, _, _⟩ := ref_reads hr
  have HO := Lib.hid ho
  have HB := Lib.hid hb
  clear hl hr ho hb
  by_cases h0 : 0 < l.length
  · have hx : l[l.length - 1]? = some l[l.length - 1] := List.getElem?_eq_getElem (by omega)
    have hlast := lastC_at hx
    generalize l[l.length - 1] = x at hx hlast
    obtain ⟨g, rfl, hc⟩ := hld (l.length - 1) x hx
    have Hlast := Lib.hid hlast
    clear hx hlast hld
    generalize hnn : l.length = n at *
    clear hnn
    have y0 := hc 0 _ rfl
    have y1 := hc 1 _ rfl
    have y2 := hc 2 _ rfl
    have y3 := hc 3 _ rfl
    have y4 := hc 4 _ rfl
    have y5 := hc 5 _ rfl
    have y6 := hc 6 _ rfl
    simp only [Nat.add_zero] at y0
    clear hc
    go_wp2_with (first | (refine wpList_store_row (P := Try.prog) rfl 36 (.tmp 2) (.tmp 15) rfl (w.heap.size + 1) x.cells rfl rfl 36 _ HO.out (size_cmd _) rfl (one_cmd _) ?_))
    rw [Hlast.out]
    exact bodyPost_ret (results_cell_row rfl _ _ (w.heap.size + 1) 36 _ (0, 0) _ rfl (setRow_heap _ _ _ _ _ _ HO.out) Try.underlying36 rfl (size_cmd _)) rfl ⟨rfl, below_setRow HB.out (by omega) _⟩
  · have hl0 : l = [] := List.length_eq_zero_iff.1 (by omega)
    subst hl0
    go_wp2_with (first | (refine wpList_store_row (P := Try.prog) rfl 36 (.tmp 2) (.tmp 7) rfl (w.heap.size + 1) Cmd.zero.cells rfl rfl 36 _ HO.out (size_cmd _) rfl (one_cmd _) ?_))
    exact bodyPost_ret (results_cell_row rfl _ _ (w.heap.size + 1) 36 _ (0, 0) _ rfl (setRow_heap _ _ _ _ _ _ HO.out) Try.underlying36 rfl (size_cmd _)) rfl ⟨rfl, below_setRow HB.out (by omega) _⟩
end Go.Proofs.Ytakpkedioehjbaa
