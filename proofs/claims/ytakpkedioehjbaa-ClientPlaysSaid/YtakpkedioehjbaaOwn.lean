/-
  THE WALKS of a client's Waits and own.
-/
import Derived.Test.YtakpkedioehjbaaEq
namespace Go.Proofs.Ytakpkedioehjbaa
open Go.RowKit Go.Maps

theorem size_cmd (c : Cmd) : (Try.prog.info? 36).map (·.size) = some c.cells.size := by
  rw [show c.cells.size = 7 from rfl]
  kernel_rfl
theorem one_cmd (c : Cmd) : c.cells.all (·.oneCell') = true := by
  simp [Cmd.cells, Value.oneCell']
def Cmd.In (w : World) (b : Nat) (c : Cmd) : Prop := w.heap[b]? = some (.cells c.cells 36 (0, 0))
theorem ret_cmd {w : World} {a : Act} {fn : Func} {R : Ending → World → Prop} {p q : Tmp} (c : Cmd) (B : Nat) (hr : fn.results = #[.cell p 36, .tmp q]) (hp : a.tmps.getD p undef = .pointer (some ⟨B, 0, none⟩))
    (hB : Cmd.In w B c) (hd : a.defers = []) (h : R (.returned (.tuple #[.agg c.cells, a.tmps.getD q undef])) w) : bodyPost Try.prog fn R .ret a w :=
  bodyPost_ret (results_cell_tmp hr _ w B 36 _ (0, 0) _ hp hB Try.underlying36 rfl (size_cmd _)) hd h

set_option maxRecDepth 100000 in
set_option maxHeartbeats 1600000 in
theorem waits_nil (w : World) :
    Calls Try.prog 18 #[.pointer none] w fun r w' => r = .returned (.tuple #[.agg Cmd.zero.cells, .bool false]) ∧ Below w.heap.size w w' := by
  go_enter Try.func18, Try.ntmps18
  go_wp2_with (first | (refine wpList_store_row (P := Try.prog) rfl 36 (.tmp 2) (.tmp 13) rfl w.heap.size Cmd.zero.cells rfl rfl 36 _ (heap_alloc_new w _) (size_cmd _) rfl (one_cmd _) ?_))
  exact ret_cmd Cmd.zero w.heap.size rfl rfl (setRow_heap _ _ _ _ _ _ (heap_alloc_new w _)) rfl ⟨rfl, below_setRow ((Below.refl _ _).alloc (Nat.le_refl _) _) (Nat.le_refl _) _⟩

/-- The command that waits, or none. -/
def St.waiting (s : St) : Cmd := if s.waits then s.x else Cmd.zero
set_option maxRecDepth 100000 in
set_option maxHeartbeats 1600000 in
theorem waits_any (g : Nat) (s : St) (w : World) (hs : St.At w g s) :
    Calls Try.prog 18 #[.pointer (some ⟨g, 0, none⟩)] w fun r w' => r = .returned (.tuple #[.agg s.waiting.cells, .bool s.waits]) ∧ Below w.heap.size w w' := by
  have hlt := st_lt hs
  obtain ⟨id, n, seq, waits, ⟨client, cseq, kind, key, old, new, set⟩, dst⟩ := s
  have c3 : w.cell? ⟨g, 3, none⟩ = some (.bool waits) := st_cell hs 3
  cases waits with
  | false =>
    clear hs
    go_enter Try.func18, Try.ntmps18
    go_wp2_with (first | (refine wpList_store_row (P := Try.prog) rfl 36 (.tmp 2) (.tmp 13) rfl w.heap.size Cmd.zero.cells rfl rfl 36 _ (heap_alloc_new w _) (size_cmd _) rfl (one_cmd _) ?_))
    exact ret_cmd Cmd.zero w.heap.size rfl rfl (setRow_heap _ _ _ _ _ _ (heap_alloc_new w _)) rfl ⟨rfl, below_setRow ((Below.refl _ _).alloc (Nat.le_refl _) _) (Nat.le_refl _) _⟩
  | true =>
    have c4 : w.cell? ⟨g, 4, none⟩ = some (.int .u8 client) := st_cell hs 4
    have c5 : w.cell? ⟨g, 5, none⟩ = some (.int .u32 cseq) := st_cell hs 5
    have c6 : w.cell? ⟨g, 6, none⟩ = some (.int .u8 kind) := st_cell hs 6
    have c7 : w.cell? ⟨g, 7, none⟩ = some (.string key) := st_cell hs 7
    have c8 : w.cell? ⟨g, 8, none⟩ = some (.string old) := st_cell hs 8
    have c9 : w.cell? ⟨g, 9, none⟩ = some (.string new) := st_cell hs 9
    have c10 : w.cell? ⟨g, 10, none⟩ = some (.int .u8 set) := st_cell hs 10
    clear hs
    go_enter Try.func18, Try.ntmps18
    go_wp2_with (first | (refine wpList_store_row (P := Try.prog) rfl 36 (.tmp 2) (.tmp 17) rfl w.heap.size (Cmd.cells ⟨client, cseq, kind, key, old, new, set⟩) rfl rfl 36 _ (heap_alloc_new w _) (size_cmd _) rfl (one_cmd _) ?_))
    exact ret_cmd ⟨client, cseq, kind, key, old, new, set⟩ w.heap.size rfl rfl (setRow_heap _ _ _ _ _ _ (heap_alloc_new w _)) rfl ⟨rfl, below_setRow ((Below.refl _ _).alloc (Nat.le_refl _) _) (Nat.le_refl _) _⟩

theorem drawn {B : Nat} {a w : World} (h : Below B a w) (n : Nat) : Below B a (w.drewN n) := ⟨h.os, h.tape, h.output, h.size, h.block⟩

theorem ret_bool {a b : Bool} (h : a = b) : Ending.returned (.bool a) = .returned (.bool b) := by rw [h]

/-- Is a letter to it, from a node, of the command that waits? -/
def St.own (s : St) (l : Letter) : Bool := s.waits && (l.dst == 16 + s.id) && decide (l.src < s.n) && (l.cmd.client == s.id && l.cmd.seq == s.seq)

set_option maxRecDepth 100000 in
set_option maxHeartbeats 1600000 in
theorem own_any (g : Nat) (s : St) (l : Letter) (w : World) (hs : St.At w g s) (hok : s.Ok) (hl0 : 0 ≤ l.src) (hl1 : l.src < 256) :
    Calls Try.prog 29 #[.pointer (some ⟨g, 0, none⟩), .agg l.cells] w fun r w' => r = .returned (.bool (s.own l)) ∧ Below w.heap.size w w' := by
  have hlt := st_lt hs
  obtain ⟨id, n, seq, waits, ⟨client, cseq, kind, key, old, new, set⟩, dst⟩ := s
  have hid0 : 0 ≤ id := hok.id0
  have hid1 : id < 4 := hok.id1
  have c0 : w.cell? ⟨g, 0, none⟩ = some (.int .u8 id) := st_cell hs 0
  have c1 : w.cell? ⟨g, 1, none⟩ = some (.int .i64 n) := st_cell hs 1
  have c2 : w.cell? ⟨g, 2, none⟩ = some (.int .u32 seq) := st_cell hs 2
  have c3 : w.cell? ⟨g, 3, none⟩ = some (.bool waits) := st_cell hs 3
  clear hs hok
  obtain ⟨lsrc, ldst, lkind, lbn, lbr, lbase, lslot, lnode, lvalue, lvotes, litems, ⟨lclient, lseq, lckind, lkey, lold, lnew, lset⟩, lcode, ltext⟩ := l
  have hsum := u8_add id hid0 hid1
  have hl2 : 0 ≤ lsrc := hl0
  have hl3 : lsrc < 256 := hl1
  have hconv : IntKind.i64.wrap lsrc = lsrc := by rw [IntKind.wrap_i64]; omega
  clear hl0 hl1
  simp only [Letter.cells]
  go_enter Try.func29, Try.ntmps29
  go_upto_region 2 with fail
  refine code_from (fun wc => wc.heap[w.heap.size + 1]? = some (.cells #[.int .u8 lclient, .int .u32 lseq, .int .u8 0, .string ⟨#[]⟩, .string ⟨#[]⟩, .string ⟨#[]⟩, .int .u8 0] 36 (0, 0)) ∧
    wc.heap[w.heap.size]? = some (.cells (Letter.cells ⟨lsrc, ldst, lkind, lbn, lbr, lbase, lslot, lnode, lvalue, lvotes, litems, ⟨lclient, lseq, lckind, lkey, lold, lnew, lset⟩, lcode, ltext⟩) 47 (0, 0)) ∧ Below w.heap.size w wc)
    ⟨heap_alloc2_new w _ _, heap_alloc2_old w _ _, ((Below.refl _ _).alloc (Nat.le_refl _) _).alloc (by simp) _⟩ ?_
  rintro wc ⟨hN, hL, hbel⟩
  have e0 := (hbel.cell (p := ⟨g, 0, none⟩) hlt).trans c0
  have e1 := (hbel.cell (p := ⟨g, 1, none⟩) hlt).trans c1
  have e2 := (hbel.cell (p := ⟨g, 2, none⟩) hlt).trans c2
  have e3 := (hbel.cell (p := ⟨g, 3, none⟩) hlt).trans c3
  have l0 : wc.cell? ⟨w.heap.size, 0, none⟩ = some (.int .u8 lsrc) := cell_of_row wc _ 0 _ _ _ hL
  have l1 : wc.cell? ⟨w.heap.size, 1, none⟩ = some (.int .u8 ldst) := cell_of_row wc _ 1 _ _ _ hL
  have n0 : wc.cell? ⟨w.heap.size + 1, 0, none⟩ = some (.int .u8 lclient) := cell_of_row wc _ 0 _ _ _ hN
  have n1 : wc.cell? ⟨w.heap.size + 1, 1, none⟩ = some (.int .u32 lseq) := cell_of_row wc _ 1 _ _ _ hN
  have n2 : wc.cell? ⟨w.heap.size + 1, 2, none⟩ = some (.int .u8 0) := cell_of_row wc _ 2 _ _ _ hN
  have n3 : wc.cell? ⟨w.heap.size + 1, 3, none⟩ = some (.string ⟨#[]⟩) := cell_of_row wc _ 3 _ _ _ hN
  have n4 : wc.cell? ⟨w.heap.size + 1, 4, none⟩ = some (.string ⟨#[]⟩) := cell_of_row wc _ 4 _ _ _ hN
  have n5 : wc.cell? ⟨w.heap.size + 1, 5, none⟩ = some (.string ⟨#[]⟩) := cell_of_row wc _ 5 _ _ _ hN
  have n6 : wc.cell? ⟨w.heap.size + 1, 6, none⟩ = some (.int .u8 0) := cell_of_row wc _ 6 _ _ _ hN
  clear hN hL c0 c1 c2 c3 hlt
  cases waits with
  | false =>
    go_quiet (fail)
    go_wp2_with fail
    go_ret
    exact ⟨by simp [St.own], drawn hbel _⟩
  | true =>
    by_cases h1 : ldst = 16 + id
    · have t1 : (ldst == 16 + id) = true := by simp [h1]
      have H1 := Lib.hid h1
      clear h1
      by_cases h2 : lsrc < n
      · have hg := guard_cmd
        have he := eq_names lclient lseq id seq
        go_quiet (fail)
        go_wp2_with fail
        go_ret
        exact ⟨by simp [St.own, H1.out, h2], drawn hbel _⟩
      · go_quiet (fail)
        go_wp2_with fail
        go_ret
        exact ⟨ret_bool (by simp [St.own]; omega), drawn hbel _⟩
    · have t1 : (ldst == 16 + id) = false := by simp [h1]
      clear h1
      go_quiet (fail)
      go_wp2_with fail
      go_ret
      exact ⟨by simp [St.own, t1], drawn hbel _⟩
end Go.Proofs.Ytakpkedioehjbaa
