/-
  THE WALK of the reference row's Next.
-/
import Derived.Test.YtfkofdhobhalpaaRefC
namespace Go.Proofs.Ytfkofdhobhalpaa
open Go.RowKit Go.Maps Go.BigFrame

structure Framed3 (w wd : World) (x y : Int) (ad : Option Addr) (n cap : Nat) : Prop where
  box : RefIn wd w.heap.size x y ad n cap
  cell : RefIn wd (w.heap.size + 1) 0 0 none 0 0
  it : ItemIn wd (w.heap.size + 2) 0 ByteArray.empty
  bel : Below w.heap.size w wd
  size : w.heap.size + 3 ≤ wd.heap.size
theorem framed3 {w : World} (x y : Int) (ad : Option Addr) (n cap : Nat) :
    Framed3 w (((w.alloc (.cells (refCells x y ad n cap) 43 (0, 0))).alloc (.cells (refCells 0 0 none 0 0) 43 (0, 0))).alloc (.cells (item 0 ByteArray.empty) 33 (0, 0))) x y ad n cap :=
  ⟨new3_0 w _ _ _, new3_1 w _ _ _, new3_2 w _ _ _, (((Below.refl _ _).alloc (Nat.le_refl _) _).alloc (by simp) _).alloc (by simp; omega) _, by simp⟩
theorem Framed3.below {w wd wx : World} {x y : Int} {ad : Option Addr} {n cap : Nat} (h : Framed3 w wd x y ad n cap) (hb : Below wd.heap.size wd wx) : Framed3 w wx x y ad n cap :=
  ⟨(hb.block _ (by have := h.size; omega)).trans h.box, (hb.block _ (by have := h.size; omega)).trans h.cell, (hb.block _ (by have := h.size; omega)).trans h.it, h.bel.trans (hb.mono (by have := h.size; omega)), by have := h.size; have := hb.size; omega⟩
theorem item_reads {w : World} {b : Nat} {k : Int} {v : ByteArray} (h : ItemIn w b k v) : w.cell? ⟨b, 0, none⟩ = some (.int .u64 k) ∧ w.cell? ⟨b, 1, none⟩ = some (.string v) := ⟨cell_of_row _ _ 0 _ _ _ h, cell_of_row _ _ 1 _ _ _ h⟩
theorem ret_next {w : World} {a : Act} {fn : Func} {R : Ending → World → Prop} {p q r : Tmp} (x y : Int) (ad : Option Addr) (n c : Nat) (k : Int) (v : ByteArray) (B C : Nat) (hr : fn.results = #[.cell p 43, .cell q 33, .tmp r]) (hp : a.tmps.getD p undef = .pointer (some ⟨B, 0, none⟩))
    (hB : RefIn w B x y ad n c) (hq : a.tmps.getD q undef = .pointer (some ⟨C, 0, none⟩)) (hC : ItemIn w C k v) (hd : a.defers = []) (h : R (.returned (.tuple #[.agg (refCells x y ad n c), .agg (item k v), a.tmps.getD r undef])) w) : bodyPost Try.prog fn R .ret a w :=
  bodyPost_ret (results_cell_cell_tmp hr _ w B C 43 33 _ _ (0, 0) (0, 0) _ _ hp hB Try.underlying43 rfl (size_row _ _ _ _ _) hq hC Try.underlying33 rfl (size_item _ _)) hd h

theorem ref_fill {w : World} {B : Nat} {x y : Int} {ad : Option Addr} {n c : Nat} (h : RefIn w B x y ad n c) (x' y' : Int) (ad' : Option Addr) (n' c' : Nat) :
    RefIn (((w.setCell ⟨B, 0, none⟩ (.int .u64 x')).setCell ⟨B, 1, none⟩ (.int .u64 y')).setCell ⟨B, 2, none⟩ (.slice ad' n' c')) B x' y' ad' n' c' :=
  heap_setCell_same _ _ 2 _ _ _ (heap_setCell_same _ _ 1 _ _ _ (heap_setCell_same _ _ 0 _ _ _ h))
theorem item_fill {w : World} {B : Nat} {k : Int} {v : ByteArray} (h : ItemIn w B k v) (k' : Int) (v' : ByteArray) : ItemIn ((w.setCell ⟨B, 0, none⟩ (.int .u64 k')).setCell ⟨B, 1, none⟩ (.string v')) B k' v' :=
  heap_setCell_same _ _ 1 _ _ _ (heap_setCell_same _ _ 0 _ _ _ h)
theorem item_far {w : World} {B C : Nat} {o : Option Obj} (u v : Value) (hne : B ≠ C) (h : w.heap[B]? = o) : ((w.setCell ⟨C, 0, none⟩ u).setCell ⟨C, 1, none⟩ v).heap[B]? = o :=
  (Below.heap_setCell _ ⟨C, 1, none⟩ _ _ hne).trans ((Below.heap_setCell _ ⟨C, 0, none⟩ _ _ hne).trans h)
theorem ref_far {w : World} {B : Nat} {o : Option Obj} (C : Nat) (u v x : Value) (hne : B ≠ C) (h : w.heap[B]? = o) : (((w.setCell ⟨C, 0, none⟩ u).setCell ⟨C, 1, none⟩ v).setCell ⟨C, 2, none⟩ x).heap[B]? = o :=
  (Below.heap_setCell _ ⟨C, 2, none⟩ _ _ hne).trans (item_far u v hne h)
theorem next_none {w0 w' : World} {s : RS} {ad : Option Addr} {cap : Nat} (hr : refGet s.l (s.top + 1) = none) (hb : Below w0.heap.size w0 w') (hl : Lies w0 ad s.l) (hrm : Room s.l.length cap) :
    NextSays w0 s (.returned (.tuple #[.agg (refCells s.base s.top ad s.l.length cap), .agg (item 0 ByteArray.empty), .bool false])) w' := by
  have e1 : s.next = s := by unfold RS.next; rw [hr]
  have e2 : s.nextItem = (0, ByteArray.empty) := by unfold RS.nextItem; rw [hr]
  have e3 : s.nextIs = false := by unfold RS.nextIs; rw [hr]; rfl
  exact ⟨⟨_, by rw [e2, e3], ad, cap, by rw [e1], by rw [e1]; exact hl.below hb, by rw [e1]; exact hrm⟩, hb⟩
theorem next_some {w0 w' : World} {s : RS} {ad : Option Addr} {cap : Nat} {v : ByteArray} (hr : refGet s.l (s.top + 1) = some v) (hb : Below w0.heap.size w0 w') (hl : Lies w0 ad s.l) (hrm : Room s.l.length cap) :
    NextSays w0 s (.returned (.tuple #[.agg (refCells s.base (s.top + 1) ad s.l.length cap), .agg (item (s.top + 1) v), .bool true])) w' := by
  have e1 : s.next = ⟨s.base, s.top + 1, s.l⟩ := by unfold RS.next; rw [hr]
  have e2 : s.nextItem = (s.top + 1, v) := by unfold RS.nextItem; rw [hr]
  have e3 : s.nextIs = true := by unfold RS.nextIs; rw [hr]; rfl
  exact ⟨⟨_, by rw [e2, e3], ad, cap, by rw [e1], by rw [e1]; exact hl.below hb, by rw [e1]; exact hrm⟩, hb⟩

set_option maxRecDepth 100000 in
set_option maxHeartbeats 1600000 in
theorem refNext_any (s : RS) (ad : Option Addr) (cap : Nat) (w : World) (hl : Lies w ad s.l) (hn : s.l.length ≤ 1000) (hrm : Room s.l.length cap) (h0 : 0 ≤ s.top) (h1 : s.top ≤ 4611686018427387904) :
    Calls Try.prog 16 #[.agg (refCells s.base s.top ad s.l.length cap)] w (NextSays w s) := by
  have Hl := Lib.hid hl
  clear hl
  go_enter Try.func16, Try.ntmps16
  go_upto_region 1 with fail
  refine code_from (fun wd => Framed3 w wd s.base s.top ad s.l.length cap) (framed3 _ _ ad _ cap) ?_
  rintro wd hf
  obtain ⟨c0, c1, c2⟩ := ref_reads hf.box
  have F := Lib.hid hf
  clear hf
  go_wp2_with fail
  refine (refGet_any s.base s.top ad cap s.l (s.top + 1) wd (Hl.out.below F.out.bel) hn).mono ?_
  rintro e w3 ⟨hg, hb'⟩
  unfold GetSays at hg
  have hf := F.out.below hb'
  clear F c0 c1 c2
  clear hb'
  clear wd
  obtain ⟨c0, c1, c2⟩ := ref_reads hf.box
  have HF := Lib.hid hf
  clear hf
  cases hr : refGet s.l (s.top + 1) with
  | none =>
    rw [hr] at hg
    simp only [Option.getD_none, Option.isSome_none] at hg
    subst hg
    have HR := Lib.hid hr
    clear hr
    go_wp2_with (first
      | (refine wpList_store_row (P := Try.prog) rfl 43 (.tmp 2) (.tmp 17) rfl (w.heap.size + 1) (refCells s.base s.top ad s.l.length cap) rfl rfl 43 _ HF.out.cell (size_row _ _ _ _ _) rfl (one_row _ _ _ _ _) ?_)
      | (refine wpList_store_row (P := Try.prog) rfl 33 (.tmp 3) (.tmp 18) rfl (w.heap.size + 2) (item 0 ByteArray.empty) rfl rfl 33 _ ((setRow_other _ _ _ _ (by omega)).trans HF.out.it) (size_item _ _) rfl (one_item _ _) ?_))
    refine ret_next s.base s.top ad s.l.length cap 0 ByteArray.empty (w.heap.size + 1) (w.heap.size + 2) rfl rfl ?_ rfl ?_ rfl (next_none HR.out ?_ Hl.out hrm)
    · exact (setRow_other _ _ _ _ (by omega)).trans (setRow_heap _ _ _ _ _ _ HF.out.cell)
    · exact setRow_heap _ _ _ _ _ _ ((setRow_other _ _ _ _ (by omega)).trans HF.out.it)
    · exact below_setRow (below_setRow HF.out.bel (by omega) _) (by omega) _
  | some v =>
    rw [hr] at hg
    simp only [Option.getD_some, Option.isSome_some] at hg
    subst hg
    have HR := Lib.hid hr
    clear hr
    have fr := frozen_of_row w3 w.heap.size 1 _ _ HF.out.box
    go_upto_region 5 with fail
    refine code_from (fun wx => Framed3 w wx s.base (s.top + 1) ad s.l.length cap)
      ⟨ref_setTop HF.out.box _, (Below.heap_setCell w3 ⟨w.heap.size, 1, none⟩ _ _ (by show w.heap.size + 1 ≠ w.heap.size; omega)).trans HF.out.cell, (Below.heap_setCell w3 ⟨w.heap.size, 1, none⟩ _ _ (by show w.heap.size + 2 ≠ w.heap.size; omega)).trans HF.out.it, HF.out.bel.setCell (Nat.le_refl _) _, by simpa [World.setCell] using HF.out.size⟩ ?_
    clear c0 c1 c2 fr HF
    clear w3
    rintro wd hf
    obtain ⟨c0, c1, c2⟩ := ref_reads hf.box
    obtain ⟨d0, d1, d2⟩ := ref_reads hf.cell
    obtain ⟨i0, i1⟩ := item_reads hf.it
    have fd := fun j => frozen_of_row wd (w.heap.size + 1) j _ _ hf.cell
    have fi := fun j => frozen_of_row wd (w.heap.size + 2) j _ _ hf.it
    have HF := Lib.hid hf
    clear hf
    go_region
    all_goals
      go_wp2_with fail
      refine ret_next s.base (s.top + 1) ad s.l.length cap (s.top + 1) v (w.heap.size + 1) (w.heap.size + 2) rfl rfl ?_ rfl ?_ rfl (next_some HR.out ?_ Hl.out hrm)
      · exact item_far _ _ (by omega) (ref_fill HF.out.cell _ _ _ _ _)
      · exact item_fill (ref_far (w.heap.size + 1) _ _ _ (by omega) HF.out.it) _ _
      · exact (((((HF.out.bel.setCell (by show _ ≤ w.heap.size + 1; omega) _).setCell (by show _ ≤ w.heap.size + 1; omega) _).setCell (by show _ ≤ w.heap.size + 1; omega) _).setCell (by show _ ≤ w.heap.size + 1 + 1; omega) _).setCell (by show _ ≤ w.heap.size + 1 + 1; omega) _).drew
end Go.Proofs.Ytfkofdhobhalpaa
