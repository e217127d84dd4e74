/-
  THE WALKS of the reference row's Keep, Jump and Next.
-/
import Derived.Test.YtfkofdhobhalpaaCut
namespace Go.Proofs.Ytfkofdhobhalpaa
open Go.RowKit Go.Maps Go.BigFrame

theorem results_row_tmp {P : Program} {fn : Func} {p q : Tmp} {ty : TypeId} (h : fn.results = #[.cell p ty, .tmp q]) (tmps : Array Value) (w : World) (g : Nat) (t : TypeId) (cs : Array Value) (fr : Nat × Nat) (d : TypeDesc)
    (hp : tmps.getD p undef = .pointer (some ⟨g, 0, none⟩)) (hg : w.heap[g]? = some (.cells cs t fr))
    (hu : P.underlying ty = some d) (hd : (match d with | .struct _ | .array _ _ => true | _ => false) = true) (hi : (P.info? ty).map (·.size) = some cs.size) :
    (results fn tmps).run P w = .ok (.tuple #[.agg cs, tmps.getD q undef]) w := results_cell_tmp h tmps w g t cs fr d hp hg hu hd hi
theorem ret_ref {w : World} {a : Act} {fn : Func} {R : Ending → World → Prop} {p q : Tmp} (x y : Int) (ad : Option Addr) (n c : Nat) (B : Nat) (hr : fn.results = #[.cell p 43, .tmp q]) (hp : a.tmps.getD p undef = .pointer (some ⟨B, 0, none⟩))
    (hB : RefIn w B x y ad n c) (hd : a.defers = []) (h : R (.returned (.tuple #[.agg (refCells x y ad n c), a.tmps.getD q undef])) w) : bodyPost Try.prog fn R .ret a w :=
  bodyPost_ret (results_cell_tmp hr _ w B 43 _ (0, 0) _ hp hB Try.underlying43 rfl (size_row _ _ _ _ _)) hd h

/-- The reference's row, as a value of mathematics. -/
structure RS where
  base : Int
  top : Int
  l : List Item
/-- A value of the program's that is the row. -/
def RowVal (w : World) (s : RS) (v : Value) : Prop := ∃ ad cap, v = .agg (refCells s.base s.top ad s.l.length cap) ∧ Lies w ad s.l ∧ Room s.l.length cap
def RS.keep (s : RS) (u : Int) : RS := if s.top < u then s else if u ≤ s.base then s else ⟨u, s.top, s.l.filter (above u)⟩
def RS.keepCode (s : RS) (u : Int) : Int := if s.top < u then 2 else 0
def RS.jump (s : RS) (u : Int) : RS := if u < s.top ∨ far < u then s else ⟨u, u, s.l.filter (above u)⟩
def RS.jumpCode (s : RS) (u : Int) : Int := if u < s.top ∨ far < u then 2 else 0
/-- A row and a code. -/
def Coded (w0 : World) (s : RS) (c : Int) (r : Ending) (w' : World) : Prop := (∃ v, r = .returned (.tuple #[v, .int .i64 c]) ∧ RowVal w' s v) ∧ Below w0.heap.size w0 w'

theorem new2_0 (w : World) (A B : Obj) : ((w.alloc A).alloc B).heap[w.heap.size]? = some A := heap_alloc2_old w A B
theorem new2_1 (w : World) (A B : Obj) : ((w.alloc A).alloc B).heap[w.heap.size + 1]? = some B := heap_alloc2_new w A B

/-- The frame of a method that gives a row and a code: the box, the result's cell. -/
structure Framed (w wd : World) (s : RS) (ad : Option Addr) (cap : Nat) : Prop where
  box : RefIn wd w.heap.size s.base s.top ad s.l.length cap
  cell : RefIn wd (w.heap.size + 1) 0 0 none 0 0
  bel : Below w.heap.size w wd
  size : wd.heap.size = w.heap.size + 2
theorem framed {w : World} (s : RS) (ad : Option Addr) (cap : Nat) :
    Framed w ((w.alloc (.cells (refCells s.base s.top ad s.l.length cap) 43 (0, 0))).alloc (.cells (refCells 0 0 none 0 0) 43 (0, 0))) s ad cap :=
  ⟨new2_0 w _ _, new2_1 w _ _, ((Below.refl _ _).alloc (Nat.le_refl _) _).alloc (by simp) _, by simp⟩
/-- What comes of a stored row. -/
theorem coded_of {w W : World} {s : RS} {ad : Option Addr} {cap : Nat} (c : Int) (hb : Below w.heap.size w W) (hl : Lies (W.setRow (w.heap.size + 1) (refCells s.base s.top ad s.l.length cap)) ad s.l) (hr : Room s.l.length cap) :
    Coded w s c (.returned (.tuple #[.agg (refCells s.base s.top ad s.l.length cap), .int .i64 c])) (W.setRow (w.heap.size + 1) (refCells s.base s.top ad s.l.length cap)) :=
  ⟨⟨_, rfl, ad, cap, rfl, hl, hr⟩, below_setRow hb (by omega) _⟩
theorem RowVal.below {w w' : World} {s : RS} {v : Value} (h : RowVal w s v) (hb : Below w.heap.size w w') : RowVal w' s v := by
  obtain ⟨ad, cap, e, hl, hr⟩ := h
  exact ⟨ad, cap, e, hl.below hb, hr⟩

set_option maxRecDepth 100000 in
set_option maxHeartbeats 1600000 in
theorem refKeep_any (s : RS) (ad : Option Addr) (cap : Nat) (u : Int) (w : World) (hl : Lies w ad s.l) (hn : s.l.length ≤ 1000) (hrm : Room s.l.length cap) :
    Calls Try.prog 17 #[.agg (refCells s.base s.top ad s.l.length cap), .int .u64 u] w (Coded w (s.keep u) (s.keepCode u)) := by
  obtain ⟨s', hs'⟩ : ∃ s', s' = s.keep u := ⟨_, rfl⟩
  obtain ⟨c, hc⟩ : ∃ c, c = s.keepCode u := ⟨_, rfl⟩
  rw [← hs', ← hc]
  have Hl := Lib.hid hl
  have Hs := Lib.hid hs'
  have Hc := Lib.hid hc
  clear hl hs' hc
  go_enter Try.func17, Try.ntmps17
  go_upto_region 1 with fail
  refine code_from (fun wd => Framed w wd s ad cap) (framed s ad cap) ?_
  rintro wd hf
  obtain ⟨c0, c1, c2⟩ := ref_reads hf.box
  have F := Lib.hid hf
  clear hf
  by_cases h1 : s.top < u
  · have t1 : decide (s.top < u) = true := by simpa using h1
    have e1 := Hs.out
    have e2 := Hc.out
    rw [RS.keep, if_pos h1] at e1
    rw [RS.keepCode, if_pos h1] at e2
    subst e1 e2
    clear h1
    go_wp2_with (refine wpList_store_row (P := Try.prog) rfl 43 (.tmp 4) (.tmp 10) rfl (w.heap.size + 1) (refCells s'.base s'.top ad s'.l.length cap) rfl rfl 43 _ F.out.cell (size_row _ _ _ _ _) rfl (one_row _ _ _ _ _) ?_)
    exact ret_ref s'.base s'.top ad s'.l.length cap (w.heap.size + 1) rfl rfl (setRow_heap _ _ _ _ _ _ F.out.cell) rfl (coded_of 2 F.out.bel (Hl.out.below (below_setRow F.out.bel (by omega) _)) hrm)
  · have t1 : decide (s.top < u) = false := by simpa using h1
    have e2 := Hc.out
    rw [RS.keepCode, if_neg h1] at e2
    subst e2
    by_cases h2 : u ≤ s.base
    · have t2 : decide (u ≤ s.base) = true := by simpa using h2
      have e1 := Hs.out
      rw [RS.keep, if_neg h1, if_pos h2] at e1
      subst e1
      clear h1 h2
      go_wp2_with (refine wpList_store_row (P := Try.prog) rfl 43 (.tmp 4) (.tmp 15) rfl (w.heap.size + 1) (refCells s'.base s'.top ad s'.l.length cap) rfl rfl 43 _ F.out.cell (size_row _ _ _ _ _) rfl (one_row _ _ _ _ _) ?_)
      exact ret_ref s'.base s'.top ad s'.l.length cap (w.heap.size + 1) rfl rfl (setRow_heap _ _ _ _ _ _ F.out.cell) rfl (coded_of 0 F.out.bel (Hl.out.below (below_setRow F.out.bel (by omega) _)) hrm)
    · have t2 : decide (u ≤ s.base) = false := by simpa using h2
      have e1 := Hs.out
      rw [RS.keep, if_neg h1, if_neg h2] at e1
      clear h1 h2
      go_wp2_with fail
      refine (cut_any s.base s.top ad cap s.l u wd (Hl.out.below F.out.bel) hn).mono ?_
      rintro e w3 ⟨⟨ad', cap', rfl, hl', hrm', hnw⟩, hb'⟩
      have hcell : RefIn w3 (w.heap.size + 1) 0 0 none 0 0 := (hb'.block _ (by have := F.out.size; omega)).trans F.out.cell
      have hb3 : Below w.heap.size w w3 := F.out.bel.trans (hb'.mono F.out.bel.size)
      have HC := Lib.hid hcell
      have HB := Lib.hid hb3
      have hnew : Lies (w3.setRow (w.heap.size + 1) (refCells u s.top ad' (s.l.filter (above u)).length cap')) ad' (s.l.filter (above u)) := by
        exact hl'.setRow (fun g hg => by have := hnw g hg; have := F.out.size; omega) _
      have HN := Lib.hid hnew
      clear hl' hcell hb3 hb' hnew hnw
      go_wp2_with (refine wpList_store_row (P := Try.prog) rfl 43 (.tmp 4) (.tmp 18) rfl (w.heap.size + 1) (refCells u s.top ad' (s.l.filter (above u)).length cap') rfl rfl 43 _ HC.out (size_row _ _ _ _ _) rfl (one_row _ _ _ _ _) ?_)
      rw [e1]
      exact ret_ref u s.top ad' (s.l.filter (above u)).length cap' (w.heap.size + 1) rfl rfl (setRow_heap _ _ _ _ _ _ HC.out) rfl (coded_of (s := ⟨u, s.top, s.l.filter (above u)⟩) 0 HB.out HN.out hrm')

theorem ref_setTop {w : World} {b : Nat} {x y : Int} {ad : Option Addr} {n c : Nat} (h : RefIn w b x y ad n c) (y' : Int) : RefIn (w.setCell ⟨b, 1, none⟩ (.int .u64 y')) b x y' ad n c := heap_setCell_same _ _ 1 _ _ _ h

set_option maxRecDepth 100000 in
set_option maxHeartbeats 1600000 in
theorem refJump_any (s : RS) (ad : Option Addr) (cap : Nat) (u : Int) (w : World) (hl : Lies w ad s.l) (hn : s.l.length ≤ 1000) (hrm : Room s.l.length cap) :
    Calls Try.prog 19 #[.agg (refCells s.base s.top ad s.l.length cap), .int .u64 u] w (Coded w (s.jump u) (s.jumpCode u)) := by
  obtain ⟨s', hs'⟩ : ∃ s', s' = s.jump u := ⟨_, rfl⟩
  obtain ⟨c, hc⟩ : ∃ c, c = s.jumpCode u := ⟨_, rfl⟩
  rw [← hs', ← hc]
  have Hl := Lib.hid hl
  have Hs := Lib.hid hs'
  have Hc := Lib.hid hc
  clear hl hs' hc
  go_enter Try.func19, Try.ntmps19
  go_upto_region 1 with fail
  refine code_from (fun wd => Framed w wd s ad cap) (framed s ad cap) ?_
  rintro wd hf
  obtain ⟨c0, c1, c2⟩ := ref_reads hf.box
  have F := Lib.hid hf
  clear hf
  by_cases h0 : u < s.top ∨ far < u
  · have e1 := Hs.out
    have e2 := Hc.out
    rw [RS.jump, if_pos h0] at e1
    rw [RS.jumpCode, if_pos h0] at e2
    subst e1 e2
    by_cases h1 : u < s'.top
    · have t1 : decide (u < s'.top) = true := by simpa using h1
      clear h0 h1
      go_wp2_with (refine wpList_store_row (P := Try.prog) rfl 43 (.tmp 4) (.tmp 14) rfl (w.heap.size + 1) (refCells s'.base s'.top ad s'.l.length cap) rfl rfl 43 _ F.out.cell (size_row _ _ _ _ _) rfl (one_row _ _ _ _ _) ?_)
      exact ret_ref s'.base s'.top ad s'.l.length cap (w.heap.size + 1) rfl rfl (setRow_heap _ _ _ _ _ _ F.out.cell) rfl (coded_of 2 F.out.bel (Hl.out.below (below_setRow F.out.bel (by omega) _)) hrm)
    · have t1 : decide (u < s'.top) = false := by simpa using h1
      have t2 : decide (4611686018427387904 < u) = true := by simp [far] at h0; simp; omega
      clear h0 h1
      go_wp2_with (refine wpList_store_row (P := Try.prog) rfl 43 (.tmp 4) (.tmp 14) rfl (w.heap.size + 1) (refCells s'.base s'.top ad s'.l.length cap) rfl rfl 43 _ F.out.cell (size_row _ _ _ _ _) rfl (one_row _ _ _ _ _) ?_)
      exact ret_ref s'.base s'.top ad s'.l.length cap (w.heap.size + 1) rfl rfl (setRow_heap _ _ _ _ _ _ F.out.cell) rfl (coded_of 2 F.out.bel (Hl.out.below (below_setRow F.out.bel (by omega) _)) hrm)
  · have t1 : decide (u < s.top) = false := by simp at h0; simp; omega
    have t2 : decide (4611686018427387904 < u) = false := by simp [far] at h0; simp; omega
    have e1 := Hs.out
    have e2 := Hc.out
    rw [RS.jump, if_neg h0] at e1
    rw [RS.jumpCode, if_neg h0] at e2
    subst e2
    clear h0
    have fr := frozen_of_row wd w.heap.size 1 _ _ F.out.box
    go_upto_region 4 with fail
    refine code_from (fun wx => Framed w wx ⟨s.base, u, s.l⟩ ad cap) ⟨ref_setTop F.out.box u, (Below.heap_setCell wd ⟨w.heap.size, 1, none⟩ _ _ (by show w.heap.size + 1 ≠ w.heap.size; omega)).trans F.out.cell, F.out.bel.setCell (Nat.le_refl _) _, by simpa [World.setCell] using F.out.size⟩ ?_
    clear c0 c1 c2 fr F
    clear wd
    rintro wd hf
    obtain ⟨c0, c1, c2⟩ := ref_reads hf.box
    have F := Lib.hid hf
    clear hf
    go_wp2_with fail
    refine (cut_any s.base u ad cap s.l u wd (Hl.out.below F.out.bel) hn).mono ?_
    rintro e w3 ⟨⟨ad', cap', rfl, hl', hrm', hnw⟩, hb'⟩
    have hcell : RefIn w3 (w.heap.size + 1) 0 0 none 0 0 := (hb'.block _ (by have := F.out.size; omega)).trans F.out.cell
    have hb3 : Below w.heap.size w w3 := F.out.bel.trans (hb'.mono F.out.bel.size)
    have HC := Lib.hid hcell
    have HB := Lib.hid hb3
    have hnew : Lies (w3.setRow (w.heap.size + 1) (refCells u u ad' (s.l.filter (above u)).length cap')) ad' (s.l.filter (above u)) := by
      exact hl'.setRow (fun g hg => by have := hnw g hg; have := F.out.size; omega) _
    have HN := Lib.hid hnew
    clear hl' hcell hb3 hb' hnew hnw
    go_wp2_with (refine wpList_store_row (P := Try.prog) rfl 43 (.tmp 4) (.tmp 19) rfl (w.heap.size + 1) (refCells u u ad' (s.l.filter (above u)).length cap') rfl rfl 43 _ HC.out (size_row _ _ _ _ _) rfl (one_row _ _ _ _ _) ?_)
    rw [e1]
    exact ret_ref u u ad' (s.l.filter (above u)).length cap' (w.heap.size + 1) rfl rfl (setRow_heap _ _ _ _ _ _ HC.out) rfl (coded_of (s := ⟨u, u, s.l.filter (above u)⟩) 0 HB.out HN.out hrm')

/-- Next: what it leaves, what it gives. -/
def RS.next (s : RS) : RS := match refGet s.l (s.top + 1) with | some _ => ⟨s.base, s.top + 1, s.l⟩ | none => s
def RS.nextItem (s : RS) : Item := match refGet s.l (s.top + 1) with | some v => (s.top + 1, v) | none => (0, ByteArray.empty)
def RS.nextIs (s : RS) : Bool := (refGet s.l (s.top + 1)).isSome
def NextSays (w0 : World) (s : RS) (r : Ending) (w' : World) : Prop := (∃ v, r = .returned (.tuple #[v, .agg (item s.nextItem.1 s.nextItem.2), .bool s.nextIs]) ∧ RowVal w' s.next v) ∧ Below w0.heap.size w0 w'
theorem results_cell_cell_tmp {P : Program} {fn : Func} {p q r : Tmp} {ty tz : TypeId} (h : fn.results = #[.cell p ty, .cell q tz, .tmp r]) (tmps : Array Value) (w : World) (g k : Nat) (t u : TypeId) (cs ds : Array Value) (fr gr : Nat × Nat) (d e : TypeDesc)
    (hp : tmps.getD p undef = .pointer (some ⟨g, 0, none⟩)) (hg : w.heap[g]? = some (.cells cs t fr))
    (hu : P.underlying ty = some d) (hd : (match d with | .struct _ | .array _ _ => true | _ => false) = true) (hi : (P.info? ty).map (·.size) = some cs.size)
    (hq : tmps.getD q undef = .pointer (some ⟨k, 0, none⟩)) (hk : w.heap[k]? = some (.cells ds u gr))
    (hv : P.underlying tz = some e) (he : (match e with | .struct _ | .array _ _ => true | _ => false) = true) (hj : (P.info? tz).map (·.size) = some ds.size) :
    (results fn tmps).run P w = .ok (.tuple #[.agg cs, .agg ds, tmps.getD r undef]) w := by
  have hp' : tmps[p]?.getD undef = .pointer (some ⟨g, 0, none⟩) := by simpa using hp
  have hq' : tmps[q]?.getD undef = .pointer (some ⟨k, 0, none⟩) := by simpa using hq
  simp [results, h, hp', hq', asAddr, run_loadVar_row w g t ty cs fr d hg hu hd hi, run_loadVar_row w k u tz ds gr e hk hv he hj]
end Go.Proofs.Ytfkofdhobhalpaa
