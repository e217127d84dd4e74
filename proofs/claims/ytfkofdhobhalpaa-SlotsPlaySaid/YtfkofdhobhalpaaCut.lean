/-
  THE WALK of the reference row's cut.
-/
import Derived.Test.YtfkofdhobhalpaaRefB
import Derived.Deep.RegionLaw
import Derived.Deep.RegionHeld3
namespace Go.Proofs.Ytfkofdhobhalpaa
open Go.RowKit Go.Maps Go.BigFrame

theorem size_row (a b : Int) (ad : Option Addr) (n c : Nat) : (Try.prog.info? 43).map (·.size) = some (refCells a b ad n c).size := by
  rw [show (refCells a b ad n c).size = 3 from rfl]
  kernel_rfl
theorem one_row (a b : Int) (ad : Option Addr) (n c : Nat) : (refCells a b ad n c).all (·.oneCell') = true := by simp [refCells, Value.oneCell']
def RefIn (w : World) (b : Nat) (x y : Int) (ad : Option Addr) (n c : Nat) : Prop := w.heap[b]? = some (.cells (refCells x y ad n c) 43 (0, 0))
theorem ref_reads {w : World} {b : Nat} {x y : Int} {ad : Option Addr} {n c : Nat} (h : RefIn w b x y ad n c) : w.cell? ⟨b, 0, none⟩ = some (.int .u64 x) ∧ w.cell? ⟨b, 1, none⟩ = some (.int .u64 y) ∧ w.cell? ⟨b, 2, none⟩ = some (.slice ad n c) :=
  ⟨cell_of_row _ _ 0 _ _ _ h, cell_of_row _ _ 1 _ _ _ h, cell_of_row _ _ 2 _ _ _ h⟩
theorem ref_setL {w : World} {b : Nat} {x y : Int} {ad : Option Addr} {n c : Nat} (h : RefIn w b x y ad n c) (ad' : Option Addr) (n' c' : Nat) : RefIn (w.setCell ⟨b, 2, none⟩ (.slice ad' n' c')) b x y ad' n' c' := heap_setCell_same _ _ 2 _ _ _ h
theorem grown_trans {a b c : World} {r : Option Nat} (h : a.grownBy b r) (k : b.grownBy c r) : a.grownBy c r := World.grownBy.trans h k
theorem grown_setCell {a w : World} {g i : Nat} (h : a.grownBy w (some g)) (u : Value) : a.grownBy (w.setCell ⟨g, i, none⟩ u) (some g) :=
  ⟨h.os, h.tape, h.output, by simpa [World.setCell] using h.size, fun k hk hne => (Below.heap_setCell w ⟨g, i, none⟩ u k (by intro e; exact hne (by rw [e]))).trans (h.block k hk hne)⟩
theorem grown_new {a w w' : World} {g : Nat} {r : Option Nat} (h : a.grownBy w (some g)) (k : w.grownBy w' r) (hr : ∀ j, r = some j → a.heap.size ≤ j) : a.grownBy w' (some g) :=
  ⟨k.os.trans h.os, k.tape.trans h.tape, k.output.trans h.output, Nat.le_trans h.size k.size, fun i hi hne => (k.block i (Nat.lt_of_lt_of_le hi h.size) (by intro e; have := hr i e.symm; omega)).trans (h.block i hi hne)⟩
theorem Lies.grown {w0 w w' : World} {ad : Option Addr} {l : List Item} {g : Nat} (h0 : Lies w0 ad l) (h : Lies w ad l) (hg : w.grownBy w' (some g)) (hB : w0.heap.size ≤ g) : Lies w' ad l := fun i x hx => by
  obtain ⟨b0, e0, d0, _⟩ := h0 i x hx
  obtain ⟨b, e, c0, c1⟩ := h i x hx
  have hlt : b0 < w0.heap.size := World.block_lt_of_cell? w0 _ d0
  have hbb : b0 = b := by
    have h3 := e0.symm.trans e
    injection h3 with h3
    injection h3
  subst hbb
  have hne : some b0 ≠ some g := by intro e2; injection e2 with e2; omega
  exact ⟨b0, e, hg.cell c0 hne, hg.cell c1 hne⟩
theorem Lies.setRow {w : World} {ad : Option Addr} {l : List Item} {B : Nat} (h : Lies w ad l) (hB : ∀ g, ad = some ⟨g, 0, none⟩ → g ≠ B) (cs : Array Value) : Lies (w.setRow B cs) ad l := fun i x hx => by
  obtain ⟨g, e, c0, c1⟩ := h i x hx
  have hb := setRow_other w B g cs (hB g e)
  exact ⟨g, e, (World.cell?_of_block (a := ⟨g, i * 2, none⟩) hb).trans c0, (World.cell?_of_block (a := ⟨g, i * 2 + 1, none⟩) hb).trans c1⟩
/-- A slice's capacity fits. -/
def Room (n cap : Nat) : Prop := n ≤ cap ∧ cap ≤ maxLen
theorem room_of_owns {w : World} {B : Nat} {e : TypeId} {size m n c : Nat} {ad : Option Addr} {xs : List Value} (h : w.ownsRow B e size (.slice ad n c) m xs) : Room n c := by
  obtain ⟨_, ⟨h1, rfl⟩ | ⟨g, cap, cur, h1, _, _, h2, h3, _⟩⟩ := h
  · injection h1 with _ h1 h2
    subst h1 h2
    exact ⟨Nat.le_refl _, Nat.zero_le _⟩
  · injection h1 with _ h4 h5
    subst h4 h5
    exact ⟨h2, h3⟩
/-- The items above a slot. -/
def above (u : Int) (x : Item) : Bool := decide (u < x.1)

/-- What the loop has laid: the variable 'out', its row, all else as it was. -/
structure Cutting (wd : World) (b2 : Nat) (u top : Int) (o : List Item) (ao : Option Addr) (n co : Nat) (wr : World) : Prop where
  len : n = o.length
  out : RefIn wr b2 u top ao n co
  row : wr.ownsRow wd.heap.size 33 2 (.slice ao n co) n (cellsOf o)
  grown : wd.grownBy wr (some b2)

theorem cutting_step {wd wr W w2 : World} {b2 : Nat} {u top : Int} {o : List Item} {ao : Option Addr} {n co gg cc : Nat} {x : Item} (h : Cutting wd b2 u top o ao n co wr) (hb2 : b2 < wd.heap.size)
    (hown : w2.ownsRow wd.heap.size 33 2 (.slice (some ⟨gg, 0, none⟩) (n + 1) cc) (n + 1) (cellsOf o ++ [.int .u64 x.1, .string x.2])) (hgr : W.grownBy w2 (Value.slice ao n co).ownBlock) (hW : wr.grownBy W none) :
    RefIn w2 b2 u top ao n co ∧ Cutting wd b2 u top (o ++ [x]) (some ⟨gg, 0, none⟩) (n + 1) cc (w2.setCell ⟨b2, 2, none⟩ (.slice (some ⟨gg, 0, none⟩) (n + 1) cc)) := by
  have hlt := fun k hk => (h.row.lt k hk).1
  have hs := h.grown.size
  have hWs := hW.size
  have h1 : RefIn W b2 u top ao n co := (hW.block b2 (by omega) (by simp)).trans h.out
  have h2 : RefIn w2 b2 u top ao n co := (hgr.block b2 (by omega) (by intro e; have := hlt b2 e.symm; omega)).trans h1
  have hg2 := (hown.lt gg rfl).1
  refine ⟨h2, by simp [h.len], ref_setL h2 _ _ _, ?_, ?_⟩
  · rw [cellsOf_snoc]
    exact World.ownsRow.kept hown (grown_setCell (World.grownBy.refl _ _) _) (Or.inr (by intro e; have : gg = b2 := by injection e
                                                                                         omega))
  · have k1 : wd.grownBy W (some b2) := grown_new h.grown hW (fun j hj => by cases hj)
    exact grown_setCell (grown_new k1 hgr (fun j hj => hlt j hj)) _

set_option maxRecDepth 100000 in
set_option maxHeartbeats 1600000 in
theorem cut_any (base top : Int) (ad : Option Addr) (cap : Nat) (l : List Item) (u : Int) (w : World) (hl : Lies w ad l) (hn : l.length ≤ 1000) :
    Calls Try.prog 31 #[.agg (refCells base top ad l.length cap), .int .u64 u] w fun r w' => (∃ ad' cap', r = .returned (.agg (refCells u top ad' (l.filter (above u)).length cap')) ∧ Lies w' ad' (l.filter (above u)) ∧ Room (l.filter (above u)).length cap' ∧ ∀ g, ad' = some ⟨g, 0, none⟩ → w.heap.size ≤ g) ∧ Below w.heap.size w w' := by
  obtain ⟨i0, hi, hz0, hz1, hz2⟩ := info_parts infoI
  have Hl := Lib.hid hl
  have c1 : ∀ o, ((w.alloc (.cells (refCells base top ad l.length cap) 43 (0, 0))).alloc o).cell? ⟨w.heap.size, 1, none⟩ = some (.int .u64 top) := fun o => cell_of_row _ _ 1 _ _ _ (heap_alloc2_old w _ _)
  clear hl
  go_enter Try.func31, Try.ntmps31
  go_upto_region 2 with fail
  refine code_from (fun wd => RefIn wd w.heap.size base top ad l.length cap ∧ RefIn wd (w.heap.size + 1) 0 0 none 0 0 ∧ RefIn wd (w.heap.size + 2) u top none 0 0 ∧ Below w.heap.size w wd ∧ wd.heap.size = w.heap.size + 3)
    ⟨new3_0 w _ _ _, new3_1 w _ _ _, new3_2 w _ _ _, (((Below.refl _ _).alloc (Nat.le_refl _) _).alloc (by simp) _).alloc (by simp; omega) _, by simp⟩ ?_
  clear c1
  rintro wd ⟨h0, h1, h2, hb, hz⟩
  have hld := Hl.out.below hb
  have Hz := Lib.hid hz
  have hz1' : w.heap.size + 2 < wd.heap.size := by omega
  clear hz
  have H0 := Lib.hid h0
  have H1 := Lib.hid h1
  have Hb := Lib.hid hb
  have Hld := Lib.hid hld
  clear h0 h1 hb hld
  go_wp2_with fail
  go_loopw [6] (fun i wr => ∃ (j n : Nat) (ao : Option Addr) (co : Nat), j ≤ l.length ∧ i = .int .i64 (j : Int) ∧ Cutting wd (w.heap.size + 2) u top ((l.take j).filter (above u)) ao n co wr) (fun i _ => l.length - (intOf i).toNat)
  case atStart => exact ⟨0, 0, none, 0, by omega, rfl, rfl, h2, World.ownsRow_nil _ _ _ _, World.grownBy.refl _ _⟩
  case round =>
    clear h2
    obtain ⟨j, n, ao, co, hj, rfl, hc⟩ := hrel
    have hnl : n ≤ l.length := by rw [hc.len]; exact filter_le _ _ _
    have hg := hc.grown
    have hgs := hg.size
    have h0r : RefIn wr w.heap.size base top ad l.length cap := (hg.block _ (by omega) (by intro e; injection e with e; omega)).trans H0.out
    have h1r : RefIn wr (w.heap.size + 1) 0 0 none 0 0 := (hg.block _ (by omega) (by intro e; injection e with e; omega)).trans H1.out
    have hlr := Hl.out.grown Hld.out hg (by omega)
    obtain ⟨_, _, r2⟩ := ref_reads h0r
    obtain ⟨_, _, o2⟩ := ref_reads hc.out
    have fo := frozen_of_row wr (w.heap.size + 2) 2 _ _ hc.out
    have HC := Lib.hid hc
    have H0r := Lib.hid h0r
    have H1r := Lib.hid h1r
    clear hc hg h0r h1r
    by_cases hlt : j < l.length
    · have hx : l[j]? = some l[j] := List.getElem?_eq_getElem hlt
      generalize l[j] = x at hx
      obtain ⟨g, rfl, x0, x1⟩ := hlr j x hx
      have Hx := Lib.hid hx
      have Hlr := Lib.hid hlr
      clear hx hlr
      by_cases hp : u < x.1
      · have t1 : decide (u < x.1) = true := by simpa using hp
        have hin : above u x = true := by simp [above, hp]
        have z2 : ∀ ob, (wr.alloc ob).cell? ⟨w.heap.size + 1 + 1, 2, none⟩ = some (.slice ao n co) := fun ob => cell_of_row _ _ 2 _ _ _ ((Below.heap_alloc wr ob (w.heap.size + 2) (by omega)).trans HC.out.out)
        go_upto_region 6 with fail
        go_region_law ((refine step_append_lies _ (by rfl) (.tmp 27) (.tmp 33) 38 (by rfl) wd.heap.size 33 i0 (.agg #[.int .u64 0, .string ByteArray.empty]) 2 24 Try.underlying38 hi hz0 hz1 hz2 rfl (by decide) _ n _ (by rfl) (HC.out.row.alloc _) ⟨wr.heap.size, 0, none⟩ 1 1 [.int .u64 x.1, .string x.2] (by rfl) rfl (World.news_of_block (heap_alloc_new wr _)) (by intro u hu; simp at hu; rcases hu with rfl | rfl <;> rfl) (by decide) (by unfold maxLen; omega) (by omega) (by simp; omega) (wr.heap.size + 1) (by simp) ?_; intro gg cc w2 hown hgr hat hlt2; obtain ⟨q1, q2⟩ := cutting_step HC.out hz1' hown hgr (by exact ⟨rfl, rfl, rfl, by simp, fun i hi _ => Below.heap_alloc wr _ i hi⟩); have q3 := (ref_reads q1).2.2; have q4 := frozen_of_row w2 (w.heap.size + 2) 2 _ _ q1; rw [← filter_step_yes Hx.out hin] at q2; have HS := Lib.hid q2; clear q1 q2 hown hgr hat hlt2))
        all_goals
          go_wp2_with fail
          go_roundw
          case rel => exact ⟨j + 1, n + 1, _, cc, by omega, by go_num, HS.out⟩
          case measure => simp [intOf]; omega
      · have t1 : decide (u < x.1) = false := by simpa using hp
        have hin : above u x = false := by simp [above]; omega
        go_wp2_with fail
        go_roundw
        case rel => exact ⟨j + 1, n, ao, co, by omega, by go_num, by rw [filter_step_no Hx.out hin]; exact HC.out⟩
        case measure => simp [intOf]; omega
    · have hjl : j = l.length := by omega
      subst hjl
      have hc := HC.out
      rw [List.take_length] at hc
      have HC2 := Lib.hid hc
      clear hc HC
      go_wp2_with (refine wpList_store_row (P := Try.prog) rfl 43 (.tmp 4) (.tmp 36) rfl (w.heap.size + 1) (refCells u top ao n co) rfl rfl 43 _ H1r.out (size_row _ _ _ _ _) rfl (one_row _ _ _ _ _) ?_)
      have hfin : RefIn (wr.setRow (w.heap.size + 1) (refCells u top ao n co)) (w.heap.size + 1) u top ao n co := setRow_heap _ _ _ _ _ _ H1r.out
      have hc := HC2.out
      have hlt := fun k hk => (hc.row.lt k hk).1
      obtain ⟨ad2, cp2, e2, hL⟩ := rows_lies (w := wr) (B := wd.heap.size) (v := .slice ao n co) (l := l.filter (above u)) (by unfold Rows'; rw [← hc.len]; exact hc.row)
      obtain ⟨rfl, _, rfl⟩ : ao = ad2 ∧ n = (l.filter (above u)).length ∧ co = cp2 := by injection e2 with e3 e4 e5; exact ⟨e3, e4, e5⟩
      exact bodyPost_ret (results_cell_row rfl _ _ (w.heap.size + 1) 43 _ (0, 0) _ rfl hfin Try.underlying43 rfl (size_row _ _ _ _ _)) rfl
        ⟨⟨ao, co, by rw [hc.len], hL.setRow (fun g hg => by have := hlt g (by rw [hg]; rfl); omega) _, by rw [← hc.len]; exact room_of_owns hc.row, fun g hg => by have := hlt g (by rw [hg]; rfl); omega⟩, below_setRow (Hb.out.grown hc.grown Hb.out.size (fun j hj => by injection hj with hj; omega)) (by omega) _⟩
end Go.Proofs.Ytfkofdhobhalpaa
