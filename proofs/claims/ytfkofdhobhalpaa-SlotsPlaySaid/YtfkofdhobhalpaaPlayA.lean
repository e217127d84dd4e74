/-
  THE STATE of the law SlotsPlay: the row, the box of the reference's row, all else as it was.
-/
import Derived.Test.YtfkofdhobhalpaaTied
namespace Go.Proofs.Ytfkofdhobhalpaa
open Go.RowKit Go.Maps Go.BigFrame

/-- A block that holds items is no block whose second cell is no text. -/
theorem lies_off {w : World} {ad : Option Addr} {l : List Item} (h : Lies w ad l) {B : Nat} (hB : ∀ t, w.cell? ⟨B, 1, none⟩ ≠ some (.string t)) : ∀ (i : Nat) (x : Item), l[i]? = some x → ∀ q, ad = some ⟨q, 0, none⟩ → q ≠ B := by
  intro i x hx q hq e
  subst e
  have hlt : 0 < l.length := by
    have := (List.getElem?_eq_some_iff.1 hx).1
    omega
  obtain ⟨q', e', _, d1⟩ := h 0 l[0] (List.getElem?_eq_getElem hlt)
  have : q = q' := by rw [hq] at e'; injection e' with e'; injection e'
  subst this
  exact hB _ (by simpa using d1)
theorem row_notext {w : World} {g m : Nat} {base top : Int} {n : Nat} {M : Vals} (h : RowAt w g m base top n M) : ∀ t, w.cell? ⟨g, 1, none⟩ ≠ some (.string t) := fun t e => by
  rw [h.cell1] at e
  cases e
theorem map_notext {w : World} {g m : Nat} {base top : Int} {n : Nat} {M : Vals} (h : RowAt w g m base top n M) : ∀ t, w.cell? ⟨m, 1, none⟩ ≠ some (.string t) := fun t e => by
  obtain ⟨D, ⟨es, clock, hb, _⟩, _⟩ := h.map
  unfold World.cell? at e
  simp only [hb] at e
  cases e
theorem ref_notext {w : World} {b : Nat} {x y : Int} {ad : Option Addr} {n c : Nat} (h : RefIn w b x y ad n c) : ∀ t, w.cell? ⟨b, 1, none⟩ ≠ some (.string t) := fun t e => by
  rw [(ref_reads h).2.1] at e
  cases e
theorem Lies.blocks {w w' : World} {ad : Option Addr} {l : List Item} (h : Lies w ad l) (hk : ∀ (i : Nat) (x : Item), l[i]? = some x → ∀ q, ad = some ⟨q, 0, none⟩ → q < w.heap.size → w'.heap[q]? = w.heap[q]?) : Lies w' ad l := fun i x hx => by
  obtain ⟨q, e, c0, c1⟩ := h i x hx
  have hb := hk i x hx q e (World.block_lt_of_cell? w _ c0)
  exact ⟨q, e, (World.cell?_of_block (a := ⟨q, i * 2, none⟩) hb).trans c0, (World.cell?_of_block (a := ⟨q, i * 2 + 1, none⟩) hb).trans c1⟩
theorem Lies.only {w w' : World} {g m : Nat} {base top : Int} {n : Nat} {M : Vals} {ad : Option Addr} {l : List Item} (h : Lies w ad l) (hr : RowAt w g m base top n M) (ho : Only w w' g m) : Lies w' ad l :=
  h.blocks fun i x hx q hq hlt => ho.block q hlt (lies_off h (row_notext hr) i x hx q hq) (lies_off h (map_notext hr) i x hx q hq)
theorem Lies.box {w : World} {b : Nat} {x y : Int} {ad ad' : Option Addr} {n c : Nat} {l : List Item} (h : Lies w ad l) (hb : RefIn w b x y ad' n c) (cs : Array Value) : Lies (w.setRow b cs) ad l :=
  h.blocks fun i x hx q hq _ => setRow_other w b q cs (lies_off h (ref_notext hb) i x hx q hq)

/-- Where the law stands behind k acts. -/
structure Playing (w : World) (g m b k : Nat) (base top : Int) (n : Nat) (M : Vals) (s : RS) (ad : Option Addr) (cap : Nat) (wr : World) : Prop where
  both : Both base top n k M s
  row : RowAt wr g m base top n M
  box : RefIn wr b s.base s.top ad s.l.length cap
  lies : Lies wr ad s.l
  room : Room s.l.length cap
  bel : Below w.heap.size w wr
def Played (w : World) (g m b k : Nat) (wr : World) : Prop := ∃ base top n M s ad cap, Playing w g m b k base top n M s ad cap wr
section
variable {w wr wr' : World} {g m b k : Nat} {base top : Int} {n : Nat} {M : Vals} {s : RS} {ad : Option Addr} {cap : Nat}
theorem Playing.below (h : Playing w g m b k base top n M s ad cap wr) (hb : Below wr.heap.size wr wr') : Playing w g m b k base top n M s ad cap wr' :=
  ⟨h.both, h.row.below hb (Nat.le_refl _), (hb.block b (block_lt h.box)).trans h.box, h.lies.below hb, h.room, h.bel.trans (hb.mono h.bel.size)⟩
theorem Playing.drew (h : Playing w g m b k base top n M s ad cap wr) (j : Nat) : Playing w g m b k base top n M s ad cap (wr.drewN j) := h.below (drawn (Below.refl _ _) j)
theorem playing_start {b0 : Int} (h0 : 0 ≤ b0) (h1 : b0 ≤ 4611686018427387904) (hr : RowAt wr g m b0 b0 0 Vals.none) (hbox : RefIn wr b b0 b0 none 0 0) (hb : Below w.heap.size w wr) :
    Playing w g m b 0 b0 b0 0 Vals.none ⟨b0, b0, []⟩ none 0 wr :=
  ⟨both_start h0 h1, hr, hbox, fun i x hx => (by cases hx), ⟨Nat.le_refl _, Nat.zero_le _⟩, hb⟩
/-- Behind a deed of the row: the box and its items are as they were. -/
theorem box_only (h : Playing w g m b k base top n M s ad cap wr) (ho : Only wr wr' g m) (hg : b ≠ g) (hm : b ≠ m) (hg0 : w.heap.size ≤ g) (hm0 : w.heap.size ≤ m) :
    RefIn wr' b s.base s.top ad s.l.length cap ∧ Lies wr' ad s.l ∧ Below w.heap.size w wr' :=
  ⟨(ho.block b (block_lt h.box) hg hm).trans h.box, h.lies.only h.row ho, below_only h.bel ho hg0 hm0⟩
/-- Behind the reference's answer, stored into the box. -/
theorem playing_stored {k' : Nat} {base' top' : Int} {n' : Nat} {M' : Vals} {s' : RS} {x y : Int} {ad0 ad' : Option Addr} {n0 c0 cap' : Nat} (hB : Both base' top' n' k' M' s') (hr : RowAt wr g m base' top' n' M') (hbox : RefIn wr b x y ad0 n0 c0)
    (hl : Lies wr ad' s'.l) (hrm : Room s'.l.length cap') (hb : Below w.heap.size w wr) (hg : b ≠ g) (hm : b ≠ m) (hb0 : w.heap.size ≤ b) :
    Playing w g m b k' base' top' n' M' s' ad' cap' (wr.setRow b (refCells s'.base s'.top ad' s'.l.length cap')) :=
  ⟨hB, hr.same (setRow_other _ _ _ _ (Ne.symm hg)) (setRow_other _ _ _ _ (Ne.symm hm)), setRow_heap _ _ _ _ _ _ hbox, hl.box hbox _, hrm, below_setRow hb hb0 _⟩
end
end Go.Proofs.Ytfkofdhobhalpaa
