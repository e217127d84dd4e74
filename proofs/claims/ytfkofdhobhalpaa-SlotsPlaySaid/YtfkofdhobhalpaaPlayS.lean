/-
  WHAT STANDS while the law SlotsPlay asks the row and the reference; the contracts of what it asks.
-/
import Derived.Test.YtfkofdhobhalpaaPlayA
import Derived.Deep.RegionHeld3
namespace Go.Proofs.Ytfkofdhobhalpaa
open Go.RowKit Go.Maps Go.BigFrame

/-- The row, the box, the items: as they were. -/
structure Standing (w : World) (g m b k : Nat) (base top : Int) (n : Nat) (M : Vals) (s : RS) (ad : Option Addr) (cap : Nat) (wr : World) : Prop where
  play : Playing w g m b k base top n M s ad cap wr
  small : k ≤ 200

abbrev Held (w : World) (g m b k : Nat) (base top : Int) (n : Nat) (M : Vals) (s : RS) (ad : Option Addr) (cap : Nat) (wr : World) : Prop :=
  wr.cell? ⟨b, 0, none⟩ = some (.int .u64 s.base) ∧ wr.cell? ⟨b, 1, none⟩ = some (.int .u64 s.top) ∧ wr.cell? ⟨b, 2, none⟩ = some (.slice ad s.l.length cap) ∧ Standing w g m b k base top n M s ad cap wr

section
variable {w wr wr' : World} {g m b k : Nat} {base top : Int} {n : Nat} {M : Vals} {s : RS} {ad : Option Addr} {cap : Nat}
theorem held_of (h : Playing w g m b k base top n M s ad cap wr) (hk : k ≤ 200) : Held w g m b k base top n M s ad cap wr := by
  obtain ⟨x0, x1, x2⟩ := ref_reads h.box
  exact ⟨x0, x1, x2, h, hk⟩
theorem held_below (h : Held w g m b k base top n M s ad cap wr) (hb : Below wr.heap.size wr wr') : Held w g m b k base top n M s ad cap wr' :=
  held_of (h.2.2.2.play.below hb) h.2.2.2.small
theorem held_drew (h : Held w g m b k base top n M s ad cap wr) : Held w g m b k base top n M s ad cap wr.drew := held_of (h.2.2.2.play.drew 1) h.2.2.2.small
theorem held_base (h : Held w g m b k base top n M s ad cap wr) : Calls Try.prog 15 #[.pointer (some ⟨g, 0, none⟩)] wr fun r w' =>
    r = .returned (.int .u64 s.base) ∧ Held w g m b k base top n M s ad cap w' := by
  refine (base_any h.2.2.2.play.row).mono ?_
  rintro r w' ⟨rfl, rfl⟩
  exact ⟨ret_u64 h.2.2.2.play.both.tied.eb.symm, h⟩
theorem held_top (h : Held w g m b k base top n M s ad cap wr) : Calls Try.prog 14 #[.pointer (some ⟨g, 0, none⟩)] wr fun r w' =>
    r = .returned (.int .u64 s.top) ∧ Held w g m b k base top n M s ad cap w' := by
  refine (top_any h.2.2.2.play.row).mono ?_
  rintro r w' ⟨rfl, rfl⟩
  exact ⟨ret_u64 h.2.2.2.play.both.tied.et.symm, h⟩
theorem held_last (h : Held w g m b k base top n M s ad cap wr) : Calls Try.prog 23 #[.pointer (some ⟨g, 0, none⟩)] wr fun r w' =>
    r = .returned (.int .u64 (refLast s.top s.l)) ∧ Held w g m b k base top n M s ad cap w' := by
  have hp := h.2.2.2.play
  have hI := hp.both.inv
  have h0 := hI.b0
  have h1 := hI.bt
  refine (last_any hp.row (by omega) hI.t1).mono ?_
  rintro r w' ⟨⟨x, rfl, hx⟩, hb⟩
  exact ⟨ret_u64 (hp.both.tied.last hI.vals hx).symm, held_below h hb⟩
theorem held_refLast (h : Held w g m b k base top n M s ad cap wr) : Calls Try.prog 24 #[.agg #[.int .u64 s.base, .int .u64 s.top, .slice ad s.l.length cap]] wr fun r w' =>
    r = .returned (.int .u64 (refLast s.top s.l)) ∧ Held w g m b k base top n M s ad cap w' := by
  have hp := h.2.2.2.play
  have hl := hp.both.len
  have hk := h.2.2.2.small
  refine (refLast_any s.base s.top ad cap s.l wr hp.lies (by omega)).mono ?_
  rintro r w' ⟨rfl, hb⟩
  exact ⟨rfl, held_below h hb⟩
theorem held_items (f most : Int) (h : Held w g m b k base top n M s ad cap wr) (hf0 : 0 ≤ f) (hf1 : f < 18446744073709551616) :
    Calls Try.prog 13 #[.pointer (some ⟨g, 0, none⟩), .int .u64 f, .int .i64 most] wr fun r w' =>
      (∃ ad' cap', r = .returned (.slice ad' (refItems f s.top most s.l).length cap') ∧ Lies w' ad' (refItems f s.top most s.l)) ∧ Held w g m b k base top n M s ad cap w' := by
  have hp := h.2.2.2.play
  have hI := hp.both.inv
  have hk := h.2.2.2.small
  have htk := hI.tk
  refine (items_any f most hp.row hI.b0 hI.bt hI.t1 (by omega) hf0 hf1).mono ?_
  rintro r w' ⟨⟨v, rfl, hv⟩, hb⟩
  rw [← hp.both.tied.items f most] at hv
  obtain ⟨ad', cap', rfl, hl⟩ := rows_lies hv
  exact ⟨⟨ad', cap', rfl, hl⟩, held_below h hb⟩
theorem held_refItems (f most : Int) (ad1 : Option Addr) (l1 : List Item) (h : Held w g m b k base top n M s ad cap wr) (h1 : Lies wr ad1 l1) :
    Calls Try.prog 26 #[.agg #[.int .u64 s.base, .int .u64 s.top, .slice ad s.l.length cap], .int .u64 f, .int .i64 most] wr fun r w' =>
      (∃ ad' cap', r = .returned (.slice ad' (refItems f s.top most s.l).length cap') ∧ Lies w' ad' (refItems f s.top most s.l) ∧ Lies w' ad1 l1) ∧ Held w g m b k base top n M s ad cap w' := by
  have hp := h.2.2.2.play
  have hl := hp.both.len
  have hk := h.2.2.2.small
  refine (refItems_any s.base s.top ad cap s.l f most wr hp.lies (by omega)).mono ?_
  rintro r w' ⟨⟨v, rfl, hv⟩, hb⟩
  obtain ⟨ad', cap', rfl, hl⟩ := rows_lies hv
  exact ⟨⟨ad', cap', rfl, hl, h1.below hb⟩, held_below h hb⟩
theorem refItems_short (f top most : Int) (l : List Item) : (refItems f top most l).length ≤ l.length := by
  unfold refItems
  exact Nat.le_trans (List.length_take_le' _ _) (List.length_filter_le _ _)
theorem held_same (f most : Int) (ad1 ad2 : Option Addr) (cap1 cap2 : Nat) (h : Held w g m b k base top n M s ad cap wr) (h1 : Lies wr ad1 (refItems f s.top most s.l)) (h2 : Lies wr ad2 (refItems f s.top most s.l)) :
    Calls Try.prog 25 #[.slice ad1 (refItems f s.top most s.l).length cap1, .slice ad2 (refItems f s.top most s.l).length cap2] wr fun r w' =>
      r = .returned (.bool true) ∧ Held w g m b k base top n M s ad cap w' := by
  have hl := h.2.2.2.play.both.len
  have hk := h.2.2.2.small
  have hs := refItems_short f s.top most s.l
  refine (refSame_any ad1 ad2 cap1 cap2 _ wr h1 h2 (by omega)).mono ?_
  rintro r w' ⟨rfl, hb⟩
  exact ⟨rfl, held_below h hb⟩
theorem held_wakes (h : Held w g m b k base top n M s ad cap wr) : Calls Try.prog 8 #[] wr fun r w' =>
    r = .returned (.bool true) ∧ Held w g m b k base top n M s ad cap w' := by
  refine (wakes_any wr).mono ?_
  rintro r w' ⟨rfl, hb⟩
  exact ⟨rfl, held_below h hb⟩
end
end Go.Proofs.Ytfkofdhobhalpaa
