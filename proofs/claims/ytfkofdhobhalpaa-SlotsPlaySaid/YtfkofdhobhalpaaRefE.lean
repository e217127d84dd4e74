/-
  THE WALK of the reference row's Put.
-/
import Derived.Test.YtfkofdhobhalpaaRefD
import Derived.Deep.Upon
namespace Go.Proofs.Ytfkofdhobhalpaa
open Go.RowKit Go.Maps Go.BigFrame

/-- Below a slot. -/
def under (k : Int) (x : Item) : Bool := decide (x.1 < k)
/-- An item laid in its place. -/
def inserted (l : List Item) (k : Int) (v : ByteArray) : List Item := l.takeWhile (under k) ++ (k, v) :: l.dropWhile (under k)
def RS.put (s : RS) (k : Int) (v : ByteArray) : RS := if 1 ≤ k ∧ k ≤ far then (if k ≤ s.base then s else match refGet s.l k with | some _ => s | none => ⟨s.base, s.top, inserted s.l k v⟩) else s
def RS.putCode (s : RS) (k : Int) (v : ByteArray) : Int := if 1 ≤ k ∧ k ≤ far then (if k ≤ s.base then 0 else match refGet s.l k with | some old => if old = v then 0 else 14 | none => 0) else 2
theorem while_at {v : ByteArray} : ∀ (l : List Item) (j : Nat) (k : Int), (∀ x ∈ l.take j, under k x = true) → (∀ x, l[j]? = some x → under k x = false) → inserted l k v = l.take j ++ (k, v) :: l.drop j
  | [], j, k, _, _ => by simp [inserted]
  | x :: l, 0, k, _, h2 => by simp [inserted, h2 x rfl]
  | x :: l, j + 1, k, h1, h2 => by
    have hx : under k x = true := h1 x (by simp)
    have ih := while_at (v := v) l j k (fun y hy => h1 y (by simp [hy])) (fun y hy => h2 y (by simpa using hy))
    unfold inserted at *
    simp only [List.takeWhile_cons, List.dropWhile_cons, hx, if_true, List.take_succ_cons, List.drop_succ_cons, List.cons_append]
    rw [ih]
theorem cellsOf_append (a b : List Item) : cellsOf (a ++ b) = cellsOf a ++ cellsOf b := by simp [cellsOf]
theorem cutting_add {wd wr W w2 : World} {b2 : Nat} {u top : Int} {o l2 : List Item} {ao : Option Addr} {n m co gg cc : Nat} (h : Cutting wd b2 u top o ao n co wr) (hb2 : b2 < wd.heap.size) (hm : m = l2.length)
    (hown : w2.ownsRow wd.heap.size 33 2 (.slice (some ⟨gg, 0, none⟩) (n + m) cc) (n + m) (cellsOf o ++ cellsOf l2)) (hgr : W.grownBy w2 (Value.slice ao n co).ownBlock) (hW : wr.grownBy W none) :
    RefIn w2 b2 u top ao n co ∧ Cutting wd b2 u top (o ++ l2) (some ⟨gg, 0, none⟩) (n + m) cc (w2.setCell ⟨b2, 2, none⟩ (.slice (some ⟨gg, 0, none⟩) (n + m) cc)) := by
  have hlt := fun k hk => (h.row.lt k hk).1
  have hs := h.grown.size
  have hWs := hW.size
  have h1 : RefIn W b2 u top ao n co := (hW.block b2 (by omega) (by simp)).trans h.out
  have h2 : RefIn w2 b2 u top ao n co := (hgr.block b2 (by omega) (by intro e; have := hlt b2 e.symm; omega)).trans h1
  have hg2 := (hown.lt gg rfl).1
  refine ⟨h2, by simp [h.len, hm], ref_setL h2 _ _ _, ?_, ?_⟩
  · rw [cellsOf_append]
    exact World.ownsRow.kept hown (grown_setCell (World.grownBy.refl _ _) _) (Or.inr (by intro e; have : gg = b2 := by injection e
                                                                                         omega))
  · have k1 : wd.grownBy W (some b2) := grown_new h.grown hW (fun j hj => by cases hj)
    exact grown_setCell (grown_new k1 hgr (fun j hj => hlt j hj)) _
theorem lies_news {w : World} {g : Nat} {l : List Item} (h : Lies w (some ⟨g, 0, none⟩) l) (n : Nat) : ∀ j u, (cellsOf (l.drop n))[j]? = some u → w.cell? ((⟨g, n * 2, none⟩ : Addr).add j) = some u := by
  intro j u hu
  have hadd : (⟨g, n * 2, none⟩ : Addr).add j = ⟨g, n * 2 + j, none⟩ := by unfold Addr.add; split <;> simp_all
  rw [hadd]
  have hlt : j < (cellsOf (l.drop n)).length := (List.getElem?_eq_some_iff.1 hu).1
  rw [cellsOf_len] at hlt
  obtain ⟨i, hji⟩ : ∃ i, j = i * 2 ∨ j = i * 2 + 1 := ⟨j / 2, by omega⟩
  have hi : i < (l.drop n).length := by omega
  have hx : (l.drop n)[i]? = some (l.drop n)[i] := List.getElem?_eq_getElem hi
  obtain ⟨c0, c1⟩ := cellsOf_get _ _ _ hx
  generalize (l.drop n)[i] = x at *
  rw [List.getElem?_drop] at hx
  obtain ⟨g', e, d0, d1⟩ := h _ _ hx
  injection e with e
  injection e with e
  subst e
  rcases hji with rfl | rfl
  · rw [hu] at c0
    rw [show n * 2 + i * 2 = (n + i) * 2 by omega, d0, c0]
  · rw [hu] at c1
    rw [show n * 2 + (i * 2 + 1) = (n + i) * 2 + 1 by omega, d1, c1]
theorem cells_one (l : List Item) : ∀ u ∈ cellsOf l, u.oneCell' = true := by
  intro u hu
  obtain ⟨x, _, hx⟩ := List.mem_flatMap.1 hu
  simp at hx
  rcases hx with rfl | rfl <;> rfl
theorem grown_drewN (w : World) (k : Nat) : w.grownBy (w.drewN k) none := ⟨rfl, rfl, rfl, Nat.le_refl _, fun _ _ _ => rfl⟩
theorem under_step {l : List Item} {j : Nat} {x : Item} {k : Int} (hx : l[j]? = some x) (h : ∀ y ∈ l.take j, under k y = true) (hin : under k x = true) : ∀ y ∈ l.take (j + 1), under k y = true := by
  rw [take_succ_of hx]
  intro y hy
  rcases List.mem_append.1 hy with hy | hy
  · exact h y hy
  · rw [List.mem_singleton.1 hy]
    exact hin
theorem Framed.below {w wd wx : World} {s : RS} {ad : Option Addr} {cap : Nat} (h : Framed w wd s ad cap) (hb : Below wd.heap.size wd wx) :
    RefIn wx w.heap.size s.base s.top ad s.l.length cap ∧ RefIn wx (w.heap.size + 1) 0 0 none 0 0 ∧ Below w.heap.size w wx ∧ w.heap.size + 2 ≤ wx.heap.size :=
  ⟨(hb.block _ (by have := h.size; omega)).trans h.box, (hb.block _ (by have := h.size; omega)).trans h.cell, h.bel.trans (hb.mono (by have := h.size; omega)), by have := h.size; have := hb.size; omega⟩
/-- The frame behind Get. -/
structure FramedB (w wd : World) (s : RS) (ad : Option Addr) (cap : Nat) : Prop where
  box : RefIn wd w.heap.size s.base s.top ad s.l.length cap
  cell : RefIn wd (w.heap.size + 1) 0 0 none 0 0
  bel : Below w.heap.size w wd
  size : w.heap.size + 2 ≤ wd.heap.size
theorem coded_stored {w W : World} {s : RS} {ad : Option Addr} {cap : Nat} (c : Int) (hf : FramedB w W s ad cap) (hl : Lies w ad s.l) (hr : Room s.l.length cap) :
    Coded w s c (.returned (.tuple #[.agg (refCells s.base s.top ad s.l.length cap), .int .i64 c])) (W.setRow (w.heap.size + 1) (refCells s.base s.top ad s.l.length cap)) :=
  coded_of c hf.bel (hl.below (below_setRow hf.bel (by omega) _)) hr

theorem cutting_again {wd w2 : World} {b2 : Nat} {u top : Int} {o : List Item} {n cc gg : Nat} (h : Cutting wd b2 u top o (some ⟨gg, 0, none⟩) n cc w2) (hb2 : b2 < wd.heap.size) :
    Cutting wd b2 u top o (some ⟨gg, 0, none⟩) n cc (w2.setCell ⟨b2, 2, none⟩ (.slice (some ⟨gg, 0, none⟩) n cc)) := by
  have h1 := (h.row.lt gg rfl).1
  refine ⟨h.len, ref_setL h.out _ _ _, World.ownsRow.kept h.row (grown_setCell (World.grownBy.refl _ _) _) (Or.inr ?_), grown_setCell h.grown _⟩
  intro e
  have : gg = b2 := by injection e
  omega
theorem src_nothing (X : Option Addr) (c : Nat) (w : World) : Src Try.prog 2 38 (.slice X 0 c) 0 [] w := by
  cases X with
  | none => exact Src.ofNil w Try.underlying38 c
  | some a => exact Src.ofSlice w Try.underlying38 a 0 c [] rfl (fun j u h => by cases h) (fun u h => by cases h)
theorem wp_append_nothing {o : Oper} {a : Act} {w : World} {K : Act → World → Prop} {Q : Exit → Act → World → Prop} (s x : Operand) (ho : o.op = .call { callee := .builtin .append, args := #[s, x], argTypes := #[38, 38] })
    (ad : Option Addr) (n cap : Nat) (hle : n ≤ cap) (X : Option Addr) (c : Nat) (hs : a.eval s = .slice ad n cap) (hx : a.eval x = .slice X 0 c) (h : K (a.put o.dst (.slice ad n cap)) w) : o.wp Try.prog a w K Q := by
  obtain ⟨i0, hi, hz0, hz1, hz2⟩ := info_parts infoI
  have hrun := run_append_nothing (P := Try.prog) w 38 38 o.type 33 i0 Try.underlying38 hi ad n cap hle (.slice X 0 c) (by rw [hz1]; exact src_nothing X c w)
  unfold Oper.wp execOp
  simp only [ho, resolve, invoke, builtin, Sem.run_bind, Sem.run_pure, Result.andThen_ok, List.map_toArray, List.map_cons, List.map_nil, hs, hx, hrun]
  exact h
theorem Cutting.drew {wd w2 : World} {b2 : Nat} {u top : Int} {o : List Item} {ao : Option Addr} {n co : Nat} (h : Cutting wd b2 u top o ao n co w2) (k : Nat) : Cutting wd b2 u top o ao n co (w2.drewN k) :=
  ⟨h.len, h.out, h.row, ⟨h.grown.os, h.grown.tape, h.grown.output, h.grown.size, h.grown.block⟩⟩
theorem coded_cut {w wd W : World} {s : RS} {ad : Option Addr} {cap b2 : Nat} {x y : Int} {l : List Item} {ao : Option Addr} {n co : Nat} (hf : FramedB w wd s ad cap) (hb2 : w.heap.size + 2 ≤ b2) (hc : Cutting wd b2 x y l ao n co W) :
    Coded w ⟨x, y, l⟩ 0 (.returned (.tuple #[.agg (refCells x y ao n co), .int .i64 0])) (W.setRow (w.heap.size + 1) (refCells x y ao n co)) := by
  have hlt := fun k hk => (hc.row.lt k hk).1
  have hsz := hf.size
  obtain ⟨ad2, cp2, e2, hL⟩ := rows_lies (w := W) (B := wd.heap.size) (v := .slice ao n co) (l := l) (by unfold Rows'; rw [← hc.len]; exact hc.row)
  obtain ⟨rfl, _, rfl⟩ : ao = ad2 ∧ n = l.length ∧ co = cp2 := by injection e2 with e3 e4 e5; exact ⟨e3, e4, e5⟩
  have hr := room_of_owns hc.row
  have hlen := hc.len
  have hb : Below w.heap.size w W := hf.bel.grown hc.grown hf.bel.size (fun j hj => by injection hj with hj; omega)
  subst hlen
  exact coded_of (s := ⟨x, y, l⟩) 0 hb (hL.setRow (fun g hg => by have := hlt g (by rw [hg]; rfl); omega) _) hr

set_option maxRecDepth 100000 in
set_option maxHeartbeats 3200000 in
theorem refPut_any (s : RS) (ad : Option Addr) (cap : Nat) (k : Int) (v : ByteArray) (w : World) (hl : Lies w ad s.l) (hn : s.l.length ≤ 900) (hrm : Room s.l.length cap) (h0 : 0 ≤ k) :
    Calls Try.prog 20 #[.agg (refCells s.base s.top ad s.l.length cap), .int .u64 k, .string v] w (Coded w (s.put k v) (s.putCode k v)) := by
  obtain ⟨s', hs'⟩ : ∃ s', s' = s.put k v := ⟨_, rfl⟩
  obtain ⟨c, hc⟩ : ∃ c, c = s.putCode k v := ⟨_, rfl⟩
  rw [← hs', ← hc]
  have Hl := Lib.hid hl
  have Hs := Lib.hid hs'
  have Hc := Lib.hid hc
  clear hl hs' hc
  go_enter Try.func20, Try.ntmps20
  go_upto_region 1 with fail
  refine code_from (fun wd => Framed w wd s ad cap) (framed s ad cap) ?_
  rintro wd hf
  obtain ⟨c0, c1, c2⟩ := ref_reads hf.box
  have F : FramedB w wd s ad cap := ⟨hf.box, hf.cell, hf.bel, by have := hf.size; omega⟩
  replace F := Lib.hid F
  clear hf
  go_wp2_with fail
  refine (refMay_any k wd h0).mono ?_
  rintro e w3 ⟨rfl, rfl⟩
  by_cases hk : 1 ≤ k ∧ k ≤ far
  · have e1 := Hs.out
    have e2 := Hc.out
    rw [RS.put, if_pos hk] at e1
    rw [RS.putCode, if_pos hk] at e2
    have Hk := Lib.hid hk
    rw [show decide (1 ≤ k ∧ k ≤ far) = true from by simpa using hk]
    clear hk Hs Hc
    by_cases hb : k ≤ s.base
    · have t1 : decide (k ≤ s.base) = true := by simpa using hb
      rw [if_pos hb] at e1 e2
      subst e1 e2
      clear hb
      go_wp2_with (refine wpList_store_row (P := Try.prog) rfl 43 (.tmp 6) (.tmp 20) rfl (w.heap.size + 1) (refCells s'.base s'.top ad s'.l.length cap) rfl rfl 43 _ F.out.cell (size_row _ _ _ _ _) rfl (one_row _ _ _ _ _) ?_)
      exact ret_ref s'.base s'.top ad s'.l.length cap (w.heap.size + 1) rfl rfl (setRow_heap _ _ _ _ _ _ F.out.cell) rfl (coded_stored 0 F.out Hl.out hrm)
    · have t1 : decide (k ≤ s.base) = false := by simpa using hb
      rw [if_neg hb] at e1 e2
      clear hb
      have E1 := Lib.hid e1
      have E2 := Lib.hid e2
      clear e1 e2
      go_wp2_with fail
      refine (refGet_any s.base s.top ad cap s.l k wd (Hl.out.below F.out.bel) (by omega)).mono ?_
      rintro e w3 ⟨hg, hb'⟩
      unfold GetSays at hg
      have hf : FramedB w w3 s ad cap := ⟨(hb'.block _ (by have := F.out.size; omega)).trans F.out.box, (hb'.block _ (by have := F.out.size; omega)).trans F.out.cell, F.out.bel.trans (hb'.mono (by have := F.out.size; omega)), by have := F.out.size; have := hb'.size; omega⟩
      clear F c0 c1 c2 hb'
      clear wd
      obtain ⟨c0, c1, c2⟩ := ref_reads hf.box
      have F := Lib.hid hf
      clear hf
      cases hr : refGet s.l k with
      | some old =>
        have e1 := E1.out
        have e2 := E2.out
        rw [hr] at hg e1 e2
        simp only [Option.getD_some, Option.isSome_some] at hg e1 e2
        subst hg e1
        clear E1 E2 hr
        by_cases hov : old = v
        · have t2 : (old.toList == v.toList) = true := by simp [hov]
          rw [if_pos hov] at e2
          subst e2
          clear hov
          go_wp2_with (refine wpList_store_row (P := Try.prog) rfl 43 (.tmp 6) (.tmp 32) rfl (w.heap.size + 1) (refCells s'.base s'.top ad s'.l.length cap) rfl rfl 43 _ F.out.cell (size_row _ _ _ _ _) rfl (one_row _ _ _ _ _) ?_)
          exact ret_ref s'.base s'.top ad s'.l.length cap (w.heap.size + 1) rfl rfl (setRow_heap _ _ _ _ _ _ F.out.cell) rfl (coded_stored 0 F.out Hl.out hrm)
        · have t2 : (old.toList == v.toList) = false := by
            rw [beq_eq_false_iff_ne]
            exact fun h => hov (text_inj h)
          rw [if_neg hov] at e2
          subst e2
          clear hov
          go_wp2_with (refine wpList_store_row (P := Try.prog) rfl 43 (.tmp 6) (.tmp 31) rfl (w.heap.size + 1) (refCells s'.base s'.top ad s'.l.length cap) rfl rfl 43 _ F.out.cell (size_row _ _ _ _ _) rfl (one_row _ _ _ _ _) ?_)
          exact ret_ref s'.base s'.top ad s'.l.length cap (w.heap.size + 1) rfl rfl (setRow_heap _ _ _ _ _ _ F.out.cell) rfl (coded_stored 14 F.out Hl.out hrm)
      | none =>
        have e1 := E1.out
        have e2 := E2.out
        rw [hr] at hg e1 e2
        simp only [Option.getD_none, Option.isSome_none] at hg e1 e2
        subst hg e2
        have Hr := Lib.hid hr
        clear E1 E2 hr
        obtain ⟨i0, hi, hz0, hz1, hz2⟩ := info_parts infoI
        go_upto_region 11 with fail
        refine code_from (fun wd => FramedB w wd s ad cap ∧ RefIn wd w3.heap.size s.base s.top none 0 0 ∧ wd.heap.size = w3.heap.size + 1)
          ⟨⟨(Below.heap_alloc w3 _ _ (by have := F.out.size; omega)).trans F.out.box, (Below.heap_alloc w3 _ _ (by have := F.out.size; omega)).trans F.out.cell, F.out.bel.alloc (by have := F.out.size; omega) _, by have := F.out.size; simp; omega⟩, heap_alloc_new w3 _, by simp⟩ ?_
        have hlb0 : w.heap.size + 2 ≤ w3.heap.size := F.out.size
        clear c0 c1 c2 F
        generalize w3.heap.size = b2 at *
        clear w3
        rintro wd ⟨hf, h2, hz⟩
        have hld := Hl.out.below hf.bel
        have hlb : b2 < wd.heap.size := by omega
        have F := Lib.hid hf
        have H2 := Lib.hid h2
        have Hld := Lib.hid hld
        clear hf h2 hz hld
        go_wp2_with fail
        go_loopw [11] (fun i wr => ∃ (j n : Nat) (ao : Option Addr) (co : Nat), j ≤ s.l.length ∧ i = .int .i64 (j : Int) ∧ Cutting wd b2 s.base s.top (s.l.take j) ao n co wr ∧ ∀ x ∈ s.l.take j, under k x = true) (fun i _ => s.l.length - (intOf i).toNat)
        case atStart => exact ⟨0, 0, none, 0, by omega, rfl, ⟨rfl, H2.out, World.ownsRow_nil _ _ _ _, World.grownBy.refl _ _⟩, by simp⟩
        case round =>
          clear H2
          obtain ⟨j, n, ao, co, hj, rfl, hc, hall⟩ := hrel
          obtain rfl : n = j := by rw [hc.len]; simp; omega
          have hg := hc.grown
          have hgs := hg.size
          have h0r : RefIn wr w.heap.size s.base s.top ad s.l.length cap := (hg.block _ (by omega) (by intro e; injection e with e; omega)).trans F.out.box
          have h1r : RefIn wr (w.heap.size + 1) 0 0 none 0 0 := (hg.block _ (by omega) (by intro e; injection e with e; omega)).trans F.out.cell
          have hlr := Hl.out.grown Hld.out hg (by omega)
          obtain ⟨r0, r1, r2⟩ := ref_reads h0r
          obtain ⟨o0, o1, o2⟩ := ref_reads hc.out
          have fo := frozen_of_row wr b2 2 _ _ hc.out
          have HC := Lib.hid hc
          have H0r := Lib.hid h0r
          have H1r := Lib.hid h1r
          have Hall := Lib.hid hall
          clear hc hg h0r h1r hall
          by_cases hlt : n < s.l.length
          · have hx : s.l[n]? = some s.l[n] := List.getElem?_eq_getElem hlt
            generalize s.l[n] = x at hx
            obtain ⟨g, rfl, x0, x1⟩ := hlr n x hx
            have Hx := Lib.hid hx
            have Hlr := Lib.hid hlr
            clear hx hlr
            by_cases hp : x.1 < k
            · have t2 : decide (x.1 < k) = true := by simpa using hp
              have hin : under k x = true := by simp [under, hp]
              have z2 : ∀ ob, (wr.alloc ob).cell? ⟨b2, 2, none⟩ = some (.slice ao n co) := fun ob => cell_of_row _ _ 2 _ _ _ ((Below.heap_alloc wr ob b2 (by omega)).trans HC.out.out)
              go_upto_region 14 with fail
              go_region_law ((refine step_append_lies _ (by rfl) (.tmp 56) (.tmp 62) 38 (by rfl) wd.heap.size 33 i0 (.agg #[.int .u64 0, .string ByteArray.empty]) 2 24 Try.underlying38 hi hz0 hz1 hz2 rfl (by decide) _ n _ (by rfl) (HC.out.row.alloc _) ⟨wr.heap.size, 0, none⟩ 1 1 [.int .u64 x.1, .string x.2] (by rfl) rfl (World.news_of_block (heap_alloc_new wr _)) (by intro u hu; simp at hu; rcases hu with rfl | rfl <;> rfl) (by decide) (by unfold maxLen; omega) (by omega) (by simp; omega) (wr.heap.size + 1) (by simp) ?_; intro gg cc w2 hown hgr hat hlt2; obtain ⟨q1, q2⟩ := cutting_step HC.out hlb hown hgr (by exact ⟨rfl, rfl, rfl, by simp, fun i hi _ => Below.heap_alloc wr _ i hi⟩); have q3 := (ref_reads q1).2.2; have q4 := frozen_of_row w2 b2 2 _ _ q1; rw [← take_succ_of Hx.out] at q2; have HS := Lib.hid q2; clear q1 q2 hown hgr hat hlt2))
              all_goals
                go_wp2_with fail
                go_roundw
                case rel => exact ⟨n + 1, n + 1, _, cc, by omega, by go_num, HS.out, under_step Hx.out Hall.out hin⟩
                case measure => simp [intOf]; omega
            · have t2 : decide (x.1 < k) = false := by simpa using hp
              have hins : inserted s.l k v = s.l.take n ++ (k, v) :: s.l.drop n := while_at s.l n k Hall.out (fun y hy => by rw [Hx.out] at hy; cases hy; simp [under]; omega)
              have Hins := Lib.hid hins
              clear hins
              go_upto_region 16 with (at_builtin; refine wpList_append_lies _ (by rfl) (.tmp 66) (.tmp 70) 38 (by rfl) wd.heap.size 33 i0 (.agg #[.int .u64 0, .string ByteArray.empty]) 2 24 Try.underlying38 hi hz0 hz1 hz2 rfl (by decide) _ n _ (by rfl) (HC.out.row.alloc _) ⟨wr.heap.size, 0, none⟩ 1 1 [.int .u64 k, .string v] (by rfl) rfl (World.news_of_block (heap_alloc_new wr _)) (by intro u hu; simp at hu; rcases hu with rfl | rfl <;> rfl) (by decide) (by unfold maxLen; omega) (by omega) (by simp; omega) (wr.heap.size + 1) (by simp) ?_; intro gg cc w2 hown hgr hat hlt2; obtain ⟨q1, q2⟩ := cutting_step (x := (k, v)) HC.out hlb hown hgr (by exact ⟨rfl, rfl, rfl, by simp, fun i hi _ => Below.heap_alloc wr _ i hi⟩); have q3 := (ref_reads q1).2.2; have q4 := frozen_of_row w2 b2 2 _ _ q1; have HS := Lib.hid q2; clear q1 q2 hown hgr hat hlt2)
              refine code_from (fun wx => Cutting wd b2 s.base s.top (s.l.take n ++ [(k, v)]) (some ⟨gg, 0, none⟩) (n + 1) cc wx) HS.out ?_
              have hrm2 := hrm
              clear r0 r1 o0 o1 o2 r2 fo x0 x1 q3 q4 HS HC H0r H1r Hlr hp t2 hgs
              clear w2
              generalize wr.heap.size = bz
              clear wr
              rintro wr hc
              have hg := hc.grown
              have hgs := hg.size
              have h0r : RefIn wr w.heap.size s.base s.top (some ⟨g, 0, none⟩) s.l.length cap := (hg.block _ (by omega) (by intro e; injection e with e; omega)).trans F.out.box
              have h1r : RefIn wr (w.heap.size + 1) 0 0 none 0 0 := (hg.block _ (by omega) (by intro e; injection e with e; omega)).trans F.out.cell
              have hlr := Hl.out.grown Hld.out hg (by omega)
              obtain ⟨_, _, r2⟩ := ref_reads h0r
              obtain ⟨_, _, o2⟩ := ref_reads hc.out
              have HC := Lib.hid hc
              have H1r := Lib.hid h1r
              have Hlr := Lib.hid hlr
              clear hc hg h0r h1r hlr
              have hcap : n < cap := Nat.lt_of_lt_of_le hlt hrm.1
              have s1 : ¬ cap = n := by omega
              refine mix_begin (by kernel_rfl) ?_
              refine mix_piece 0 9 (fun w' => ∃ n, w' = wr.drewN n) (by kernel_rfl) ⟨1, rfl⟩ ?_
              simp only [Nat.reduceSub, List.take_succ_cons, List.take_zero, List.drop_zero]
              repeat (go_big_quiet_step (fail))
              refine wpQuiet_nil ?_
              rintro _ ⟨nr, rfl⟩
              refine mix_forced 9 rfl (by kernel_rfl) (by kernel_rfl) (fun K hK => ?_)
              refine wp_append_lies _ (.tmp 74) (.tmp 81) 38 (by rfl) wd.heap.size 33 i0 (.agg #[.int .u64 0, .string ByteArray.empty]) 2 24 Try.underlying38 hi hz0 hz1 hz2 rfl (by decide) _ (n + 1) _ (by rfl) (show World.ownsRow (wr.drewN nr) _ _ _ _ _ _ from HC.out.row) ⟨g, n * 2, none⟩ (s.l.length - n) (cap - n) (cellsOf (s.l.drop n)) (by rfl) (by rw [cellsOf_len, List.length_drop]) (lies_news (Hlr.out.drew nr) n) (cells_one _) (by omega) (by unfold maxLen; omega) (by omega) hgs _ rfl ?_
              intro g2 c2 w2 hown hgr hat hlt2
              obtain ⟨q1, q2⟩ := cutting_add (m := s.l.length - n) HC.out hlb (by simp) hown hgr (grown_drewN wr nr)
              rw [List.append_assoc, List.singleton_append, ← Hins.out] at q2
              have q3 := (ref_reads q1).2.2
              have q4 := frozen_of_row w2 b2 2 _ _ q1
              have HS := Lib.hid q2
              clear q1 q2 hown hgr hat hlt2
              refine hK _ _ ?_
              clear hK K
              refine mix_forced 10 rfl (by kernel_rfl) (by kernel_rfl) (fun K hK => ?_)
              go_simp
              refine hK _ _ ?_
              clear hK K
              refine mix_forced 11 rfl (by kernel_rfl) (by kernel_rfl) (fun K hK => ?_)
              go_simp
              refine hK _ _ ?_
              clear hK K
              refine mix_end 12 rfl (by kernel_rfl) ?_
              have hcell : RefIn (w2.setCell ⟨b2, 2, none⟩ (.slice (some ⟨g2, 0, none⟩) (n + 1 + (s.l.length - n)) c2)) (w.heap.size + 1) 0 0 none 0 0 := (HS.out.grown.block _ (by have := F.out.size; omega) (by intro e; injection e with e; omega)).trans F.out.cell
              have Hcell := Lib.hid hcell
              obtain ⟨p0, p1, p2⟩ := ref_reads HS.out.out
              clear hcell
              go_wp2_with (refine wpList_store_row (P := Try.prog) rfl 43 (.tmp 6) (.tmp 84) rfl (w.heap.size + 1) (refCells s.base s.top (some ⟨g2, 0, none⟩) (n + 1 + (s.l.length - n)) c2) rfl rfl 43 _ Hcell.out (size_row _ _ _ _ _) rfl (one_row _ _ _ _ _) ?_)
              rw [e1]
              exact ret_ref s.base s.top (some ⟨g2, 0, none⟩) (n + 1 + (s.l.length - n)) c2 (w.heap.size + 1) rfl rfl (setRow_heap _ _ _ _ _ _ Hcell.out) rfl (coded_cut F.out hlb0 HS.out)
          · obtain rfl : n = s.l.length := by omega
            have hins : inserted s.l k v = s.l.take s.l.length ++ (k, v) :: s.l.drop s.l.length := while_at s.l s.l.length k Hall.out (fun y hy => by rw [List.getElem?_eq_none (Nat.le_refl _)] at hy; cases hy)
            have Hins := Lib.hid hins
            clear hins
            go_upto_region 16 with (at_builtin; refine wpList_append_lies _ (by rfl) (.tmp 66) (.tmp 70) 38 (by rfl) wd.heap.size 33 i0 (.agg #[.int .u64 0, .string ByteArray.empty]) 2 24 Try.underlying38 hi hz0 hz1 hz2 rfl (by decide) _ s.l.length _ (by rfl) (HC.out.row.alloc _) ⟨wr.heap.size, 0, none⟩ 1 1 [.int .u64 k, .string v] (by rfl) rfl (World.news_of_block (heap_alloc_new wr _)) (by intro u hu; simp at hu; rcases hu with rfl | rfl <;> rfl) (by decide) (by unfold maxLen; omega) (by omega) (by simp; omega) (wr.heap.size + 1) (by simp) ?_; intro gg cc w2 hown hgr hat hlt2; obtain ⟨q1, q2⟩ := cutting_step (x := (k, v)) HC.out hlb hown hgr (by exact ⟨rfl, rfl, rfl, by simp, fun i hi _ => Below.heap_alloc wr _ i hi⟩); have q3 := (ref_reads q1).2.2; have q4 := frozen_of_row w2 b2 2 _ _ q1; have HS := Lib.hid q2; clear q1 q2 hown hgr hat hlt2)
            refine code_from (fun wx => Cutting wd b2 s.base s.top (s.l.take s.l.length ++ [(k, v)]) (some ⟨gg, 0, none⟩) (s.l.length + 1) cc wx) HS.out ?_
            clear r0 r1 o0 o1 o2 r2 fo q3 q4 HS HC H0r H1r hgs hlr
            clear w2
            generalize wr.heap.size = bz
            clear wr
            rintro wr hc
            have hg := hc.grown
            have hgs := hg.size
            have h0r : RefIn wr w.heap.size s.base s.top ad s.l.length cap := (hg.block _ (by omega) (by intro e; injection e with e; omega)).trans F.out.box
            have h1r : RefIn wr (w.heap.size + 1) 0 0 none 0 0 := (hg.block _ (by omega) (by intro e; injection e with e; omega)).trans F.out.cell
            obtain ⟨_, _, r2⟩ := ref_reads h0r
            obtain ⟨_, _, o2⟩ := ref_reads hc.out
            have HC := Lib.hid hc
            have H1r := Lib.hid h1r
            clear hc hg h0r h1r
            have hcap : s.l.length ≤ cap := hrm.1
            refine mix_begin (by kernel_rfl) ?_
            refine mix_piece 0 9 (fun w' => ∃ n, w' = wr.drewN n) (by kernel_rfl) ⟨1, rfl⟩ ?_
            simp only [Nat.reduceSub, List.take_succ_cons, List.take_zero, List.drop_zero]
            repeat (go_big_quiet_step (fail))
            refine wpQuiet_nil ?_
            rintro _ ⟨nr, rfl⟩
            refine mix_forced 9 rfl (by kernel_rfl) (by kernel_rfl) (fun K hK => ?_)
            refine wp_append_nothing (.tmp 74) (.tmp 81) (by rfl) (some ⟨gg, 0, none⟩) (s.l.length + 1) cc (room_of_owns HC.out.row).1 _ _ (by rfl) (by rfl) ?_
            have hq := HC.out.drew nr
            have q3 := (ref_reads hq.out).2.2
            have q4 := frozen_of_row (wr.drewN nr) b2 2 _ _ hq.out
            have q2 := cutting_again hq hlb
            rw [show s.l.take s.l.length ++ [(k, v)] = inserted s.l k v by rw [Hins.out, List.drop_length]] at q2
            have HS := Lib.hid q2
            clear q2 hq
            refine hK _ _ ?_
            clear hK K
            refine mix_forced 10 rfl (by kernel_rfl) (by kernel_rfl) (fun K hK => ?_)
            go_simp
            refine hK _ _ ?_
            clear hK K
            refine mix_forced 11 rfl (by kernel_rfl) (by kernel_rfl) (fun K hK => ?_)
            go_simp
            refine hK _ _ ?_
            clear hK K
            refine mix_end 12 rfl (by kernel_rfl) ?_
            have hcell : RefIn ((wr.drewN nr).setCell ⟨b2, 2, none⟩ (.slice (some ⟨gg, 0, none⟩) (s.l.length + 1) cc)) (w.heap.size + 1) 0 0 none 0 0 := (HS.out.grown.block _ (by have := F.out.size; omega) (by intro e; injection e with e; omega)).trans F.out.cell
            have Hcell := Lib.hid hcell
            obtain ⟨p0, p1, p2⟩ := ref_reads HS.out.out
            clear hcell
            go_wp2_with (refine wpList_store_row (P := Try.prog) rfl 43 (.tmp 6) (.tmp 84) rfl (w.heap.size + 1) (refCells s.base s.top (some ⟨gg, 0, none⟩) (s.l.length + 1) cc) rfl rfl 43 _ Hcell.out (size_row _ _ _ _ _) rfl (one_row _ _ _ _ _) ?_)
            all_goals try rw [e1]
            all_goals exact ret_ref s.base s.top (some ⟨gg, 0, none⟩) (s.l.length + 1) cc (w.heap.size + 1) rfl rfl (setRow_heap _ _ _ _ _ _ Hcell.out) rfl (coded_cut F.out hlb0 HS.out)
  · have t1 : decide (1 ≤ k ∧ k ≤ far) = false := by simpa using hk
    have e1 := Hs.out
    have e2 := Hc.out
    rw [RS.put, if_neg hk] at e1
    rw [RS.putCode, if_neg hk] at e2
    subst e1 e2
    rw [t1]
    clear hk
    go_wp2_with (refine wpList_store_row (P := Try.prog) rfl 43 (.tmp 6) (.tmp 15) rfl (w.heap.size + 1) (refCells s'.base s'.top ad s'.l.length cap) rfl rfl 43 _ F.out.cell (size_row _ _ _ _ _) rfl (one_row _ _ _ _ _) ?_)
    exact ret_ref s'.base s'.top ad s'.l.length cap (w.heap.size + 1) rfl rfl (setRow_heap _ _ _ _ _ _ F.out.cell) rfl (coded_stored 2 F.out Hl.out hrm)
end Go.Proofs.Ytfkofdhobhalpaa
