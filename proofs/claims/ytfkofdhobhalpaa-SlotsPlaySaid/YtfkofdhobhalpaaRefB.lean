/-
  THE WALK of the reference row's Items.
-/
import Derived.Test.YtfkofdhobhalpaaRefA
namespace Go.Proofs.Ytfkofdhobhalpaa
open Go.RowKit Go.Maps Go.BigFrame

/-- Is an item asked for? -/
def inB (s top : Int) (x : Item) : Bool := decide (s ≤ x.1) && decide (x.1 ≤ top)
def refItems (s top most : Int) (l : List Item) : List Item := (l.filter (inB s top)).take most.toNat
theorem take_succ_of {l : List Item} {j : Nat} {x : Item} (h : l[j]? = some x) : l.take (j + 1) = l.take j ++ [x] := by
  rw [List.take_add_one, h]; rfl
theorem filter_step_yes {l : List Item} {j : Nat} {x : Item} {p : Item → Bool} (h : l[j]? = some x) (hp : p x = true) : (l.take (j + 1)).filter p = (l.take j).filter p ++ [x] := by
  rw [take_succ_of h, List.filter_append]; simp [hp]
theorem filter_step_no {l : List Item} {j : Nat} {x : Item} {p : Item → Bool} (h : l[j]? = some x) (hp : p x = false) : (l.take (j + 1)).filter p = (l.take j).filter p := by
  rw [take_succ_of h, List.filter_append]; simp [hp]
theorem items_stop {l : List Item} {s top most : Int} {j : Nat} (h1 : (((l.take j).filter (inB s top)).length : Int) ≤ max most 0) (h2 : most ≤ (((l.take j).filter (inB s top)).length : Int)) : (l.take j).filter (inB s top) = refItems s top most l := by
  unfold refItems
  have e : l.filter (inB s top) = (l.take j).filter (inB s top) ++ (l.drop j).filter (inB s top) := by rw [← List.filter_append, List.take_append_drop]
  rw [e, List.take_append_of_le_length (by omega)]
  exact (List.take_of_length_le (by omega)).symm
theorem items_end {l : List Item} {s top most : Int} (h1 : ((l.filter (inB s top)).length : Int) ≤ max most 0) : l.filter (inB s top) = refItems s top most l := by
  unfold refItems
  exact (List.take_of_length_le (by omega)).symm
theorem filter_le (l : List Item) (j : Nat) (p : Item → Bool) : ((l.take j).filter p).length ≤ l.length := by
  have h1 := List.length_filter_le p (l.take j)
  have h2 : (l.take j).length ≤ l.length := by simp; omega
  omega

/-- What a loop of appends has laid, beside a box that stays. -/
def Heaped (wd : World) (n : Nat) (v : Value) (o : List Item) (wr : World) : Prop := n = o.length ∧ wr.ownsRow wd.heap.size 33 2 v n (cellsOf o) ∧ Below wd.heap.size wd wr
theorem heaped_step {wd wr w1 : World} {n : Nat} {v v' : Value} {o : List Item} {x : Item} {ob : Obj} (h : Heaped wd n v o wr) (ho : w1.ownsRow wd.heap.size 33 2 v' (n + 1) (cellsOf o ++ [.int .u64 x.1, .string x.2]))
    (hg : (wr.alloc ob).grownBy w1 v.ownBlock) : Heaped wd (n + 1) v' (o ++ [x]) w1 := by
  refine ⟨by simp [h.1], by rw [cellsOf_snoc]; exact ho, ?_⟩
  exact (h.2.2.alloc h.2.2.size ob).grown hg (by have := h.2.2.size; simp; omega) (fun j hj => (h.2.1.lt j hj).1)
theorem Heaped.drew {wd wr : World} {n : Nat} {v : Value} {o : List Item} (h : Heaped wd n v o wr) (k : Nat) : Heaped wd n v o (wr.drewN k) := ⟨h.1, h.2.1, drawn h.2.2 k⟩

theorem own_mono {w : World} {B B' : Nat} {e : TypeId} {size : Nat} {v : Value} {n : Nat} {xs : List Value} (h : w.ownsRow B e size v n xs) (hB : B' ≤ B) : w.ownsRow B' e size v n xs := by
  obtain ⟨hl, h2⟩ := h
  refine ⟨hl, ?_⟩
  rcases h2 with h2 | ⟨g, cap, cur, h3, h4, h5⟩
  · exact Or.inl h2
  · exact Or.inr ⟨g, cap, cur, h3, by omega, h5⟩
set_option maxRecDepth 100000 in
set_option maxHeartbeats 1600000 in
theorem refItems_any (base top : Int) (ad : Option Addr) (cap : Nat) (l : List Item) (s most : Int) (w : World) (hl : Lies w ad l) (hn : l.length ≤ 1000) :
    Calls Try.prog 26 #[.agg (refCells base top ad l.length cap), .int .u64 s, .int .i64 most] w fun r w' => (∃ v, r = .returned v ∧ Rows' w' w.heap.size v (refItems s top most l)) ∧ Below w.heap.size w w' := by
  obtain ⟨i0, hi, hz0, hz1, hz2⟩ := info_parts infoI
  have hb : Below w.heap.size w (w.alloc (.cells (refCells base top ad l.length cap) 43 (0, 0))) := (Below.refl _ _).alloc (Nat.le_refl _) _
  have Hl := Lib.hid (hl.below hb)
  have c1 : (w.alloc (.cells (refCells base top ad l.length cap) 43 (0, 0))).cell? ⟨w.heap.size, 1, none⟩ = some (.int .u64 top) := cell_of_row _ _ 1 _ _ _ (heap_alloc_new w _)
  have c2 : (w.alloc (.cells (refCells base top ad l.length cap) 43 (0, 0))).cell? ⟨w.heap.size, 2, none⟩ = some (.slice ad l.length cap) := cell_of_row _ _ 2 _ _ _ (heap_alloc_new w _)
  have hz : w.heap.size < (w.alloc (.cells (refCells base top ad l.length cap) 43 (0, 0))).heap.size := by simp
  have Hb := Lib.hid hb
  clear hl hb
  go_enter Try.func26, Try.ntmps26
  go_wp2_with fail
  generalize w.alloc (.cells (refCells base top ad l.length cap) 43 (0, 0)) = wd at *
  have C1 := Lib.hid c1
  have C2 := Lib.hid c2
  clear c1 c2
  go_loopw [7, 8] (fun o i wr => ∃ (j n : Nat) (ao : Option Addr) (co : Nat), j ≤ l.length ∧ i = .int .i64 (j : Int) ∧ o = .slice ao n co ∧ Heaped wd n o ((l.take j).filter (inB s top)) wr ∧ (n : Int) ≤ max most 0) (fun _ i _ => l.length - (intOf i).toNat)
  case atStart => exact ⟨0, 0, none, 0, by omega, rfl, rfl, ⟨rfl, World.ownsRow_nil _ _ _ _, Below.refl _ _⟩, by omega⟩
  case round =>
    obtain ⟨j, n, ao, co, hj, rfl, rfl, hh, hmo⟩ := hrel
    have hbw := hh.2.2
    have hnl : n ≤ l.length := by rw [hh.1]; exact filter_le _ _ _
    have hzs := hbw.size
    have HH := Lib.hid hh
    have c1 : wr.cell? ⟨w.heap.size, 1, none⟩ = some (.int .u64 top) := (hbw.cell (by exact hz)).trans C1.out
    have c2 : wr.cell? ⟨w.heap.size, 2, none⟩ = some (.slice ad l.length cap) := (hbw.cell (by exact hz)).trans C2.out
    have hlr := Hl.out.below hbw
    have Hbw := Lib.hid hbw
    clear hh hbw
    by_cases hlt : j < l.length
    · by_cases hm : (n : Int) < most
      · have hx : l[j]? = some l[j] := List.getElem?_eq_getElem hlt
        generalize l[j] = x at hx
        obtain ⟨g, rfl, x0, x1⟩ := hlr j x hx
        have Hx := Lib.hid hx
        clear hx hlr
        by_cases hp1 : s ≤ x.1
        · have t1 : decide (s ≤ x.1) = true := by simpa using hp1
          by_cases hp2 : x.1 ≤ top
          · have t2 : decide (x.1 ≤ top) = true := by simpa using hp2
            have hin : inB s top x = true := by simp [inB, hp1, hp2]
            go_upto_region 5 with fail
            go_quiet (fail)
            go_wp2_with (at_builtin; refine wpList_append_own _ rfl (.tmp 41) (.tmp 47) 38 rfl wd.heap.size 33 i0 (.agg #[.int .u64 0, .string ByteArray.empty]) 2 24 Try.underlying38 hi hz0 hz1 hz2 rfl (by decide) _ n _ rfl (((HH.out.drew nq).2.1).alloc _) ⟨wr.heap.size, 0, none⟩ 1 1 [.int .u64 x.1, .string x.2] rfl rfl (World.news_of_block (heap_alloc_new (wr.drewN nq) _)) (by intro u hu; simp at hu; rcases hu with rfl | rfl <;> rfl) (by unfold maxLen; omega) (by omega) (by simp; omega) ?_; intro v' w2 hown hgr _)
            have hs2 := heaped_step (HH.out.drew nq) hown hgr
            obtain ⟨ad', cap', rfl⟩ := own_form hown
            rw [← filter_step_yes Hx.out hin] at hs2
            have HS := Lib.hid hs2
            clear hs2 hown hgr
            go_wp2_with fail
            go_roundw
            case rel => exact ⟨j + 1, n + 1, ad', cap', by omega, by go_num, rfl, HS.out, by push_cast; omega⟩
            case measure => simp [intOf]; omega
          · have t2 : decide (x.1 ≤ top) = false := by simpa using hp2
            have hin : inB s top x = false := by simp [inB]; omega
            go_upto_region 5 with fail
            go_quiet (fail)
            go_wp2_with fail
            go_roundw
            case rel => exact ⟨j + 1, n, ao, co, by omega, by go_num, rfl, by rw [filter_step_no Hx.out hin]; exact HH.out.drew _, hmo⟩
            case measure => simp [intOf]; omega
        · have t1 : decide (s ≤ x.1) = false := by simpa using hp1
          have hin : inB s top x = false := by simp [inB]; omega
          go_upto_region 5 with fail
          go_quiet (fail)
          go_wp2_with fail
          go_roundw
          case rel => exact ⟨j + 1, n, ao, co, by omega, by go_num, rfl, by rw [filter_step_no Hx.out hin]; exact HH.out.drew _, hmo⟩
          case measure => simp [intOf]; omega
      · go_wp2_with fail
        go_ret
        have hh := HH.out
        have e1 := items_stop (l := l) (s := s) (top := top) (most := most) (j := j) (by rw [← hh.1]; exact hmo) (by rw [← hh.1]; omega)
        refine ⟨⟨_, rfl, ?_⟩, Hb.out.trans (Hbw.out.mono Hb.out.size)⟩
        unfold Rows'
        rw [← e1, ← hh.1]
        exact own_mono hh.2.1 (by omega)
    · have hjl : j = l.length := by omega
      subst hjl
      go_wp2_with fail
      go_ret
      have hh := HH.out
      rw [List.take_length] at hh
      have e1 := items_end (l := l) (s := s) (top := top) (most := most) (by rw [← hh.1]; exact hmo)
      refine ⟨⟨_, rfl, ?_⟩, Hb.out.trans (Hbw.out.mono Hb.out.size)⟩
      unfold Rows'
      rw [← e1, ← hh.1]
      exact own_mono hh.2.1 (by omega)
end Go.Proofs.Ytfkofdhobhalpaa
