/-
  THE WALK of wakes: a row that is known.
-/
import Derived.Test.YtfkofdhobhalpaaEq
namespace Go.Proofs.Ytfkofdhobhalpaa
open Go.RowKit Go.Maps Go.BigFrame

abbrev tA : ByteArray := ⟨#[97]⟩
abbrev tB : ByteArray := ⟨#[98]⟩
abbrev tC : ByteArray := ⟨#[99]⟩
def M1 : Vals := Vals.none.put 2 tB
def M2 : Vals := M1.put 1 tA
theorem v1 : putVals 0 Vals.none 2 tB = M1 := by
  unfold putVals
  rw [if_pos ⟨⟨by decide, by decide⟩, by decide, Or.inl rfl⟩]
  rfl
theorem v2 : putVals 0 M1 1 tA = M2 := by
  unfold putVals
  rw [if_pos ⟨⟨by decide, by decide⟩, by decide, Or.inl rfl⟩]
  rfl
theorem bc : tB ≠ tC := by decide
theorem m22 : M2 2 = some tB := rfl
theorem v3 : putVals 0 M2 2 tC = M2 := by
  unfold putVals
  rw [if_neg]
  rintro ⟨_, _, h | h⟩
  · cases h
  · rw [m22] at h; exact bc (Option.some.inj h)
theorem c1 : putCode 0 Vals.none 2 tB = 0 := rfl
theorem c2 : putCode 0 M1 1 tA = 0 := rfl
theorem c3 : putCode 0 M2 2 tC = 14 := by
  unfold putCode
  rw [if_pos ⟨by decide, by decide⟩, if_neg (by decide), m22]
  simp only [if_neg bc]
theorem item_row {w : World} {g m : Nat} {base top : Int} {n : Nat} {M : Vals} (h : RowAt w g m base top n M) (o : Obj) (cs : Array Value) : RowAt ((w.alloc o).setRow w.heap.size cs) g m base top n M :=
  (h.alloc o).setRow (by have := h.lt; omega) (by have := h.mlt; omega) cs
theorem item_below {a w : World} (h : Below a.heap.size a w) (o : Obj) (cs : Array Value) : Below a.heap.size a ((w.alloc o).setRow w.heap.size cs) := below_setRow (h.alloc h.size _) h.size _
theorem item_new {w : World} {k : Int} {v : ByteArray} {cs : Array Value} : ItemIn ((w.alloc (.cells cs 33 (0, 0))).setRow w.heap.size (item k v)) w.heap.size k v := setRow_heap _ _ _ _ _ _ (heap_alloc_new w _)
theorem old_item {w : World} {b : Nat} {k : Int} {v : ByteArray} (h : ItemIn w b k v) (o : Obj) (cs : Array Value) : ItemIn ((w.alloc o).setRow w.heap.size cs) b k v := by
  have hlt := block_lt h
  exact (setRow_other _ _ _ _ (by omega)).trans ((Below.heap_alloc w o b hlt).trans h)
theorem item_only {w w' : World} {g m b : Nat} {k : Int} {v : ByteArray} (h : ItemIn w b k v) (ho : Only w w' g m) (hg : b ≠ g) (hm : b ≠ m) : ItemIn w' b k v := (ho.block b (block_lt h) hg hm).trans h
theorem rows_form {w : World} {B : Nat} {v : Value} {l : List Item} (h : Rows' w B v l) : ∃ ad cap, v = .slice ad l.length cap := own_form h

set_option maxRecDepth 100000 in
set_option maxHeartbeats 3200000 in
theorem wakes_any (w : World) : Calls Try.prog 8 #[] w fun r w' => r = .returned (.bool true) ∧ Below w.heap.size w w' := by
  go_enter Try.func8, Try.ntmps8
  go_wp2_with fail
  refine (new_yes 0 _ (by decide)).mono ?_
  rintro e w1 ⟨rfl, hr, hb⟩
  go_wp2_with fail
  refine (put_any 2 tB hr (by decide) (by decide) (by decide)).mono ?_
  rintro e w2 ⟨rfl, hr2, ho⟩
  rw [v1] at hr2
  rw [c1]
  replace hb := below_only hb ho (by omega) (by omega)
  clear hr ho w1
  go_wp2_with fail
  refine (next_any (w.heap.size + 1) w.heap.size _ _ _ _ _ hr2 (by decide) (by decide)).mono ?_
  rintro e w3 ⟨hno, hyes, ho⟩
  obtain ⟨rfl, hr⟩ := hno rfl
  replace hb := below_only hb ho (by omega) (by omega)
  clear hr2 ho hno hyes w2
  go_upto_region 6 with (first | (refine wpList_store_row (P := Try.prog) rfl 33 (.tmp 4) (.tmp 28) rfl w3.heap.size (item 0 ByteArray.empty) rfl rfl 33 _ (heap_alloc_new w3 _) (size_item _ _) rfl (one_item _ _) ?_))
  refine code_from (fun wd => RowAt wd (w.heap.size + 1) w.heap.size 0 0 (0 + 1) M1 ∧ Below w.heap.size w wd) ⟨item_row hr _ _, item_below hb _ _⟩ ?_
  clear hr hb
  generalize w3.heap.size = b4
  clear w3
  rintro w3 ⟨hr, hb⟩
  go_wp2_with fail
  refine (put_any 1 tA hr (by decide) (by decide) (by decide)).mono ?_
  rintro e w2 ⟨rfl, hr2, ho⟩
  rw [v2] at hr2
  rw [c2]
  replace hb := below_only hb ho (by omega) (by omega)
  clear hr ho w3
  go_wp2_with fail
  refine (next_any (w.heap.size + 1) w.heap.size _ _ _ _ _ hr2 (by decide) (by decide)).mono ?_
  rintro e w3 ⟨hno, hyes, ho⟩
  obtain ⟨rfl, hr⟩ := hyes tA rfl
  replace hb := below_only hb ho (by omega) (by omega)
  clear hr2 ho hno hyes w2
  go_upto_region 8 with (first | (refine wpList_store_row (P := Try.prog) rfl 33 (.tmp 7) (.tmp 35) rfl w3.heap.size (item (0 + 1) tA) rfl rfl 33 _ (heap_alloc_new w3 _) (size_item _ _) rfl (one_item _ _) ?_))
  refine code_from (fun wd => ItemIn wd w3.heap.size 1 tA ∧ RowAt wd (w.heap.size + 1) w.heap.size 0 1 (0 + 1 + 1) M2 ∧ Below w.heap.size w wd) ⟨item_new, item_row hr _ _, item_below hb _ _⟩ ?_
  have h7 : w.heap.size + 1 < w3.heap.size := hr.lt
  clear hr hb
  generalize w3.heap.size = b7 at *
  clear w3
  rintro w3 ⟨hi, hr, hb⟩
  go_wp2_with fail
  refine (next_any (w.heap.size + 1) w.heap.size _ _ _ _ _ hr (by decide) (by decide)).mono ?_
  rintro e w4 ⟨hno, hyes, ho⟩
  obtain ⟨rfl, hr2⟩ := hyes tB rfl
  replace hb := below_only hb ho (by omega) (by omega)
  replace hi := item_only hi ho (by omega) (by omega)
  clear hr ho hno hyes w3
  go_upto_region 9 with (first | (refine wpList_store_row (P := Try.prog) rfl 33 (.tmp 9) (.tmp 40) rfl w4.heap.size (item (1 + 1) tB) rfl rfl 33 _ (heap_alloc_new w4 _) (size_item _ _) rfl (one_item _ _) ?_))
  refine code_from (fun wd => ItemIn wd w4.heap.size 2 tB ∧ ItemIn wd b7 1 tA ∧ RowAt wd (w.heap.size + 1) w.heap.size 0 2 (0 + 1 + 1) M2 ∧ Below w.heap.size w wd) ⟨item_new, old_item hi _ _, item_row hr2 _ _, item_below hb _ _⟩ ?_
  have h9 : w.heap.size + 1 < w4.heap.size := hr2.lt
  clear hr2 hb hi
  generalize w4.heap.size = b9 at *
  clear w4
  rintro w3 ⟨hj, hi, hr, hb⟩
  go_wp2_with fail
  refine (put_any 2 tC hr (by decide) (by decide) (by decide)).mono ?_
  rintro e w2 ⟨rfl, hr2, ho⟩
  rw [v3] at hr2
  rw [c3]
  replace hb := below_only hb ho (by omega) (by omega)
  replace hi := item_only hi ho (by omega) (by omega)
  replace hj := item_only hj ho (by omega) (by omega)
  clear hr ho w3
  go_wp2_with fail
  refine (items_any 0 9 hr2 (by decide) (by decide) (by decide) (by decide) (by decide) (by decide)).mono ?_
  rintro e w3 ⟨⟨v, rfl, hv⟩, hb2⟩
  obtain ⟨ad, cap, rfl⟩ := rows_form hv
  rw [itemsFrom_len, show howMany 0 2 0 9 = 2 from by decide]
  have hr := hr2.below hb2 (Nat.le_refl _)
  replace hb := hb.trans (hb2.mono hb.size)
  replace hi : ItemIn w3 b7 1 tA := (hb2.block _ (block_lt hi)).trans hi
  replace hj : ItemIn w3 b9 2 tB := (hb2.block _ (block_lt hj)).trans hj
  clear hr2 hb2 hv w2
  have i0 : w3.cell? ⟨b7, 0, none⟩ = some (.int .u64 1) := cell_of_row _ _ 0 _ _ _ hi
  have i1 : w3.cell? ⟨b7, 1, none⟩ = some (.string tA) := cell_of_row _ _ 1 _ _ _ hi
  have j0 : w3.cell? ⟨b9, 0, none⟩ = some (.int .u64 2) := cell_of_row _ _ 0 _ _ _ hj
  have hgi := guard_item
  have heq : ∀ wx, (binOp .eql 33 (.agg #[.int .u64 1, .string tA]) (.agg #[.int .u64 1, .string tA])).run Try.prog wx = .ok (.bool true) wx := fun wx => by rw [eq_item, same_self]
  go_wp2_with fail
  refine (top_any hr).mono ?_
  rintro e w2 ⟨rfl, rfl⟩
  go_wp2_with fail
  refine (keep_any 1 hr).mono ?_
  rintro e w2 ⟨k, rfl, hno, hyes, ho⟩
  obtain ⟨rfl, hr2, _⟩ := hyes (by decide) (by decide)
  replace hr2 := hr2 (by decide)
  replace hb := below_only hb ho (by omega) (by omega)
  clear hno hyes ho hr
  go_wp2_with fail
  refine (base_any hr2).mono ?_
  rintro e w4 ⟨rfl, rfl⟩
  go_wp2_with fail
  go_ret
  exact ⟨rfl, hb⟩
end Go.Proofs.Ytfkofdhobhalpaa
