/-
  THE WALKS of a row's Items.
-/
import Derived.Test.YtfkofdhobhalpaaPut
import Derived.Laws.AppendOwn
import Derived.Maps.AppendAt
import Derived.Deep.AppendLies
import Derived.OwnWalk
namespace Go.Proofs.Ytfkofdhobhalpaa
open Go.RowKit Go.Maps Go.BigFrame

/-- An item: a slot and its value. -/
abbrev Item := Int × ByteArray
def cellsOf (l : List Item) : List Value := l.flatMap fun x => [.int .u64 x.1, .string x.2]
/-- The items of a row from a slot on, so many. -/
def itemsFrom (M : Vals) (s : Int) (c : Nat) : List Item := (List.range c).map fun (i : Nat) => (s + (i : Int), (M (s + (i : Int))).getD ByteArray.empty)
theorem itemsFrom_len (M : Vals) (s : Int) (c : Nat) : (itemsFrom M s c).length = c := by simp [itemsFrom]
theorem itemsFrom_succ (M : Vals) (s : Int) (c : Nat) : itemsFrom M s (c + 1) = itemsFrom M s c ++ [(s + (c : Int), (M (s + (c : Int))).getD ByteArray.empty)] := by
  simp [itemsFrom, List.range_succ]
theorem cellsOf_snoc (l : List Item) (x : Item) : cellsOf (l ++ [x]) = cellsOf l ++ [.int .u64 x.1, .string x.2] := by simp [cellsOf]
theorem cellsOf_len (l : List Item) : (cellsOf l).length = l.length * 2 := by
  induction l with
  | nil => rfl
  | cons x l ih => simp only [cellsOf, List.flatMap_cons, List.length_append, List.length_cons, List.length_nil] at ih ⊢; omega
/-- How many there are. -/
def howMany (base top s most : Int) : Nat := (min (top + 1 - max s (base + 1)) most).toNat
/-- A slice of the call's own: items. -/
def Rows' (w : World) (B : Nat) (v : Value) (l : List Item) : Prop := w.ownsRow B 33 2 v l.length (cellsOf l)
theorem infoI : (Try.prog.info? 33).map (fun i => (i.zero, i.size, i.bytes)) = some (some (.agg #[.int .u64 0, .string ByteArray.empty]), 2, 24) := by kernel_rfl

theorem own_form {w : World} {B : Nat} {e : TypeId} {size : Nat} {v : Value} {n : Nat} {xs : List Value} (h : w.ownsRow B e size v n xs) : ∃ ad cap, v = .slice ad n cap := by
  obtain ⟨_, ⟨rfl, rfl⟩ | ⟨g, cap, cur, rfl, _⟩⟩ := h
  · exact ⟨none, 0, rfl⟩
  · exact ⟨_, cap, rfl⟩
section
variable {w : World} {g m : Nat} {base top : Int} {n : Nat} {M : Vals}
/-- What a loop over slots from s0 on has laid. -/
def Laid (w : World) (M : Vals) (s0 : Int) (k : Nat) (v : Value) (wr : World) : Prop := wr.ownsRow w.heap.size 33 2 v k (cellsOf (itemsFrom M s0 k)) ∧ Below w.heap.size w wr
theorem laid_start (w : World) (M : Vals) (s0 : Int) : Laid w M s0 0 (.slice none 0 0) w := ⟨World.ownsRow_nil _ _ _ _, Below.refl _ _⟩
theorem laid_step {w wr w1 : World} {M : Vals} {s0 : Int} {k : Nat} {v v' : Value} {o : Obj} (h : Laid w M s0 k v wr) (ho : w1.ownsRow w.heap.size 33 2 v' (k + 1) (cellsOf (itemsFrom M s0 k) ++ [.int .u64 (s0 + (k : Int)), .string ((M (s0 + (k : Int))).getD ByteArray.empty)]))
    (hg : (wr.alloc o).grownBy w1 v.ownBlock) : Laid w M s0 (k + 1) v' w1 := by
  refine ⟨by rw [itemsFrom_succ, cellsOf_snoc]; exact ho, ?_⟩
  exact (h.2.alloc h.2.size o).grown hg (by have := h.2.size; simp; omega) (fun j hj => (h.1.lt j hj).1)
set_option maxRecDepth 100000 in
set_option maxHeartbeats 1600000 in
theorem items_any (s most : Int) (h : RowAt w g m base top n M) (h0 : 0 ≤ base) (h1 : base ≤ top) (h2 : top ≤ 4611686018427387904) (h3 : top - base ≤ 1000) (hs0 : 0 ≤ s) (hs1 : s < 18446744073709551616) :
    Calls Try.prog 13 #[.pointer (some ⟨g, 0, none⟩), .int .u64 s, .int .i64 most] w fun r w' => (∃ v, r = .returned v ∧ Rows' w' w.heap.size v (itemsFrom M (max s (base + 1)) (howMany base top s most))) ∧ Below w.heap.size w w' := by
  obtain ⟨i0, hi, hz0, hz1, hz2⟩ := info_parts infoI
  have H := Lib.hid h
  clear h
  by_cases hsb : s ≤ base
  · have hmx : max s (base + 1) = base + 1 := by omega
    have Hmx := Lib.hid hmx
    clear hmx
    go_enter Try.func13, Try.ntmps13
    go_wp2_with fail
    refine (base_any H.out).mono ?_
    rintro e w1 ⟨rfl, rfl⟩
    go_wp2_with fail
    go_loopw [7, 8] (fun o x wr => ∃ (k : Nat) (ad : Option Addr) (cap : Nat), k ≤ (min (top + 1 - (base + 1)) most).toNat ∧ o = .slice ad k cap ∧ x = .int .u64 (base + 1 + (k : Int)) ∧ Laid w M (base + 1) k o wr) (fun _ x _ => (top + 1 - intOf x).toNat)
    case atStart => exact ⟨0, none, 0, by omega, rfl, by simp, laid_start _ _ _⟩
    case round =>
      obtain ⟨k, ad, cap, hk, rfl, rfl, hl⟩ := hrel
      have hL := Lib.hid hl
      have hz := hl.2.size
      clear hl
      by_cases hA : base + 1 + (k : Int) ≤ top
      · by_cases hB : (k : Int) < most
        · have hU : U (base + 1 + (k : Int)) := u_iff.2 ⟨by omega, by omega⟩
          have HU := Lib.hid hU
          clear hU
          go_wp2_with fail
          refine (top_any (H.out.below hL.out.2 (Nat.le_refl _))).mono ?_
          rintro e w1 ⟨rfl, rfl⟩
          go_wp2_with fail
          refine (get_any (H.out.below hL.out.2 (Nat.le_refl _)) _ HU.out).mono ?_
          rintro e w1 ⟨rfl, rfl⟩
          go_wp2_with (at_builtin; refine wpList_append_own _ rfl (.tmp 34) (.tmp 38) 38 rfl w.heap.size 33 i0 (.agg #[.int .u64 0, .string ByteArray.empty]) 2 24 Try.underlying38 hi hz0 hz1 hz2 rfl (by decide) _ k _ rfl (hL.out.1.alloc _) ⟨wr.heap.size, 0, none⟩ 1 1 [.int .u64 (base + 1 + (k : Int)), .string ((M (base + 1 + (k : Int))).getD ByteArray.empty)] rfl rfl (World.news_of_block (heap_alloc_new wr _)) (by intro u hu; simp at hu; rcases hu with rfl | rfl <;> rfl) (by unfold maxLen; omega) (by omega) (by simp; omega) ?_; intro v' w2 hown hgr _)
          have hs2 := laid_step hL.out hown hgr
          obtain ⟨ad', cap', rfl⟩ := own_form hown
          have HS := Lib.hid hs2
          clear hs2 hown hgr
          go_wp2_with fail
          go_roundw
          case rel => exact ⟨k + 1, ad', cap', by omega, rfl, by go_num, HS.out⟩
          case measure => simp [intOf]; omega
        · go_wp2_with fail
          refine (top_any (H.out.below hL.out.2 (Nat.le_refl _))).mono ?_
          rintro e w1 ⟨rfl, rfl⟩
          go_wp2_with fail
          go_ret
          refine ⟨⟨_, rfl, ?_⟩, hL.out.2⟩
          unfold Rows'
          rw [Hmx.out, itemsFrom_len, show howMany base top s most = k by unfold howMany; rw [Hmx.out]; omega]
          exact hL.out.1
      · go_wp2_with fail
        refine (top_any (H.out.below hL.out.2 (Nat.le_refl _))).mono ?_
        rintro e w1 ⟨rfl, rfl⟩
        go_wp2_with fail
        go_ret
        refine ⟨⟨_, rfl, ?_⟩, hL.out.2⟩
        unfold Rows'
        rw [Hmx.out, itemsFrom_len, show howMany base top s most = k by unfold howMany; rw [Hmx.out]; omega]
        exact hL.out.1
  · have hmx : max s (base + 1) = s := by omega
    have Hmx := Lib.hid hmx
    clear hmx
    go_enter Try.func13, Try.ntmps13
    go_wp2_with fail
    refine (base_any H.out).mono ?_
    rintro e w1 ⟨rfl, rfl⟩
    go_wp2_with fail
    go_loopw [7, 8] (fun o x wr => ∃ (k : Nat) (ad : Option Addr) (cap : Nat), k ≤ (min (top + 1 - (s)) most).toNat ∧ o = .slice ad k cap ∧ x = .int .u64 (s + (k : Int)) ∧ Laid w M (s) k o wr) (fun _ x _ => (top + 1 - intOf x).toNat)
    case atStart => exact ⟨0, none, 0, by omega, rfl, by simp, laid_start _ _ _⟩
    case round =>
      obtain ⟨k, ad, cap, hk, rfl, rfl, hl⟩ := hrel
      have hL := Lib.hid hl
      have hz := hl.2.size
      clear hl
      by_cases hA : s + (k : Int) ≤ top
      · by_cases hB : (k : Int) < most
        · have hU : U (s + (k : Int)) := u_iff.2 ⟨by omega, by omega⟩
          have HU := Lib.hid hU
          clear hU
          go_wp2_with fail
          refine (top_any (H.out.below hL.out.2 (Nat.le_refl _))).mono ?_
          rintro e w1 ⟨rfl, rfl⟩
          go_wp2_with fail
          refine (get_any (H.out.below hL.out.2 (Nat.le_refl _)) _ HU.out).mono ?_
          rintro e w1 ⟨rfl, rfl⟩
          go_wp2_with (at_builtin; refine wpList_append_own _ rfl (.tmp 34) (.tmp 38) 38 rfl w.heap.size 33 i0 (.agg #[.int .u64 0, .string ByteArray.empty]) 2 24 Try.underlying38 hi hz0 hz1 hz2 rfl (by decide) _ k _ rfl (hL.out.1.alloc _) ⟨wr.heap.size, 0, none⟩ 1 1 [.int .u64 (s + (k : Int)), .string ((M (s + (k : Int))).getD ByteArray.empty)] rfl rfl (World.news_of_block (heap_alloc_new wr _)) (by intro u hu; simp at hu; rcases hu with rfl | rfl <;> rfl) (by unfold maxLen; omega) (by omega) (by simp; omega) ?_; intro v' w2 hown hgr _)
          have hs2 := laid_step hL.out hown hgr
          obtain ⟨ad', cap', rfl⟩ := own_form hown
          have HS := Lib.hid hs2
          clear hs2 hown hgr
          go_wp2_with fail
          go_roundw
          case rel => exact ⟨k + 1, ad', cap', by omega, rfl, by go_num, HS.out⟩
          case measure => simp [intOf]; omega
        · go_wp2_with fail
          refine (top_any (H.out.below hL.out.2 (Nat.le_refl _))).mono ?_
          rintro e w1 ⟨rfl, rfl⟩
          go_wp2_with fail
          go_ret
          refine ⟨⟨_, rfl, ?_⟩, hL.out.2⟩
          unfold Rows'
          rw [Hmx.out, itemsFrom_len, show howMany base top s most = k by unfold howMany; rw [Hmx.out]; omega]
          exact hL.out.1
      · go_wp2_with fail
        refine (top_any (H.out.below hL.out.2 (Nat.le_refl _))).mono ?_
        rintro e w1 ⟨rfl, rfl⟩
        go_wp2_with fail
        go_ret
        refine ⟨⟨_, rfl, ?_⟩, hL.out.2⟩
        unfold Rows'
        rw [Hmx.out, itemsFrom_len, show howMany base top s most = k by unfold howMany; rw [Hmx.out]; omega]
        exact hL.out.1
end
end Go.Proofs.Ytfkofdhobhalpaa
