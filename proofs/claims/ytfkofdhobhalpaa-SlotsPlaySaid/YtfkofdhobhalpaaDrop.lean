/-
  THE WALKS of a row's drop and of maps.DeleteFunc at it.
-/
import Derived.Test.YtfkofdhobhalpaaBasic
import Derived.Maps.RangeWalk
import Derived.Laws.IdiomRangeMap
import Derived.Deep.Light
namespace Go.Proofs.Ytfkofdhobhalpaa
open Go.RowKit Go.Maps

set_option maxRecDepth 100000 in
set_option maxHeartbeats 400000 in
/-- The closure: is a slot at most 'to'? 'to' lies in a box. -/
theorem gone_any (k upto : Int) (v : Value) (bx : Nat) (W : World) (hx : W.cell? ⟨bx, 0, none⟩ = some (.int .u64 upto)) :
    Calls Try.prog 34 #[.int .u64 k, v, .pointer (some ⟨bx, 0, none⟩)] W fun e w' => e = .returned (.bool (decide (k ≤ upto))) ∧ W = w' := by
  go_enter Try.func34, Try.ntmps34
  go_wp2_with fail
  go_ret
  exact ⟨rfl, rfl⟩

set_option maxRecDepth 1000000 in
set_option maxHeartbeats 1600000 in
theorem deleteFunc_any (m n : Nat) (D : DataW Unit) (upto : Int) (bx : Nat) (w : World) (hown : w.ownsMap Try.prog 29 (plainElem Try.prog 9) m n D) (hx : w.cell? ⟨bx, 0, none⟩ = some (.int .u64 upto)) (hne : bx ≠ m) :
    Calls Try.prog 35 #[.map (some m), .func (.func 34) #[] #[.pointer (some ⟨bx, 0, none⟩)]] w fun e w' =>
      e = .returned (.tuple #[]) ∧ w'.ownsMap Try.prog 29 (plainElem Try.prog 9) m n (Lib.deleteFuncD (upTo upto) D) ∧ w.grownBy w' (some m) := by
  obtain ⟨es0, rfl, hap, hkeys⟩ := hown.entries lawU
  have Hx := Lib.hid hx
  clear hx
  go_enter Try.func35, Try.ntmps35
  go_wp2_with (first
    | (at_range; refine wpList_range_own _ rfl _ 54 rfl 29 9 lawU Try.underlying54 (plainElem (H := Unit) Try.prog 9) m n _ rfl hown ?_; intro w0 hrg0 hg0 hs0))
  go_frame
  go_loopw [8] (fun _ wr => ∃ (left : Lit → Bool) (cnt : Nat), wr.ranges Try.prog 29 (plainElem (H := Unit) Try.prog 9) m w.heap.size n (Fk (upTo upto) es0 left) left cnt ∧ w.grownBy wr (some m))
    (fun _ wr => wr.rangeLeft m w.heap.size)
  case atStart => exact ⟨_, _, by rw [Fk_start hkeys]; exact hrg0, hg0.but _⟩
  case round =>
    obtain ⟨left, cnt, hrg, hgw⟩ := hrel
    go_wp2_with (first
      | (at_next; refine wpList_next_ranges _ rfl _ rfl 29 lawU (plainElem (H := Unit) Try.prog 9) id id (fun key _ _ => ⟨key, rfl⟩) (fun v _ _ => ⟨v, rfl⟩) m w.heap.size n _ _ _ rfl hrg ?_ ?_))
    · intro _ hl0
      go_wp2_with fail
      go_end0
      exact ⟨rfl, by rw [← Fk_end hl0]; exact hrg.owns, hgw⟩
    · intro x c kl yd yp w1 cnt1 hkey hlx hv hat hrg1 hlt hg1 hs1 hen
      have hgw1 := hgw.andThen hg1 (fun j hj => by cases hj; exact Or.inl (Nat.le_refl _))
      obtain ⟨k, rfl, rfl, hwk⟩ := Maps.keyOf_int_inv Try.underlying29 hkey
      have hx1 := hgw1.cell Hx.out (fun e => hne (by simpa using e))
      have hc := gone_any k upto c bx w1 hx1
      have hbl := hrg1.owns.lt
      have hrl := hrg1.lt
      have Hc := Lib.hid hc
      clear hc hx1
      by_cases hp : k ≤ upto
      · go_wp2_with (first
          | (go_at_call 34; refine Hc.out.mono ?_; rintro e w2 ⟨rfl, rfl⟩)
          | (at_delete; refine wpList_delete_ranges _ rfl _ _ 54 29 rfl 9 lawU Try.underlying54 (plainElem (H := Unit) Try.prog 9) m w.heap.size n _ _ _ rfl hrg1 _ _ rfl hkey ?_; intro w3 cnt3 hrg3 hle hturn; go_frame))
        rw [strike_twice] at hrg3
        go_roundw
        case rel => exact ⟨_, cnt3, by rw [← Fk_struck hap (lawU.key hkey) hlx (by simp [upTo, hp]) hat]; exact hrg3, hgw1.andThen hturn.grown (fun j hj => by cases hj; exact Or.inr rfl)⟩
        case measure => rw [hrg3.left_eq, hrg.left_eq]; omega
      · go_wp2_with (first
          | (go_at_call 34; refine Hc.out.mono ?_; rintro e w2 ⟨rfl, rfl⟩))
        go_roundw
        case rel => exact ⟨_, cnt1, by rw [← Fk_stays hap (lawU.key hkey) hlx (by simp [upTo]; omega) hat]; exact hrg1, hgw1⟩
        case measure => rw [hrg1.left_eq, hrg.left_eq]; exact hlt
end Go.Proofs.Ytfkofdhobhalpaa
