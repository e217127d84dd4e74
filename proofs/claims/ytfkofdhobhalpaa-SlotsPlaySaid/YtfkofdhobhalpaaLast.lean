/-
  THE WALKS of a row's Last; what no row answers.
-/
import Derived.Test.YtfkofdhobhalpaaItems
namespace Go.Proofs.Ytfkofdhobhalpaa
open Go.RowKit Go.Maps Go.BigFrame

/-- The greatest slot that has a value, or the top. -/
def IsLast (top : Int) (M : Vals) (x : Int) : Prop := top ≤ x ∧ (x = top ∨ (U x ∧ (M x).isSome = true)) ∧ ∀ k, U k → (M k).isSome = true → k ≤ x
/-- What has been looked at. -/
def Looked (top : Int) (M : Vals) (left : Lit → Bool) (x : Int) : Prop := top ≤ x ∧ (x = top ∨ (U x ∧ (M x).isSome = true)) ∧ (∀ k, U k → (M k).isSome = true → left (.int .u64 k) = true ∨ k ≤ x) ∧ 0 ≤ x ∧ x < 18446744073709551616
theorem looked_start {top : Int} {M : Vals} {D : DataW Unit} (h : Holds D M) (h0 : 0 ≤ top) (h1 : top ≤ 4611686018427387904) : Looked top M (has D) top :=
  ⟨Int.le_refl _, Or.inl rfl, fun k hk hm => Or.inl (by rw [(h k hk).1]; exact hm), h0, by omega⟩
theorem looked_end {top : Int} {M : Vals} {left : Lit → Bool} {x : Int} (h : Looked top M left x) (hl : ∀ kl, left kl = false) : IsLast top M x :=
  ⟨h.1, h.2.1, fun k hk hm => (h.2.2.1 k hk hm).resolve_left (by rw [hl]; exact Bool.false_ne_true)⟩
theorem looked_step {top : Int} {M : Vals} {D : DataW Unit} {left : Lit → Bool} {x k : Int} {yd : DataW Unit} (hH : Holds D M) (h : Looked top M left x) (hk : U k) (hat : ∀ zd, D.atKey (.int .u64 k) zd = yd) {y : Int} (hy : y = max x k) :
    Looked top M (fun z => left z && !z.sameKey (.int .u64 k)) y := by
  have hm : (M k).isSome = true := by rw [← (hH k hk).1]; exact has_true_of_atKey hat
  have hu := u_iff.1 hk
  obtain ⟨h1, h2, h3, h4, h5⟩ := h
  subst hy
  refine ⟨by omega, ?_, fun j hj hmj => ?_, by omega, by omega⟩
  · by_cases hxk : x ≤ k
    · right; rw [show max x k = k by omega]; exact ⟨hk, hm⟩
    · rw [show max x k = x by omega]; exact h2
  · by_cases hjk : j = k
    · right; omega
    · rcases h3 j hj hmj with h6 | h6
      · left
        have : (Lit.int .u64 j).sameKey (.int .u64 k) = false := sameKey_ne (key_ne hjk)
        simp [h6, this]
      · right; omega

section
variable {w : World} {g m : Nat} {base top : Int} {n : Nat} {M : Vals}
set_option maxRecDepth 1000000 in
set_option maxHeartbeats 1600000 in
theorem last_any (h : RowAt w g m base top n M) (h0 : 0 ≤ top) (h1 : top ≤ 4611686018427387904) :
    Calls Try.prog 23 #[.pointer (some ⟨g, 0, none⟩)] w fun r w' => (∃ x, r = .returned (.int .u64 x) ∧ IsLast top M x) ∧ Below w.heap.size w w' := by
  have c2 := h.cell2
  obtain ⟨D, hown, hH⟩ := h.map
  have HH := Lib.hid hH
  have H := Lib.hid h
  clear h hH
  go_enter Try.func23, Try.ntmps23
  go_wp2_with fail
  refine (top_any H.out).mono ?_
  rintro e w1 ⟨rfl, rfl⟩
  go_wp2_with (first
    | (at_range; refine wpList_range_own _ rfl _ 54 rfl 29 9 lawU Try.underlying54 (plainElem (H := Unit) Try.prog 9) m n _ rfl hown ?_; intro w0 hrg0 hg0 hs0))
  go_frame
  go_loopw [3, 14] (fun x _ wr => ∃ (left : Lit → Bool) (cnt : Nat) (y : Int), x = .int .u64 y ∧ wr.ranges Try.prog 29 (plainElem (H := Unit) Try.prog 9) m w.heap.size n D left cnt ∧ Looked top M left y ∧ Below w.heap.size w wr)
    (fun _ _ wr => wr.rangeLeft m w.heap.size)
  case atStart => exact ⟨_, _, top, rfl, hrg0, looked_start HH.out h0 h1, (Below.refl _ _).grown hg0 (Nat.le_refl _) (fun j hj => by cases hj)⟩
  case round =>
    obtain ⟨left, cnt, y, rfl, hrg, hlk, hgw⟩ := hrel
    have HL := Lib.hid hlk
    have hy0 := hlk.2.2.2.1
    have hy1 := hlk.2.2.2.2
    clear hlk
    go_wp2_with (first
      | (at_next; refine wpList_next_ranges _ rfl _ rfl 29 lawU (plainElem (H := Unit) Try.prog 9) id id (fun key _ _ => ⟨key, rfl⟩) (fun v _ _ => ⟨v, rfl⟩) m w.heap.size n _ _ _ rfl hrg ?_ ?_))
    · intro _ hl0
      go_wp2_with fail
      go_ret
      exact ⟨⟨y, rfl, looked_end HL.out hl0⟩, hgw⟩
    · intro x c kl yd yp w1 cnt1 hkey hlx hv hat hrg1 hlt hg1 hs1 hen
      obtain ⟨k, rfl, rfl, hwk⟩ := Maps.keyOf_int_inv Try.underlying29 hkey
      have hku := u_iff.1 hwk
      have hgw1 : Below w.heap.size w w1 := hgw.grown hg1 hgw.size (fun j hj => by injection hj with hj; omega)
      have Hat := Lib.hid hat
      have Hk := Lib.hid hwk
      clear hat hwk hkey hlx hv hg1
      go_wp2_with fail
      all_goals
        go_roundw
        case rel => exact ⟨_, cnt1, _, rfl, hrg1, looked_step HH.out HL.out Hk.out Hat.out (by omega), hgw1⟩
        case measure => rw [hrg1.left_eq, hrg.left_eq]; exact hlt
end

set_option maxRecDepth 100000 in
set_option maxHeartbeats 800000 in
theorem last_nil (w : World) : Calls Try.prog 23 #[.pointer none] w fun r w' => r = .returned (.int .u64 0) ∧ w = w' := by
  go_enter Try.func23, Try.ntmps23
  go_wp2_with fail
  refine (top_nil _).mono ?_
  rintro e w1 ⟨rfl, rfl⟩
  go_wp2_with fail
  go_ret
  exact ⟨rfl, rfl⟩
set_option maxRecDepth 100000 in
set_option maxHeartbeats 800000 in
theorem items_nil (s most : Int) (w : World) (hs : 0 ≤ s) (hs1 : s < 18446744073709551616) : Calls Try.prog 13 #[.pointer none, .int .u64 s, .int .i64 most] w fun r w' => r = .returned (.slice none 0 0) ∧ w = w' := by
  by_cases h1 : s ≤ 0
  · go_enter Try.func13, Try.ntmps13
    go_wp2_with fail
    refine (base_nil _).mono ?_
    rintro e w1 ⟨rfl, rfl⟩
    go_wp2_with fail
    go_loop [7, 8] (fun o x => o = .slice none 0 0 ∧ x = .int .u64 1) (fun _ _ => 0)
    case atStart => exact ⟨rfl, rfl⟩
    case round =>
      obtain ⟨rfl, rfl⟩ := hrel
      go_wp2_with fail
      refine (top_nil _).mono ?_
      rintro e w1 ⟨rfl, rfl⟩
      go_wp2_with fail
      go_ret
      exact ⟨rfl, rfl⟩
  · go_enter Try.func13, Try.ntmps13
    go_wp2_with fail
    refine (base_nil _).mono ?_
    rintro e w1 ⟨rfl, rfl⟩
    go_wp2_with fail
    go_loop [7, 8] (fun o x => o = .slice none 0 0 ∧ x = .int .u64 s) (fun _ _ => 0)
    case atStart => exact ⟨rfl, rfl⟩
    case round =>
      obtain ⟨rfl, rfl⟩ := hrel
      go_wp2_with fail
      refine (top_nil _).mono ?_
      rintro e w1 ⟨rfl, rfl⟩
      go_wp2_with fail
      go_ret
      exact ⟨rfl, rfl⟩
set_option maxRecDepth 100000 in
set_option maxHeartbeats 800000 in
theorem put_nil (k : Int) (v : ByteArray) (w : World) : Calls Try.prog 12 #[.pointer none, .int .u64 k, .string v] w fun r w' => r = .returned (.int .i64 1) ∧ Below w.heap.size w w' := by
  go_enter Try.func12, Try.ntmps12
  go_wp2_with fail
  refine (with_nil _ _ _ _).mono ?_
  rintro e w1 ⟨rfl, rfl⟩
  go_wp2_with fail
  go_ret
  exact ⟨rfl, (((Below.refl _ _).alloc (Nat.le_refl _) _).alloc (by simp) _).alloc (by simp; omega) _⟩
end Go.Proofs.Ytfkofdhobhalpaa
