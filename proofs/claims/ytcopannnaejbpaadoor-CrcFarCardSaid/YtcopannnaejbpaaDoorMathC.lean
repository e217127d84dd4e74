/-
  PLAIN LAWS on the lowest bit of a number of 64 bits. No program in sight.
-/
import Derived.Test.YtcopannnaejbpaaDoorMath
namespace Go.Proofs.YtcopannnaejbpaaDoor.Crc
/-- k is the place of x's lowest bit. -/
structure Low (x : BitVec 64) (k : Nat) : Prop where
  lt : k < 64
  set : x.getLsbD k = true
  none : ∀ j, j < k → x.getLsbD j = false
theorem low_exists (x : BitVec 64) (h : x ≠ 0#64) : ∃ k, Low x k := by
  have hex : ∃ i, x.getLsbD i = true := by
    apply Classical.byContradiction
    intro hn
    apply h
    apply BitVec.eq_of_getLsbD_eq
    intro i _
    rw [BitVec.getLsbD_zero]
    cases hb : x.getLsbD i
    · rfl
    · exact absurd ⟨i, hb⟩ hn
  obtain ⟨i, hi⟩ := hex
  have main : ∀ n i, i ≤ n → x.getLsbD i = true → ∃ k, Low x k := by
    intro n
    induction n with
    | zero =>
      intro i hin hi
      exact ⟨i, BitVec.lt_of_getLsbD hi, hi, fun j hj => by omega⟩
    | succ n ih =>
      intro i hin hi
      by_cases hl : ∃ j, j < i ∧ x.getLsbD j = true
      · obtain ⟨j, hj, hb⟩ := hl
        exact ih j (by omega) hb
      · refine ⟨i, BitVec.lt_of_getLsbD hi, hi, fun j hj => ?_⟩
        cases hb : x.getLsbD j
        · rfl
        · exact absurd ⟨j, hj, hb⟩ hl
  exact main i i (Nat.le_refl _) hi
theorem low_and_neg {x : BitVec 64} {k : Nat} (h : Low x k) : x &&& -x = 1#64 <<< k := by
  apply BitVec.eq_of_getLsbD_eq
  intro i hi
  have hone : (1#64 <<< k).getLsbD i = decide (i = k) := by
    simp only [BitVec.getLsbD_shiftLeft, BitVec.getLsbD_one]
    by_cases e : i = k
    · subst e; simp [hi]
    · by_cases hlt : i < k
      · simp [hlt, e]
      · simp [hlt, e]; omega
  rw [hone, BitVec.getLsbD_and, BitVec.getLsbD_neg]
  by_cases e : i = k
  · subst e
    rw [h.set]
    have : ¬ ∃ j, j < i ∧ x.getLsbD j = true := by
      rintro ⟨j, hj, hb⟩
      rw [h.none j hj] at hb
      cases hb
    simp [hi, this]
  · by_cases hlt : i < k
    · rw [h.none i hlt]; simp [e]
    · have hex : ∃ j, j < i ∧ x.getLsbD j = true := ⟨k, by omega, h.set⟩
      cases hb : x.getLsbD i <;> simp [hi, e, hex]
theorem and_pred (x : BitVec 64) : x &&& (x - 1#64) = x ^^^ (x &&& -x) := by
  have hn : -x = ~~~(x - 1#64) := by
    apply BitVec.eq_of_toNat_eq
    have := x.isLt
    simp only [BitVec.toNat_neg, BitVec.toNat_not, BitVec.toNat_sub]
    simp
    omega
  rw [hn]
  apply BitVec.eq_of_getLsbD_eq
  intro i hi
  simp only [BitVec.getLsbD_and, BitVec.getLsbD_xor, BitVec.getLsbD_not, hi]
  cases x.getLsbD i <;> cases (x - 1#64).getLsbD i <;> rfl
theorem low_clear {x : BitVec 64} {k : Nat} (h : Low x k) : x &&& (x - 1#64) = x ^^^ (1#64 <<< k) := by
  rw [and_pred, low_and_neg h]
/-- The lowest bit goes: the number is less. -/
theorem low_less {x : BitVec 64} {k : Nat} (h : Low x k) : (x ^^^ (1#64 <<< k)).toNat < x.toNat := by
  rw [← low_clear h, BitVec.toNat_and]
  have h0 : x ≠ 0#64 := by
    intro e
    have := h.set
    rw [e] at this
    simp at this
  have h1 : 0 < x.toNat := by
    apply Nat.pos_of_ne_zero
    intro e
    exact h0 (BitVec.eq_of_toNat_eq e)
  have h2 : (x - 1#64).toNat = x.toNat - 1 := by
    have := x.isLt
    rw [BitVec.toNat_sub]
    simp
    omega
  have := Nat.and_le_right (n := x.toNat) (m := (x - 1#64).toNat)
  omega
def tab : List Nat := [0, 1, 56, 2, 57, 49, 28, 3, 61, 58, 42, 50, 38, 29, 17, 4, 62, 47, 59, 36, 45, 43, 51, 22, 53, 39, 33, 30, 24, 18, 12, 5, 63, 55, 48, 27, 60, 41, 37, 16, 46, 35, 44, 21, 52, 32, 23, 11, 54, 26, 40, 15, 34, 20, 31, 10, 25, 14, 19, 9, 13, 8, 7, 6]
/-- The place in the table for the bit k. -/
def place (k : Nat) : Nat := (((1#64 <<< k) * 285870213051353865#64) >>> 58).toNat
theorem place_all : ∀ k : Fin 64, place k.val < 64 ∧ tab.getD (place k.val) 0 = k.val := by decide +kernel
theorem place_lt {k : Nat} (h : k < 64) : place k < 64 := (place_all ⟨k, h⟩).1
theorem place_tab {k : Nat} (h : k < 64) : tab.getD (place k) 0 = k := (place_all ⟨k, h⟩).2
end Go.Proofs.YtcopannnaejbpaaDoor.Crc
