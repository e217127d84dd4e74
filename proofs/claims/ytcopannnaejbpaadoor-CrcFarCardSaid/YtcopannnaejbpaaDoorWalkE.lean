/-
  THE WALK of Join.
-/
import Derived.Test.YtcopannnaejbpaaDoorWalkD
import Derived.Deep.DeepCutAuto
import Derived.Deep.CutBlock
namespace Go.Proofs.YtcopannnaejbpaaDoor
open Go.RowKit

/-- The cells while the matrix is first filled. -/
def filled (k : Nat) : Array Value := (Array.range 64).map fun i => .int .u64 (if i < k then ((Crc.steps 1 (1#64 <<< i)).toNat : Int) else 0)
theorem filled_size (k : Nat) : (filled k).size = 64 := by simp [filled]
theorem filled_get (k i : Nat) (hi : i < 64) : (filled k)[i]? = some (.int .u64 (if i < k then ((Crc.steps 1 (1#64 <<< i)).toNat : Int) else 0)) := by
  simp [filled, hi]
theorem filled_set (k : Nat) : (filled k).setIfInBounds k (.int .u64 ((Crc.steps 1 (1#64 <<< k)).toNat : Int)) = filled (k + 1) := by
  apply Array.ext_getElem?
  intro i
  by_cases hi : i < 64
  · by_cases h : k = i
    · subst h
      rw [Array.getElem?_setIfInBounds, if_pos rfl, if_pos (by rw [filled_size]; exact hi), filled_get _ _ hi, if_pos (by omega)]
    · rw [Array.getElem?_setIfInBounds, if_neg h, filled_get _ _ hi, filled_get _ _ hi]
      by_cases hlt : i < k
      · rw [if_pos hlt, if_pos (by omega)]
      · rw [if_neg hlt, if_neg (by omega)]
  · rw [Array.getElem?_eq_none (by rw [Array.size_setIfInBounds, filled_size]; omega), Array.getElem?_eq_none (by rw [filled_size]; omega)]
theorem filled_all : filled 64 = cells 1 1 0 := by
  apply Array.ext_getElem?
  intro i
  by_cases hi : i < 64
  · rw [filled_get _ _ hi, cells_get _ _ _ _ hi, if_pos hi, if_neg (by omega)]
  · rw [Array.getElem?_eq_none (by rw [filled_size]; omega), Array.getElem?_eq_none (by rw [cells_size]; omega)]

/-- What Join has made: the matrix, the variable that holds 'each'; nothing that was there has turned. -/
structure Made (w : World) (C : Array Value) (wr : World) : Prop where
  tab : Tab wr
  mat : wr.heap[w.heap.size]? = some (.cells C 31 (0, 0))
  each : wr.cell? ⟨w.heap.size + 1, 0, none⟩ = some (.func (.func 11) #[] #[.pointer (some ⟨w.heap.size, 0, none⟩)])
  below : Below w.heap.size w wr
  size : w.heap.size + 1 < wr.heap.size
theorem Made.start (w : World) (ht : Tab w) (hw : 0 < w.heap.size) (C : Array Value) (hC : C = filled 0) (t : TypeId) :
    Made w (filled 0) ((w.alloc (.cells C 31)).alloc (.cells #[.func (.func 11) #[] #[.pointer (some ⟨w.heap.size, 0, none⟩)]] t)) := by
  subst hC
  have hb : Below w.heap.size w ((w.alloc (.cells (filled 0) 31)).alloc (.cells #[.func (.func 11) #[] #[.pointer (some ⟨w.heap.size, 0, none⟩)]] t)) :=
    ((Below.refl _ _).alloc (Nat.le_refl _) _).alloc (by simp) _
  refine ⟨fun i hi => ?_, heap_alloc2_old w _ _, ?_, hb, by simp⟩
  · rw [hb.cell (p := ⟨0, i, none⟩) hw]
    exact ht i hi
  · rw [cell_of_row _ _ 0 _ _ _ (heap_alloc2_new w _ _)]
    rfl
theorem Made.fill {w wr : World} {k : Nat} (h : Made w (filled k) wr) (hw : 0 < w.heap.size) :
    Made w (filled (k + 1)) (wr.setCell ⟨w.heap.size, k, none⟩ (.int .u64 ((Crc.step (1#64 <<< k)).toNat : Int))) := by
  have hother : ∀ b, b ≠ w.heap.size → (wr.setCell ⟨w.heap.size, k, none⟩ (.int .u64 ((Crc.step (1#64 <<< k)).toNat : Int))).heap[b]? = wr.heap[b]? := fun b hb => Below.heap_setCell _ _ _ b hb
  refine ⟨fun i hi => ?_, ?_, ?_, h.below.setCell (Nat.le_refl _) _, by simpa [World.setCell] using h.size⟩
  · rw [World.cell?_of_block (w := wr) (hother 0 (by omega))]
    exact h.tab i hi
  · rw [heap_setCell_same _ _ _ _ _ _ h.mat]
    rw [show Crc.step (1#64 <<< k) = Crc.steps 1 (1#64 <<< k) from rfl, filled_set]
  · rw [World.cell?_of_block (w := wr) (hother (w.heap.size + 1) (by omega))]
    exact h.each
theorem Made.square {w wr w' : World} {C C' : Array Value} (h : Made w C wr) (hw : 0 < w.heap.size) (hm : w'.heap[w.heap.size]? = some (.cells C' 31 (0, 0))) (hg : wr.grownBy w' (some w.heap.size)) : Made w C' w' := by
  have hs := h.size
  refine ⟨fun i hi => ?_, hm, ?_, h.below.grown hg h.below.size (fun k hk => by injection hk with hk; omega), Nat.lt_of_lt_of_le h.size hg.size⟩
  · rw [World.cell?_of_block (w := wr) (hg.block 0 (by omega) (by intro e; injection e with e; omega))]
    exact h.tab i hi
  · rw [World.cell?_of_block (w := wr) (hg.block (w.heap.size + 1) (by omega) (by intro e; injection e with e; omega))]
    exact h.each
theorem Made.draw {w wr : World} {C : Array Value} (h : Made w C wr) (q : Nat) : Made w C (wr.drewN q) :=
  ⟨h.tab, h.mat, h.each, ⟨h.below.os, h.below.tape, h.below.output, h.below.size, h.below.block⟩, h.size⟩
/-- The contract of 'square' at what Join has made. -/
theorem Made.squares {w wr : World} {n : Nat} (h : Made w (cells n n 0) wr) (hw : 0 < w.heap.size) :
    Calls Tryd.prog 13 #[.pointer (some ⟨w.heap.size, 0, none⟩), .pointer (some ⟨w.heap.size + 1, 0, none⟩)] wr fun e w' => e = .returned (.tuple #[]) ∧ Made w (cells (n + n) (n + n) 0) w' :=
  (square_any w.heap.size (w.heap.size + 1) n wr h.tab h.mat h.each (by omega) h.size).mono fun _ _ hq => ⟨hq.1, h.square hw hq.2.1 hq.2.2⟩
theorem Made.applies {w wr : World} {n : Nat} (h : Made w (cells n n 0) wr) (x : BitVec 64) :
    Calls Tryd.prog 14 #[.pointer (some ⟨w.heap.size, 0, none⟩), .int .u64 (x.toNat : Int)] wr fun e w' => e = .returned (.int .u64 ((Crc.steps n x).toNat : Int)) ∧ Made w (cells n n 0) w' :=
  (of_any x w.heap.size n wr h.tab (Whole.mat h.mat)).mono fun _ _ hq => ⟨hq.1, by
    obtain ⟨q, rfl⟩ := hq.2
    exact h.draw q⟩

theorem and_one (n : Int) (h0 : 0 ≤ n) (h1 : n ≤ 9223372036854775807) : bits .and .i64 n 1 = n % 2 := by
  have e1 : (BitVec.ofInt 64 n).toNat = n.toNat := by
    rw [BitVec.toNat_ofInt]
    have : n % ((2 ^ 64 : Nat) : Int) = n := Int.emod_eq_of_lt h0 (by omega)
    rw [this]
  show IntKind.i64.wrap ((BitVec.ofInt 64 n &&& BitVec.ofInt 64 1).toNat : Int) = n % 2
  have e2 : (BitVec.ofInt 64 1).toNat = 1 := by decide
  rw [BitVec.toNat_and, e1, e2, nat_mask1, IntKind.wrap_i64]
  omega
theorem shl_one (k : Nat) : IntKind.u64.wrap ((2 : Int) ^ k) = ((1#64 <<< k : BitVec 64).toNat : Int) := by
  rw [IntKind.wrap_u64, BitVec.toNat_shiftLeft, Nat.shiftLeft_eq]
  simp

theorem half_odd (p : Nat) (m : Int) (x : BitVec 64) (h0 : 0 < m) (h : m % 2 = 1) : Crc.steps (p * m.toNat) x = Crc.steps ((p + p) * (m / 2).toNat) (Crc.steps p x) := by
  rw [← Crc.steps_add]
  congr 1
  obtain ⟨k, rfl⟩ : ∃ k : Nat, m = 2 * (k : Int) + 1 := ⟨(m / 2).toNat, by omega⟩
  rw [show (2 * (k : Int) + 1).toNat = 2 * k + 1 by omega, show ((2 * (k : Int) + 1) / 2).toNat = k by omega, Nat.mul_add, Nat.add_mul, Nat.mul_left_comm p 2 k]
  omega
theorem half_even (p : Nat) (m : Int) (x : BitVec 64) (h0 : 0 < m) (h : ¬ m % 2 = 1) : Crc.steps (p * m.toNat) x = Crc.steps ((p + p) * (m / 2).toNat) x := by
  congr 1
  obtain ⟨k, rfl⟩ : ∃ k : Nat, m = 2 * (k : Int) := ⟨(m / 2).toNat, by omega⟩
  rw [show (2 * (k : Int)).toNat = 2 * k by omega, show ((2 * (k : Int)) / 2).toNat = k by omega, Nat.add_mul, ← Nat.mul_add]
  congr 1
  omega

set_option maxRecDepth 100000 in
set_option maxHeartbeats 400000 in
theorem join_any (a b : BitVec 64) (n : Int) (w : World) (ht : Tab w) (hw : 0 < w.heap.size) (hn : n ≤ 9223372036854775807) :
    Calls Tryd.prog 7 #[.int .u64 (a.toNat : Int), .int .u64 (b.toNat : Int), .int .i64 n] w fun e w' => e = .returned (.int .u64 ((Crc.join a b n.toNat).toNat : Int)) ∧ Below w.heap.size w w' := by
  go_enter Tryd.func7, Tryd.ntmps7
  go_upto_block 0 with fail
  go_cut [] (fun wr => Made w (filled 64) wr)
  case first =>
    go_wp2_with fail
    go_loopw [12] (fun i wr => ∃ k : Nat, k ≤ 64 ∧ i = .int .i64 (k : Int) ∧ Made w (filled k) wr) (fun i _ => 64 - (intOf i).toNat)
    case atStart => exact ⟨0, by omega, rfl, Made.start w ht hw _ (by kernel_rfl) _⟩
    case round =>
      obtain ⟨k, hk, rfl, hM⟩ := hrel
      by_cases hk64 : k < 64
      · have hc2 : wr.cell? ⟨w.heap.size, k, none⟩ = some (.int .u64 0) := by
          rw [cell_of_row wr _ k _ _ _ hM.mat, filled_get _ _ hk64, if_neg (by omega)]
        have hf2 := frozen_of_row wr _ k _ _ hM.mat
        have hk0 : (0 : Int) ≤ (k : Int) := by omega
        have hk1 : (k : Int) < 64 := by omega
        have hn := hM.fill hw
        clear hM ht
        go_wp2_with fail
        rw [shl_one]
        refine (step_any _ _).mono ?_
        rintro e w' ⟨rfl, rfl⟩
        go_wp2_with fail
        go_roundw
        case rel => exact ⟨k + 1, by omega, by go_num, hn⟩
        case measure => simp [intOf]; omega
      · obtain rfl : k = 64 := by omega
        go_wp2_with fail
        go_meet
        case rel => exact hM
  case rest =>
    rw [filled_all] at hcut
    clear ht
    go_upto_block 2 with fail
    go_cut [] (fun wr => Made w (cells 8 8 0) wr)
    case first =>
      go_wp2_with fail
      go_loopw [22] (fun i wr => ∃ k : Nat, k ≤ 3 ∧ i = .int .i64 (k : Int) ∧ Made w (cells (2 ^ k) (2 ^ k) 0) wr) (fun i _ => 3 - (intOf i).toNat)
      case atStart => exact ⟨0, by omega, rfl, hcut⟩
      case round =>
        obtain ⟨k, hk, rfl, hM⟩ := hrel
        by_cases hk3 : k < 3
        · have hsq := hM.squares hw
          rw [show 2 ^ k + 2 ^ k = 2 ^ (k + 1) by omega] at hsq
          clear hM hcut
          go_wp2_with (go_at_call 13; refine hsq.mono ?_; rintro e w' ⟨rfl, hM'⟩)
          go_roundw
          case rel => exact ⟨k + 1, by omega, by go_num, hM'⟩
          case measure => simp [intOf]; omega
        · obtain rfl : k = 3 := by omega
          go_wp2_with fail
          go_meet
          case rel => exact hM
    case rest =>
      go_wp2_with fail
      go_loopw [0, 2] (fun v i wr => ∃ (x : BitVec 64) (m : Int) (p : Nat), v = .int .u64 (x.toNat : Int) ∧ i = .int .i64 m ∧ m ≤ 9223372036854775807 ∧ Hid (Crc.steps (p * m.toNat) x = Crc.steps (8 * n.toNat) a) ∧ Made w (cells p p 0) wr) (fun _ i _ => (intOf i).toNat)
      case atStart => exact ⟨a, n, 8, rfl, rfl, hn, Lib.hid rfl, hcut⟩
      case round =>
        clear hcut
        obtain ⟨x, m, p, rfl, rfl, hm, hx, hM⟩ := hrel
        by_cases h0 : 0 < m
        · have ha := and_one m (by omega) hm
          by_cases hodd : m % 2 = 1
          · have hb : (bits .and .i64 m 1 == 1) = true := by rw [ha, hodd]; rfl
            have hnext := half_odd p m x h0 hodd
            have Hn := Lib.hid (hnext.symm.trans hx.out)
            have hap := hM.applies x
            clear ha hodd hnext hM
            go_wp2_with (go_at_call 14; refine hap.mono ?_; rintro e w' ⟨rfl, hM'⟩)
            refine (hM'.squares hw).mono ?_
            rintro e w2 ⟨rfl, hM2⟩
            go_wp2_with fail
            go_roundw
            case rel => exact ⟨_, m / 2, p + p, rfl, rfl, by omega, Hn, hM2⟩
            case measure => simp [intOf]; omega
          · have hb : (bits .and .i64 m 1 == 1) = false := by rw [ha]; simpa using hodd
            have hnext := half_even p m x h0 hodd
            have Hn := Lib.hid (hnext.symm.trans hx.out)
            clear ha hodd hnext
            go_wp2_with (go_at_call 13; refine (hM.squares hw).mono ?_; rintro e w2 ⟨rfl, hM2⟩)
            go_roundw
            case rel => exact ⟨_, m / 2, p + p, rfl, rfl, by omega, Hn, hM2⟩
            case measure => simp [intOf]; omega
        · go_wp2_with fail
          go_ret
          refine ⟨?_, hM.below⟩
          have h1 := hx.out
          rw [show m.toNat = 0 by omega] at h1
          rw [int_xor, Crc.join, ← h1]
          rfl
end Go.Proofs.YtcopannnaejbpaaDoor
