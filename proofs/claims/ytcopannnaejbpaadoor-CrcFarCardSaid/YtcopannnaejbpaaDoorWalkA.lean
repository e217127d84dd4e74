/-
  THE WALKS of the program's step and of the reference's steps.
-/
import Derived.Test.YtcopannnaejbpaaDoorRows
import Derived.Test.YtcopannnaejbpaaDoorMath
import Derived.WalkKit
import Derived.WalkSpells
import Derived.WalkLawsBesides
import Derived.Laws.BitsAllLaws
import Derived.Lib.Hide
namespace Go.Proofs.YtcopannnaejbpaaDoor
open Go.RowKit

theorem int_xor (a b : BitVec 64) : bits .xor .u64 (a.toNat : Int) (b.toNat : Int) = ((a ^^^ b).toNat : Int) := by
  have ha := a.isLt
  have hb := b.isLt
  rw [u64_xor_nat _ _ (by omega) (by omega), BitVec.toNat_xor]
theorem int_and (a b : BitVec 64) : bits .and .u64 (a.toNat : Int) (b.toNat : Int) = ((a &&& b).toNat : Int) := by
  have ha := a.isLt
  have hb := b.isLt
  rw [u64_and_nat _ _ (by omega) (by omega), BitVec.toNat_and]
theorem int_half (a : BitVec 64) : (a.toNat : Int) / (2 : Int) = ((a >>> 1).toNat : Int) := by
  rw [BitVec.toNat_ushiftRight, Nat.shiftRight_eq_div_pow]
  omega
theorem int_not (a : BitVec 64) : bits .xor .u64 18446744073709551615 (a.toNat : Int) = ((~~~a).toNat : Int) := by
  rw [Crc.bnot, BitVec.xor_comm, ← int_xor]
  rfl
theorem low_bit (x : BitVec 64) : x &&& 1#64 = if x.getLsbD 0 then 1#64 else 0#64 := by
  apply BitVec.eq_of_getLsbD_eq
  intro i hi
  rw [BitVec.getLsbD_and, BitVec.getLsbD_one]
  by_cases h : i = 0
  · subst h
    cases x.getLsbD 0 <;> rfl
  · cases x.getLsbD 0 <;> simp [h, BitVec.getLsbD_one]
theorem go_step (x : BitVec 64) : bits .xor .u64 ((x.toNat : Int) / (2 : Int)) (bits .and .u64 14514072000185962306 (IntKind.u64.wrap (-bits .and .u64 (x.toNat : Int) 1))) = ((Crc.step x).toNat : Int) := by
  have e1 : bits .and .u64 (x.toNat : Int) 1 = ((if x.getLsbD 0 then 1#64 else 0#64 : BitVec 64).toNat : Int) := by
    rw [← low_bit]; exact int_and x 1#64
  rw [int_half, e1, Crc.step]
  cases x.getLsbD 0 with
  | false =>
    rw [← int_xor]
    rfl
  | true =>
    rw [← int_xor]
    rfl

set_option maxHeartbeats 400000 in
theorem step_any (x : BitVec 64) (w : World) :
    Calls Tryd.prog 12 #[.int .u64 (x.toNat : Int)] w fun e w' => e = .returned (.int .u64 ((Crc.step x).toNat : Int)) ∧ w = w' := by
  have hx := x.isLt
  have h0 : (0 : Int) ≤ (x.toNat : Int) := by omega
  have h1 : (x.toNat : Int) < 18446744073709551616 := by omega
  clear hx
  go_enter Tryd.func12, Tryd.ntmps12
  go_wp2
  go_ret
  exact ⟨congrArg (fun n => Ending.returned (.int .u64 n)) (go_step x), rfl⟩

theorem ref_step_0 (x : BitVec 64) (h : (x.toNat : Int) % 2 = 1) : bits .xor .u64 ((x.toNat : Int) / (2 : Int)) 14514072000185962306 = ((Crc.step x).toNat : Int) := by
  have hb : x.getLsbD 0 = true := by
    rw [BitVec.getLsbD, Nat.testBit_zero]; simp; omega
  rw [int_half, Crc.step, hb, ← int_xor]
  rfl
theorem ref_step_1 (x : BitVec 64) (h : ¬ (x.toNat : Int) % 2 = 1) : ((x.toNat : Int) / (2 : Int)) = ((Crc.step x).toNat : Int) := by
  have hb : x.getLsbD 0 = false := by
    rw [BitVec.getLsbD, Nat.testBit_zero]; simp; omega
  rw [int_half, Crc.step, hb]
  simp

set_option maxRecDepth 100000 in
set_option maxHeartbeats 400000 in
theorem steps_any (x : BitVec 64) (n : Int) (w : World) (hn : n ≤ 9223372036854775807) :
    Calls Tryd.prog 15 #[.int .u64 (x.toNat : Int), .int .i64 n] w fun e w' => e = .returned (.int .u64 ((Crc.steps n.toNat x).toNat : Int)) ∧ w = w' := by
  go_enter Tryd.func15, Tryd.ntmps15
  go_wp2
  go_loop [0, 5] (fun v i => ∃ k : Nat, ((k : Int) ≤ n ∨ k = 0) ∧ i = .int .i64 k ∧ v = .int .u64 ((Crc.steps k x).toNat : Int)) (fun _ i => (n - intOf i).toNat)
  case atStart => exact ⟨0, by omega, rfl, rfl⟩
  case round =>
    obtain ⟨k, hk, rfl, rfl⟩ := hrel
    by_cases hlt : (k : Int) < n
    · have hs := Crc.steps_succ' k x
      have H := Lib.hid hs
      clear hs
      generalize hy : Crc.steps k x = y at H ⊢
      have Hy := Lib.hid hy
      clear hy
      have hx := y.isLt
      have h0 : (0 : Int) ≤ (y.toNat : Int) := by omega
      have h1 : (y.toNat : Int) < 18446744073709551616 := by omega
      clear hx
      by_cases hb : (y.toNat : Int) % 2 = 1
      · have hbb : ((y.toNat : Int) % 2 == 1) = true := by rw [hb]; rfl
        have Hb := Lib.hid hb
        clear hb
        go_wp2
        go_round
        case rel => exact ⟨k + 1, by omega, by go_num, by rw [H.out, ref_step_0 y Hb.out]⟩
        case measure => simp [intOf]; omega
      · have hbb : ((y.toNat : Int) % 2 == 1) = false := by simpa using hb
        have Hb := Lib.hid hb
        clear hb
        go_wp2
        go_round
        case rel => exact ⟨k + 1, by omega, by go_num, by rw [H.out, ← ref_step_1 y Hb.out]⟩
        case measure => simp [intOf]; omega
    · go_wp2
      go_ret
      have e : n.toNat = k := by omega
      rw [e]
      exact ⟨rfl, rfl⟩
end Go.Proofs.YtcopannnaejbpaaDoor
