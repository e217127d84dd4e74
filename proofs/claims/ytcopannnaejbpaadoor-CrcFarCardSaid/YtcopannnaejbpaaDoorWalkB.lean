/-
  THE WALKS of the checksum of a text, the program's.
-/
import Derived.Test.YtcopannnaejbpaaDoorWalkA
namespace Go.Proofs.YtcopannnaejbpaaDoor
open Go.RowKit

theorem ret_u64 {a b : Int} (h : a = b) : Ending.returned (.int .u64 a) = .returned (.int .u64 b) := by rw [h]
theorem byte_int (x : BitVec 64) (c : UInt8) : bits .xor .u64 (x.toNat : Int) (IntKind.u64.wrap (c.toNat : Int)) = ((x ^^^ Crc.byte c).toNat : Int) := by
  have hw : IntKind.u64.wrap (c.toNat : Int) = (c.toNat : Int) := by
    have := c.toNat_lt
    rw [IntKind.wrap_u64]
    omega
  rw [hw]
  have h : (Crc.byte c).toNat = c.toNat := by
    have := c.toNat_lt
    simp only [Crc.byte, BitVec.toNat_ofNat]
    omega
  rw [← int_xor, h]
theorem run_take (r : BitVec 64) (s : ByteArray) (k : Nat) (h : k < s.size) : Crc.run r (s.data.toList.take (k + 1)) = Crc.steps 8 (Crc.run r (s.data.toList.take k) ^^^ Crc.byte s[k]) := by
  rw [List.take_succ_eq_append_getElem (by simpa using h), Crc.run_append]
  rfl

theorem int_not_max (a : BitVec 64) : bits .xor .u64 IntKind.u64.max (a.toNat : Int) = ((~~~a).toNat : Int) := int_not a

set_option maxRecDepth 100000 in
set_option maxHeartbeats 400000 in
theorem more_any (x : BitVec 64) (s : ByteArray) (w : World) (hs : s.size ≤ maxLen) :
    Calls Tryd.prog 10 #[.int .u64 (x.toNat : Int), .string s] w fun e w' => e = .returned (.int .u64 ((Crc.more x s.data.toList).toNat : Int)) ∧ w = w' := by
  unfold maxLen at hs
  go_enter Tryd.func10, Tryd.ntmps10
  go_wp2
  go_loop [5, 11] (fun v i => ∃ k : Nat, k ≤ s.size ∧ i = .int .i64 k ∧ v = .int .u64 ((Crc.run (~~~x) (s.data.toList.take k)).toNat : Int)) (fun _ i => s.size - (intOf i).toNat)
  case atStart => exact ⟨0, Nat.zero_le _, rfl, by rw [int_not_max]; rfl⟩
  case round =>
    obtain ⟨k, hk, rfl, rfl⟩ := hrel
    by_cases hlt : k < s.size
    · have H := Lib.hid (run_take (~~~x) s k hlt)
      generalize Crc.run (~~~x) (s.data.toList.take k) = y at H ⊢
      go_wp2_with fail
      rw [byte_int]
      generalize y ^^^ Crc.byte s[k] = z at H ⊢
      go_loop [5, 20] (fun v i => ∃ j : Nat, j ≤ 8 ∧ i = .int .i64 j ∧ v = .int .u64 ((Crc.steps j z).toNat : Int)) (fun _ i => 8 - (intOf i).toNat)
      case atStart => exact ⟨0, Nat.zero_le _, rfl, rfl⟩
      case round =>
        obtain ⟨j, hj, rfl, rfl⟩ := hrel
        by_cases hjl : j < 8
        · have G := Lib.hid (Crc.steps_succ' j z)
          generalize Crc.steps j z = u at G ⊢
          go_wp2_with (go_at_call 12; refine (step_any _ _).mono ?_; rintro e w' ⟨rfl, rfl⟩)
          go_round
          case rel => exact ⟨j + 1, by omega, by go_num, by rw [G.out]⟩
          case measure => simp [intOf]; omega
        · obtain rfl : j = 8 := by omega
          go_wp2_with fail
          go_round
          case rel => exact ⟨k + 1, by omega, by go_num, by rw [H.out]⟩
          case measure => simp [intOf]; omega
    · go_wp2
      go_ret
      refine ⟨ret_u64 ?_, rfl⟩
      rw [int_not_max, List.take_of_length_le (by simp; omega)]
      rfl

set_option maxHeartbeats 400000 in
theorem sum_any (s : ByteArray) (w : World) (hs : s.size ≤ maxLen) :
    Calls Tryd.prog 9 #[.string s] w fun e w' => e = .returned (.int .u64 ((Crc.sum s.data.toList).toNat : Int)) ∧ w = w' := by
  go_enter Tryd.func9, Tryd.ntmps9
  go_wp2_with fail
  refine (more_any 0#64 s _ hs).mono ?_
  rintro e w' ⟨rfl, rfl⟩
  go_wp2_with fail
  go_ret
  exact ⟨rfl, rfl⟩

theorem known : (Crc.sum [49, 50, 51, 52, 53, 54, 55, 56, 57]).toNat = 11051210869376104954 := by decide +kernel
theorem known_none : (Crc.sum []).toNat = 0 := by decide +kernel

set_option maxRecDepth 100000 in
set_option maxHeartbeats 400000 in
theorem wakes_any (w : World) :
    Calls Tryd.prog 6 #[] w fun e w' => e = .returned (.bool true) ∧ w = w' := by
  go_enter Tryd.func6, Tryd.ntmps6
  go_wp2_with fail
  refine (sum_any _ _ (by decide)).mono ?_
  rintro e w' ⟨rfl, rfl⟩
  rw [known]
  go_wp2_with fail
  refine (sum_any _ _ (by decide)).mono ?_
  rintro e w' ⟨rfl, rfl⟩
  rw [known_none]
  go_wp2_with fail
  go_ret
  exact ⟨rfl, rfl⟩
end Go.Proofs.YtcopannnaejbpaaDoor
