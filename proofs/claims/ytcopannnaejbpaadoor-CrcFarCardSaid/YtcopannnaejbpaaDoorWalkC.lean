/-
  THE WALKS of TrailingZeros64 and of a matrix's application to a number.
-/
import Derived.Test.YtcopannnaejbpaaDoorWalkA
import Derived.Test.YtcopannnaejbpaaDoorMathC
import Derived.Deep.QuietTactic
import Derived.BigQuiet
namespace Go.Proofs.YtcopannnaejbpaaDoor
open Go.RowKit

/-- The table of the library's variable, as its first cells. -/
def Tab (w : World) : Prop := ∀ i, i < 64 → w.cell? ⟨0, i, none⟩ = some (.int .u8 (Crc.tab.getD i 0 : Nat))
theorem Tab.drewN {w : World} (h : Tab w) (n : Nat) : Tab (w.drewN n) := h
theorem int_neg (a : BitVec 64) : IntKind.u64.wrap (-(a.toNat : Int)) = ((-a).toNat : Int) := by
  have := a.isLt
  rw [IntKind.wrap_u64, BitVec.toNat_neg]
  omega
theorem int_mul (a b : BitVec 64) : IntKind.u64.wrap ((a.toNat : Int) * (b.toNat : Int)) = ((a * b).toNat : Int) := by
  rw [IntKind.wrap_u64, BitVec.toNat_mul, Int.natCast_emod, Int.natCast_mul]
  rfl
theorem int_shr (a : BitVec 64) (n : Nat) : (a.toNat : Int) / (2 ^ n : Int) = ((a >>> n).toNat : Int) := by
  rw [BitVec.toNat_ushiftRight, Nat.shiftRight_eq_div_pow]
  simp

theorem place_int (x : BitVec 64) (k : Nat) (h : Crc.Low x k) :
    IntKind.u64.wrap (bits .and .u64 (x.toNat : Int) (IntKind.u64.wrap (-(x.toNat : Int))) * 285870213051353865) / 288230376151711744 = (Crc.place k : Int) := by
  rw [int_neg, int_and, Crc.low_and_neg h]
  have := int_mul (1#64 <<< k) 285870213051353865#64
  rw [show ((285870213051353865#64 : BitVec 64).toNat : Int) = 285870213051353865 from rfl] at this
  rw [this]
  have := int_shr ((1#64 <<< k) * 285870213051353865#64) 58
  rw [show ((2 : Int) ^ 58) = 288230376151711744 from rfl] at this
  rw [this]
  rfl

set_option maxRecDepth 100000 in
set_option maxHeartbeats 400000 in
theorem trailing_any (x : BitVec 64) (k : Nat) (h : Crc.Low x k) (w : World) (ht : Tab w) :
    Calls Tryd.prog 16 #[.int .u64 (x.toNat : Int)] w fun e w' => e = .returned (.int .i64 (k : Int)) ∧ w = w' := by
  have hne : ((x.toNat : Int) == 0) = false := by
    rw [beq_eq_false_iff_ne]
    intro e
    have h0 : x = 0#64 := BitVec.eq_of_toNat_eq (by simp; omega)
    have := h.set
    rw [h0] at this
    simp at this
  have hex : ∃ p : Nat, p < 64 ∧ w.cell? ⟨0, p, none⟩ = some (.int .u8 (k : Int)) ∧
      IntKind.u64.wrap (bits .and .u64 (x.toNat : Int) (IntKind.u64.wrap (-(x.toNat : Int))) * 285870213051353865) / 288230376151711744 = (p : Int) := by
    have hc := ht _ (Crc.place_lt h.lt)
    rw [Crc.place_tab h.lt] at hc
    exact ⟨_, Crc.place_lt h.lt, hc, place_int x k h⟩
  obtain ⟨p, hp, hc, hpl⟩ := hex
  have hp0 : (0 : Int) ≤ (p : Int) := by omega
  have hp1 : (p : Int) < 64 := by omega
  have hk : (k : Int) < 64 := by have := h.lt; omega
  clear ht
  go_enter Tryd.func16, Tryd.ntmps16
  go_wp2_with fail
  go_ret
  exact ⟨rfl, rfl⟩

/-- Block g holds a matrix: what n steps make of each bit. -/
def Mat (w : World) (g n : Nat) : Prop := ∀ i, i < 64 → w.cell? ⟨g, i, none⟩ = some (.int .u64 ((Crc.steps n (1#64 <<< i)).toNat : Int))
/-- A world that is another one but for draws. -/
def Drawn (w w' : World) : Prop := ∃ n, w' = w.drewN n
theorem Drawn.refl (w : World) : Drawn w w := ⟨0, rfl⟩
theorem Drawn.more {w w' : World} (h : Drawn w w') (n : Nat) : Drawn w (w'.drewN n) := by
  obtain ⟨m, rfl⟩ := h
  exact ⟨m + n, by rw [World.drewN_drewN]⟩
theorem Drawn.tab {w w' : World} (h : Drawn w w') (ht : Tab w) : Tab w' := by
  obtain ⟨m, rfl⟩ := h
  exact ht
theorem Drawn.mat {w w' : World} (h : Drawn w w') {g n : Nat} (hm : Mat w g n) : Mat w' g n := by
  obtain ⟨m, rfl⟩ := h
  exact hm
theorem low_int (x : BitVec 64) (k : Nat) (h : Crc.Low x k) : bits .and .u64 (x.toNat : Int) ((x.toNat : Int) - 1) = ((x ^^^ (1#64 <<< k)).toNat : Int) := by
  have e : (x.toNat : Int) - 1 = ((x - 1#64).toNat : Int) := by
    have := x.isLt
    have := Crc.low_less h
    rw [BitVec.toNat_sub]
    simp
    omega
  rw [e, int_and, Crc.low_clear h]

set_option maxRecDepth 100000 in
set_option maxHeartbeats 400000 in
theorem of_any (x : BitVec 64) (g n : Nat) (w : World) (ht : Tab w) (hm : Mat w g n) :
    Calls Tryd.prog 14 #[.pointer (some ⟨g, 0, none⟩), .int .u64 (x.toNat : Int)] w fun e w' => e = .returned (.int .u64 ((Crc.steps n x).toNat : Int)) ∧ Drawn w w' := by
  go_enter Tryd.func14, Tryd.ntmps14
  go_wp2_with fail
  go_loopw [1, 5] (fun v o wr => ∃ y z : BitVec 64, v = .int .u64 (y.toNat : Int) ∧ o = .int .u64 (z.toNat : Int) ∧ Hid (z ^^^ Crc.steps n y = Crc.steps n x) ∧ Drawn w wr) (fun v _ _ => (intOf v).toNat)
  case atStart => exact ⟨x, 0#64, rfl, rfl, by show _ = _; simp, Drawn.refl w⟩
  case round =>
    obtain ⟨y, z, rfl, rfl, hz, hd⟩ := hrel
    by_cases h0 : y = 0#64
    · subst h0
      have hne : (((0#64 : BitVec 64).toNat : Int) != 0) = false := by decide
      go_wp2_with fail
      go_ret
      exact ⟨by have := hz.out; rw [Crc.steps_zero, BitVec.xor_zero] at this; rw [this]; rfl, hd⟩
    · obtain ⟨k, hk⟩ := Crc.low_exists y h0
      have hne : ((y.toNat : Int) != 0) = true := by
        rw [bne_iff_ne]
        intro e
        exact h0 (BitVec.eq_of_toNat_eq (by simp; omega))
      have hcell := hd.mat hm k hk.lt
      have hk0 : (0 : Int) ≤ (k : Int) := by omega
      have hk1 : (k : Int) < 64 := by have := hk.lt; omega
      have htr := hd.tab ht
      have hnext := Lib.hid (congrArg (z ^^^ ·) (Crc.steps_low n k y))
      have hlt := Crc.low_less hk
      have hlow := low_int y k hk
      clear ht hm h0
      go_wp2_with fail
      go_quiet ((go_at_call 16; exact Calls.quiet_of_same ((trailing_any y k hk _ (htr.drewN _)).mono fun _ _ h => ⟨h.1, h.2.symm⟩)))
      go_wp2_with fail
      go_roundw
      case rel => exact ⟨y ^^^ (1#64 <<< k), z ^^^ Crc.steps n (1#64 <<< k), rfl, by rw [int_xor], Lib.hid (by have h1 := hnext.out; have h2 := hz.out; rw [h2] at h1; rw [h1, BitVec.xor_assoc]), hd.more _⟩
      case measure => simpa [intOf] using hlt
end Go.Proofs.YtcopannnaejbpaaDoor
