/-
  CrcFar: for every input texts of noughts, however long, are joined as if they were there, and the call answers true. The table of math/bits is as the program's text lays it (the card ties it).
-/
import Derived.Test.YtcopannnaejbpaaDoorDoor
import Derived.Test.YtcopannnaejbpaaDoorCards
import Derived.Test.YtcopannnaejbpaaDoorTie
namespace Go.Proofs.YtcopannnaejbpaaDoor
open Go.ChangeShapes Go.WideShapes Go.ChangeAt Go.RowKit

theorem far_one (a b : BitVec 64) (X Y : Nat) : Crc.join (Crc.join a 0#64 X) b Y = Crc.join a b (X + Y) := by
  rw [Crc.join_assoc]
  unfold Crc.join
  rw [Crc.steps_zero, BitVec.zero_xor]
theorem far_two (a b : BitVec 64) (X Y : Nat) : Crc.join (Crc.join a 0#64 Y) b X = Crc.join a b (X + Y) := by
  rw [far_one, Nat.add_comm]
theorem far_three (a b : BitVec 64) (X : Nat) : Crc.join a b (-(X : Int) - 1).toNat = a ^^^ b := by
  rw [show (-(X : Int) - 1).toNat = 0 by omega]
  rfl

set_option maxRecDepth 100000 in
set_option maxHeartbeats 400000 in
theorem far_any (a b n m : BitVec 64) (w : World) (hK : Keeps w w) :
    Calls Tryd.prog 5 #[.int .u64 (a.toNat : Int), .int .u64 (b.toNat : Int), .int .u64 (n.toNat : Int), .int .u64 (m.toNat : Int)] w fun e w' => e = .returned (.bool true) ∧ Below w.heap.size w w' := by
  obtain ⟨X, hX, hX1⟩ : ∃ X : Nat, (n.toNat : Int) % 1152921504606846976 = (X : Int) ∧ (X : Int) < 1152921504606846976 := ⟨n.toNat % 1152921504606846976, by omega, by omega⟩
  obtain ⟨Y, hY, hY1⟩ : ∃ Y : Nat, (m.toNat : Int) % 1152921504606846976 = (Y : Int) ∧ (Y : Int) < 1152921504606846976 := ⟨m.toNat % 1152921504606846976, by omega, by omega⟩
  have f1 := Lib.hid (far_one a b X Y)
  have f2 := Lib.hid (far_two a b X Y)
  have f3 := Lib.hid (far_three a b X)
  have f4 : (((a ^^^ b).toNat : Int) == bits .xor .u64 (a.toNat : Int) (b.toNat : Int)) = true := by rw [int_xor]; simp
  generalize a ^^^ b = ab at f3 f4
  generalize hall : Crc.join a b (X + Y) = all at f1 f2
  have Hall := Lib.hid hall
  clear hall
  go_enter Tryd.func5, Tryd.ntmps5
  go_wp2_with fail
  clear hX hY
  refine (hK.joins a 0#64 X (by omega)).mono ?_
  rintro e w1 ⟨rfl, hK1⟩
  rw [Int.toNat_natCast]
  go_wp2_with fail
  refine (hK1.joins _ b Y (by omega)).mono ?_
  rintro e w2 ⟨rfl, hK2⟩
  rw [Int.toNat_natCast, f1.out]
  go_wp2_with fail
  refine (hK2.joins a b _ (by omega)).mono ?_
  rintro e w3 ⟨rfl, hK3⟩
  rw [show ((X : Int) + (Y : Int)).toNat = X + Y by omega, Hall.out]
  go_wp2_with fail
  refine (hK3.joins a 0#64 Y (by omega)).mono ?_
  rintro e w4 ⟨rfl, hK4⟩
  rw [Int.toNat_natCast]
  go_wp2_with fail
  refine (hK4.joins _ b X (by omega)).mono ?_
  rintro e w5 ⟨rfl, hK5⟩
  rw [Int.toNat_natCast, f2.out]
  go_wp2_with fail
  refine (hK5.joins a b _ (by omega)).mono ?_
  rintro e w6 ⟨rfl, hK6⟩
  rw [show ((X : Int) + (Y : Int)).toNat = X + Y by omega, Hall.out]
  go_wp2_with fail
  refine (hK6.joins a b _ (by omega)).mono ?_
  rintro e w7 ⟨rfl, hK7⟩
  rw [f3.out]
  go_wp2_with fail
  refine (wakes_any _).mono ?_
  rintro e w' ⟨rfl, rfl⟩
  go_wp2_with fail
  go_ret
  exact ⟨rfl, hK7.below⟩

set_option maxRecDepth 100000 in
theorem far_lifted (os : Os) (started : os.Started) (H : Type) (enc : TypeId × Value → H) :
    ReturnsInHanded {} Tryd.checked os 5 .any (fun w args => (Rows.crcFarSpec.pre enc Tryd.prog Tryd.f5 [] false w args ∧ laidMetH Tryd.prog laid w) ∧ sizedMet enc Tryd.prog Tryd.f5 (OpenSpec.ofChange Rows.crcFarSpec) false w args)
      (Rows.crcFarSpec.post enc Tryd.prog Tryd.f5 false true false false) := by
  refine returnsInHanded_of_change_and (C := Tryd.checked) (X := fun w _ => laidMetH Tryd.prog laid w) (fun _ _ _ hh h => h.of_heap hh) Tryd.own started (by kernel_rfl) Tryd.func5
    (ChangeSpec.witness_at (enc := enc) (C := Tryd.checked) (os := os) (X := fun w _ => laidMetH Tryd.prog laid w) false (laidWorld os) #[.int .u64 0, .int .u64 0, .int .u64 0, .int .u64 0] 8 rfl (by kernel_rfl) (by kernel_rfl) (by kernel_rfl) (by kernel_rfl) (by kernel_rfl) (laidWorld_met os _)) ?_
  intro W base args ds gs before hval0 hW _ _ hL _
  have hval : ∀ (j : Nat) t v, Tryd.f5.params[j]? = some t → args[j]? = some v → Value.okWide Tryd.prog W .any base t v := hval0
  have hW' := hW
  obtain ⟨p, q, hA0, hV, rfl, hfz, hnd⟩ := hW
  have hA : DataW.TrodAll enc Tryd.prog W 0 (fun _ => true) true Tryd.f5.params.toList args.toList ds p := hA0
  rw [Tryd.params5] at hA hval
  obtain ⟨v0, v1, v2, v3, d0, d1, d2, d3, p0, p1, p2, p3, rfl, rfl, rfl, h0, h1, h2, h3⟩ := trodAll_four hA
  obtain ⟨m0, rfl, rfl, rfl, w0⟩ := open_int Tryd.underlying22 (hval 0 22 v0 rfl rfl) h0
  obtain ⟨m1, rfl, rfl, rfl, w1⟩ := open_int Tryd.underlying22 (hval 1 22 v1 rfl rfl) h1
  obtain ⟨m2, rfl, rfl, rfl, w2⟩ := open_int Tryd.underlying22 (hval 2 22 v2 rfl rfl) h2
  obtain ⟨m3, rfl, rfl, rfl, w3⟩ := open_int Tryd.underlying22 (hval 3 22 v3 rfl rfl) h3
  obtain ⟨a, rfl⟩ := bv_of w0
  obtain ⟨b, rfl⟩ := bv_of w1
  obtain ⟨n, rfl⟩ := bv_of w2
  obtain ⟨m, rfl⟩ := bv_of w3
  refine (far_any a b n m W (Keeps.start (tab_of_laid hL))).mono fun e W' ⟨he, hw⟩ => ?_
  subst he
  exact ⟨_, rfl, law_post Tryd.laidOut Tryd.underlying4 (by kernel_rfl) (by kernel_rfl) rfl hW' rfl hw⟩

theorem far_row : Rows.CrcFarSaid :=
  OpenClaim.holds_of_wide 5 Tryd.f5 rfl rfl rfl rfl rfl rfl rfl ⟨rfl, rfl, rfl, rfl, rfl⟩ rfl rfl rfl rfl rfl (by kernel_rfl) Tryd.func5 (by kernel_rfl)
    (of_decide_eq_true (by kernel_rfl)) (by unfold Func.isWrapper; rw [if_neg (of_decide_eq_false (by kernel_rfl))]; exact ⟨rfl, rfl⟩)
    (fun os started H enc _ => far_lifted os started H enc)

theorem far_card : Rows.CrcFarCardSaid :=
  Claim7.holds_tied_plain_at .later [] [.data] true (true, "05831dd2a190ffa947e60e305967cbcea72aa19f432c4cdacd4d9ee02d6953c6") false
    far_row (fun _ h => by cases h) (by kernel_rfl) (fun _ h => by cases h) crcFar_row_tie rfl ⟨rfl, rfl⟩ (by kernel_rfl) rfl
    (fun f fn hf hfn => by
      obtain rfl : f = 5 := Option.some.inj ((show Tryd.prog.funcNamed "palaver/palaverlaw02.CrcFar" = some 5 by kernel_rfl).symm.trans hf) |>.symm
      obtain rfl : fn = Tryd.f5 := (Option.some.inj (Tryd.func5.symm.trans hfn)).symm
      refine ⟨by kernel_rfl, fun j t ht => ?_⟩
      rw [Tryd.params5] at ht
      have hall : ∀ t ∈ [22, 22, 22, 22], Tryd.prog.wantsStandIn t = false := by
        intro t h
        simp only [List.mem_cons, List.not_mem_nil, or_false] at h
        rcases h with rfl | rfl | rfl | rfl
        · exact (show Tryd.prog.wantsStandIn 22 = false by kernel_rfl)
        · exact (show Tryd.prog.wantsStandIn 22 = false by kernel_rfl)
        · exact (show Tryd.prog.wantsStandIn 22 = false by kernel_rfl)
        · exact (show Tryd.prog.wantsStandIn 22 = false by kernel_rfl)
      exact hall t (by
        have := Array.mem_of_getElem? ht
        simpa using this))
    (by kernel_rfl)
#print axioms far_card
end Go.Proofs.YtcopannnaejbpaaDoor
