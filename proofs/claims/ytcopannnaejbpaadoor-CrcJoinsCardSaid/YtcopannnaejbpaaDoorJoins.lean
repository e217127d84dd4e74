/-
  CrcJoins: for every input the program's Join is the reference's, and the call answers true. The table of math/bits is as the program's text lays it (the card ties it).
-/
import Derived.Test.YtcopannnaejbpaaDoorDoor
import Derived.Test.YtcopannnaejbpaaDoorCards
import Derived.Test.YtcopannnaejbpaaDoorTie
namespace Go.Proofs.YtcopannnaejbpaaDoor
open Go.ChangeShapes Go.WideShapes Go.ChangeAt Go.RowKit

theorem ref_join_end (a b : BitVec 64) (n : Int) : bits .xor .u64 ((Crc.steps (8 * n).toNat a).toNat : Int) (b.toNat : Int) = ((Crc.join a b n.toNat).toNat : Int) := by
  rw [int_xor, Crc.join, show (8 * n).toNat = 8 * n.toNat by omega]

set_option maxRecDepth 100000 in
set_option maxHeartbeats 400000 in
theorem ref_join_any (a b : BitVec 64) (n : Int) (w : World) (hn : n ≤ 5000) (hl : -9223372036854775808 ≤ n) :
    Calls Tryd.prog 8 #[.int .u64 (a.toNat : Int), .int .u64 (b.toNat : Int), .int .i64 n] w fun e w' => e = .returned (.int .u64 ((Crc.join a b n.toNat).toNat : Int)) ∧ w = w' := by
  by_cases h0 : n < 0
  · go_enter Tryd.func8, Tryd.ntmps8
    go_wp2_with fail
    refine (steps_any _ _ _ (by omega)).mono ?_
    rintro e w' ⟨rfl, rfl⟩
    go_wp2_with fail
    go_ret
    refine ⟨ret_u64 ?_, rfl⟩
    have := ref_join_end a b 0
    rw [show n.toNat = (0 : Int).toNat by omega]
    exact this
  · go_enter Tryd.func8, Tryd.ntmps8
    go_wp2_with fail
    refine (steps_any _ _ _ (by omega)).mono ?_
    rintro e w' ⟨rfl, rfl⟩
    go_wp2_with fail
    go_ret
    exact ⟨ret_u64 (ref_join_end a b n), rfl⟩

set_option maxRecDepth 100000 in
set_option maxHeartbeats 400000 in
theorem joins_any (a b : BitVec 64) (n : Int) (w : World) (hl : -9223372036854775808 ≤ n) (hK : Keeps w w) :
    Calls Tryd.prog 3 #[.int .u64 (a.toNat : Int), .int .u64 (b.toNat : Int), .int .i64 n] w fun e w' => e = .returned (.bool true) ∧ Below w.heap.size w w' := by
  by_cases h1 : n ≤ 5000
  · go_enter Tryd.func3, Tryd.ntmps3
    go_wp2_with fail
    refine (hK.joins _ _ _ (by omega)).mono ?_
    rintro e w' ⟨rfl, hK'⟩
    go_wp2_with fail
    refine (ref_join_any _ _ _ _ h1 hl).mono ?_
    rintro e w2 ⟨rfl, rfl⟩
    go_wp2_with fail
    refine (wakes_any _).mono ?_
    rintro e w2 ⟨rfl, rfl⟩
    go_wp2_with fail
    go_ret
    exact ⟨rfl, hK'.below⟩
  · go_enter Tryd.func3, Tryd.ntmps3
    go_wp2_with fail
    refine (wakes_any _).mono ?_
    rintro e w2 ⟨rfl, rfl⟩
    go_wp2_with fail
    go_ret
    exact ⟨rfl, Below.refl _ _⟩

set_option maxRecDepth 100000 in
theorem joins_lifted (os : Os) (started : os.Started) (H : Type) (enc : TypeId × Value → H) :
    ReturnsInHanded {} Tryd.checked os 3 .any (fun w args => (Rows.crcJoinsSpec.pre enc Tryd.prog Tryd.f3 [] false w args ∧ laidMetH Tryd.prog laid w) ∧ sizedMet enc Tryd.prog Tryd.f3 (OpenSpec.ofChange Rows.crcJoinsSpec) false w args)
      (Rows.crcJoinsSpec.post enc Tryd.prog Tryd.f3 false true false false) := by
  refine returnsInHanded_of_change_and (C := Tryd.checked) (X := fun w _ => laidMetH Tryd.prog laid w) (fun _ _ _ hh h => h.of_heap hh) Tryd.own started (by kernel_rfl) Tryd.func3
    (ChangeSpec.witness_at (enc := enc) (C := Tryd.checked) (os := os) (X := fun w _ => laidMetH Tryd.prog laid w) false (laidWorld os) #[.int .u64 0, .int .u64 0, .int .i64 0] 8 rfl (by kernel_rfl) (by kernel_rfl) (by kernel_rfl) (by kernel_rfl) (by kernel_rfl) (laidWorld_met os _)) ?_
  intro W base args ds gs before hval0 hW _ _ hL _
  have hval : ∀ (j : Nat) t v, Tryd.f3.params[j]? = some t → args[j]? = some v → Value.okWide Tryd.prog W .any base t v := hval0
  have hW' := hW
  obtain ⟨p, q, hA0, hV, rfl, hfz, hnd⟩ := hW
  have hA : DataW.TrodAll enc Tryd.prog W 0 (fun _ => true) true Tryd.f3.params.toList args.toList ds p := hA0
  rw [Tryd.params3] at hA hval
  obtain ⟨v0, v1, v2, d0, d1, d2, p0, p1, p2, rfl, rfl, rfl, h0, h1, h2⟩ := trodAll_three hA
  obtain ⟨m0, rfl, rfl, rfl, w0⟩ := open_int Tryd.underlying22 (hval 0 22 v0 rfl rfl) h0
  obtain ⟨m1, rfl, rfl, rfl, w1⟩ := open_int Tryd.underlying22 (hval 1 22 v1 rfl rfl) h1
  obtain ⟨n, rfl, rfl, rfl, wn⟩ := open_int Tryd.underlying3 (hval 2 3 v2 rfl rfl) h2
  obtain ⟨a, rfl⟩ := bv_of w0
  obtain ⟨b, rfl⟩ := bv_of w1
  have hn := bounds_i64 wn
  refine (joins_any a b n W hn.1 (Keeps.start (tab_of_laid hL))).mono fun e W' ⟨he, hw⟩ => ?_
  subst he
  exact ⟨_, rfl, law_post Tryd.laidOut Tryd.underlying4 (by kernel_rfl) (by kernel_rfl) rfl hW' rfl hw⟩

theorem joins_row : Rows.CrcJoinsSaid :=
  OpenClaim.holds_of_wide 3 Tryd.f3 rfl rfl rfl rfl rfl rfl rfl ⟨rfl, rfl, rfl, rfl, rfl⟩ rfl rfl rfl rfl rfl (by kernel_rfl) Tryd.func3 (by kernel_rfl)
    (of_decide_eq_true (by kernel_rfl)) (by unfold Func.isWrapper; rw [if_neg (of_decide_eq_false (by kernel_rfl))]; exact ⟨rfl, rfl⟩)
    (fun os started H enc _ => joins_lifted os started H enc)

theorem joins_card : Rows.CrcJoinsCardSaid :=
  Claim7.holds_tied_plain_at .later [] [.data] true (true, "05831dd2a190ffa947e60e305967cbcea72aa19f432c4cdacd4d9ee02d6953c6") false
    joins_row (fun _ h => by cases h) (by kernel_rfl) (fun _ h => by cases h) crcJoins_row_tie rfl ⟨rfl, rfl⟩ (by kernel_rfl) rfl
    (fun f fn hf hfn => by
      obtain rfl : f = 3 := Option.some.inj ((show Tryd.prog.funcNamed "palaver/palaverlaw02.CrcJoins" = some 3 by kernel_rfl).symm.trans hf) |>.symm
      obtain rfl : fn = Tryd.f3 := (Option.some.inj (Tryd.func3.symm.trans hfn)).symm
      refine ⟨by kernel_rfl, fun j t ht => ?_⟩
      rw [Tryd.params3] at ht
      have hall : ∀ t ∈ [22, 22, 3], Tryd.prog.wantsStandIn t = false := by
        intro t h
        simp only [List.mem_cons, List.not_mem_nil, or_false] at h
        rcases h with rfl | rfl | rfl
        · exact (show Tryd.prog.wantsStandIn 22 = false by kernel_rfl)
        · exact (show Tryd.prog.wantsStandIn 22 = false by kernel_rfl)
        · exact (show Tryd.prog.wantsStandIn 3 = false by kernel_rfl)
      exact hall t (by
        have := Array.mem_of_getElem? ht
        simpa using this))
    (by kernel_rfl)
#print axioms joins_card
end Go.Proofs.YtcopannnaejbpaaDoor
