/-
  CrcParts: for every input a text's checksum is that of its parts, joined, and the call answers true. The table of math/bits is as the program's text lays it (the card ties it).
-/
import Derived.Test.YtcopannnaejbpaaDoorDoor
import Derived.Test.YtcopannnaejbpaaDoorCards
import Derived.Test.YtcopannnaejbpaaDoorTie
namespace Go.Proofs.YtcopannnaejbpaaDoor
open Go.ChangeShapes Go.WideShapes Go.ChangeAt Go.RowKit
open Go.ChangeMaps (open_string shut_string)

theorem small_max (s : ByteArray) (h : s.size ≤ 9000) : s.size ≤ maxLen := by
  unfold maxLen
  omega

theorem data_append (a b : ByteArray) : (a ++ b).data.toList = a.data.toList ++ b.data.toList := by simp
theorem size_list (a : ByteArray) : a.data.toList.length = a.size := by simp
theorem parts_one (a b c : ByteArray) : Crc.join (Crc.join (Crc.sum a.data.toList) (Crc.sum b.data.toList) b.size) (Crc.sum c.data.toList) c.size = Crc.sum (a ++ b ++ c).data.toList := by
  rw [data_append, data_append, Crc.sum_append, Crc.sum_append, size_list, size_list]
theorem parts_two (a b c : ByteArray) : Crc.join (Crc.sum a.data.toList) (Crc.join (Crc.sum b.data.toList) (Crc.sum c.data.toList) c.size) (b.size + c.size) = Crc.sum (a ++ b ++ c).data.toList := by
  rw [← parts_one, Crc.join_assoc]
theorem parts_three (a b c : ByteArray) : Crc.more (Crc.more (Crc.sum a.data.toList) b.data.toList) c.data.toList = Crc.sum (a ++ b ++ c).data.toList := by
  rw [data_append, data_append]
  unfold Crc.sum
  rw [Crc.more_append, Crc.more_append]
theorem parts_four (x : BitVec 64) : Crc.join x 0#64 (0 : Int).toNat = x := by
  show x ^^^ 0#64 = x
  simp

set_option maxRecDepth 100000 in
set_option maxHeartbeats 400000 in
theorem parts_small (a b c : ByteArray) (w : World) (ha : a.size ≤ 3000) (hb : b.size ≤ 3000) (hc : c.size ≤ 3000) (hK : Keeps w w) :
    Calls Tryd.prog 4 #[.string a, .string b, .string c] w fun e w' => e = .returned (.bool true) ∧ Below w.heap.size w w' := by
  have ma := Lib.hid (small_max a (by omega))
  have mb := Lib.hid (small_max b (by omega))
  have mc := Lib.hid (small_max c (by omega))
  have mall := Lib.hid (small_max (a ++ b ++ c) (by simp [ByteArray.size_append]; omega))
  have f1 := Lib.hid (parts_one a b c)
  have f2 := Lib.hid (parts_two a b c)
  have f3 := Lib.hid (parts_three a b c)
  have f4 := Lib.hid (parts_four (Crc.sum a.data.toList))
  go_enter Tryd.func4, Tryd.ntmps4
  go_wp2_with fail
  refine (sum_any _ _ ma.out).mono ?_
  rintro e w' ⟨rfl, rfl⟩
  go_wp2_with fail
  refine (sum_any _ _ mb.out).mono ?_
  rintro e w' ⟨rfl, rfl⟩
  go_wp2_with fail
  refine (sum_any _ _ mc.out).mono ?_
  rintro e w' ⟨rfl, rfl⟩
  go_wp2_with fail
  refine (sum_any _ _ mall.out).mono ?_
  rintro e w' ⟨rfl, rfl⟩
  generalize Crc.sum (a ++ b ++ c).data.toList = all at f1 f2 f3 ⊢
  generalize Crc.sum a.data.toList = x at f1 f2 f3 f4 ⊢
  generalize Crc.sum b.data.toList = y at f1 f2 f3 f4 ⊢
  generalize Crc.sum c.data.toList = z at f1 f2 f3 f4 ⊢
  go_wp2_with fail
  refine (hK.joins x y _ (by omega)).mono ?_
  rintro e w1 ⟨rfl, hK1⟩
  rw [Int.toNat_natCast]
  go_wp2_with fail
  refine (hK1.joins _ z _ (by omega)).mono ?_
  rintro e w2 ⟨rfl, hK2⟩
  rw [Int.toNat_natCast, f1.out]
  go_wp2_with fail
  refine (hK2.joins y z _ (by omega)).mono ?_
  rintro e w3 ⟨rfl, hK3⟩
  rw [Int.toNat_natCast]
  go_wp2_with fail
  refine (hK3.joins x _ _ (by omega)).mono ?_
  rintro e w4 ⟨rfl, hK4⟩
  rw [show ((b.size : Int) + (c.size : Int)).toNat = b.size + c.size by omega, f2.out]
  go_wp2_with fail
  refine (more_any x _ _ mb.out).mono ?_
  rintro e w' ⟨rfl, rfl⟩
  go_wp2_with fail
  refine (more_any _ _ _ mc.out).mono ?_
  rintro e w' ⟨rfl, rfl⟩
  rw [f3.out]
  go_wp2_with fail
  refine (hK4.joins x 0#64 0 (by omega)).mono ?_
  rintro e w5 ⟨rfl, hK5⟩
  rw [f4.out]
  go_wp2_with fail
  refine (wakes_any _).mono ?_
  rintro e w' ⟨rfl, rfl⟩
  go_wp2_with fail
  go_ret
  exact ⟨rfl, hK5.below⟩

set_option maxRecDepth 100000 in
set_option maxHeartbeats 400000 in
theorem parts_any (a b c : ByteArray) (w : World) (wa : a.size ≤ maxLen) (wb : b.size ≤ maxLen) (wc : c.size ≤ maxLen) (hK : Keeps w w) :
    Calls Tryd.prog 4 #[.string a, .string b, .string c] w fun e w' => e = .returned (.bool true) ∧ Below w.heap.size w w' := by
  unfold maxLen at wa wb wc
  by_cases ha : a.size ≤ 3000
  · by_cases hb : b.size ≤ 3000
    · by_cases hc : c.size ≤ 3000
      · exact parts_small a b c w ha hb hc hK
      · go_enter Tryd.func4, Tryd.ntmps4
        go_wp2_with fail
        refine (wakes_any _).mono ?_
        rintro e w' ⟨rfl, rfl⟩
        go_wp2_with fail
        go_ret
        exact ⟨rfl, Below.refl _ _⟩
    · go_enter Tryd.func4, Tryd.ntmps4
      go_wp2_with fail
      refine (wakes_any _).mono ?_
      rintro e w' ⟨rfl, rfl⟩
      go_wp2_with fail
      go_ret
      exact ⟨rfl, Below.refl _ _⟩
  · go_enter Tryd.func4, Tryd.ntmps4
    go_wp2_with fail
    refine (wakes_any _).mono ?_
    rintro e w' ⟨rfl, rfl⟩
    go_wp2_with fail
    go_ret
    exact ⟨rfl, Below.refl _ _⟩

set_option maxRecDepth 100000 in
theorem parts_lifted (os : Os) (started : os.Started) (H : Type) (enc : TypeId × Value → H) :
    ReturnsInHanded {} Tryd.checked os 4 .any (fun w args => (Rows.crcPartsSpec.pre enc Tryd.prog Tryd.f4 [] false w args ∧ laidMetH Tryd.prog laid w) ∧ sizedMet enc Tryd.prog Tryd.f4 (OpenSpec.ofChange Rows.crcPartsSpec) false w args)
      (Rows.crcPartsSpec.post enc Tryd.prog Tryd.f4 false true false false) := by
  refine returnsInHanded_of_change_and (C := Tryd.checked) (X := fun w _ => laidMetH Tryd.prog laid w) (fun _ _ _ hh h => h.of_heap hh) Tryd.own started (by kernel_rfl) Tryd.func4
    (ChangeSpec.witness_at (enc := enc) (C := Tryd.checked) (os := os) (X := fun w _ => laidMetH Tryd.prog laid w) false (laidWorld os) #[.string ByteArray.empty, .string ByteArray.empty, .string ByteArray.empty] 8 rfl (by kernel_rfl) (by kernel_rfl) (by kernel_rfl) (by kernel_rfl) (by kernel_rfl) (laidWorld_met os _)) ?_
  intro W base args ds gs before hval0 hW _ _ hL _
  have hval : ∀ (j : Nat) t v, Tryd.f4.params[j]? = some t → args[j]? = some v → Value.okWide Tryd.prog W .any base t v := hval0
  have hW' := hW
  obtain ⟨p, q, hA0, hV, rfl, hfz, hnd⟩ := hW
  have hA : DataW.TrodAll enc Tryd.prog W 0 (fun _ => true) true Tryd.f4.params.toList args.toList ds p := hA0
  rw [Tryd.params4] at hA hval
  obtain ⟨v0, v1, v2, d0, d1, d2, p0, p1, p2, rfl, rfl, rfl, h0, h1, h2⟩ := trodAll_three hA
  obtain ⟨s0, rfl, rfl, rfl, w0⟩ := open_string Tryd.underlying9 (hval 0 9 v0 rfl rfl) h0
  obtain ⟨s1, rfl, rfl, rfl, w1⟩ := open_string Tryd.underlying9 (hval 1 9 v1 rfl rfl) h1
  obtain ⟨s2, rfl, rfl, rfl, w2⟩ := open_string Tryd.underlying9 (hval 2 9 v2 rfl rfl) h2
  refine (parts_any s0 s1 s2 W w0 w1 w2 (Keeps.start (tab_of_laid hL))).mono fun e W' ⟨he, hw⟩ => ?_
  subst he
  exact ⟨_, rfl, law_post Tryd.laidOut Tryd.underlying4 (by kernel_rfl) (by kernel_rfl) rfl hW' rfl hw⟩

theorem parts_row : Rows.CrcPartsSaid :=
  OpenClaim.holds_of_wide 4 Tryd.f4 rfl rfl rfl rfl rfl rfl rfl ⟨rfl, rfl, rfl, rfl, rfl⟩ rfl rfl rfl rfl rfl (by kernel_rfl) Tryd.func4 (by kernel_rfl)
    (of_decide_eq_true (by kernel_rfl)) (by unfold Func.isWrapper; rw [if_neg (of_decide_eq_false (by kernel_rfl))]; exact ⟨rfl, rfl⟩)
    (fun os started H enc _ => parts_lifted os started H enc)

theorem parts_card : Rows.CrcPartsCardSaid :=
  Claim7.holds_tied_plain_at .later [] [.data] true (true, "05831dd2a190ffa947e60e305967cbcea72aa19f432c4cdacd4d9ee02d6953c6") false
    parts_row (fun _ h => by cases h) (by kernel_rfl) (fun _ h => by cases h) crcParts_row_tie rfl ⟨rfl, rfl⟩ (by kernel_rfl) rfl
    (fun f fn hf hfn => by
      obtain rfl : f = 4 := Option.some.inj ((show Tryd.prog.funcNamed "palaver/palaverlaw02.CrcParts" = some 4 by kernel_rfl).symm.trans hf) |>.symm
      obtain rfl : fn = Tryd.f4 := (Option.some.inj (Tryd.func4.symm.trans hfn)).symm
      refine ⟨by kernel_rfl, fun j t ht => ?_⟩
      rw [Tryd.params4] at ht
      have hall : ∀ t ∈ [9, 9, 9], Tryd.prog.wantsStandIn t = false := by
        intro t h
        simp only [List.mem_cons, List.not_mem_nil, or_false] at h
        rcases h with rfl | rfl | rfl
        · exact (show Tryd.prog.wantsStandIn 9 = false by kernel_rfl)
        · exact (show Tryd.prog.wantsStandIn 9 = false by kernel_rfl)
        · exact (show Tryd.prog.wantsStandIn 9 = false by kernel_rfl)
      exact hall t (by
        have := Array.mem_of_getElem? ht
        simpa using this))
    (by kernel_rfl)
#print axioms parts_card
end Go.Proofs.YtcopannnaejbpaaDoor
