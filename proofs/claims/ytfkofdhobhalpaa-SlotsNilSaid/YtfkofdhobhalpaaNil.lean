/-
  SlotsNil: no row has nothing: whatever the slot, the value, the number: the call answers true.
-/
import Derived.Test.YtfkofdhobhalpaaWakes
import Derived.Test.YtfkofdhobhalpaaLaw
import Derived.ChangeMaps5
namespace Go.Proofs.Ytfkofdhobhalpaa
open Go.RowKit Go.Maps Go.BigFrame

set_option maxRecDepth 100000 in
set_option maxHeartbeats 1600000 in
theorem law_nil (k most : Int) (v : ByteArray) (w : World) (hk : U k) : Calls Try.prog 5 #[.int .u64 k, .string v, .int .i64 most] w fun r w' => r = .returned (.bool true) ∧ Below w.heap.size w w' := by
  have hku := u_iff.1 hk
  go_enter Try.func5, Try.ntmps5
  go_wp2_with fail
  refine (next_nil _).mono ?_
  rintro e w1 ⟨rfl, hb⟩
  go_upto_region 3 with (first | (refine wpList_store_row (P := Try.prog) rfl 33 (.tmp 8) (.tmp 15) rfl w1.heap.size (item 0 ByteArray.empty) rfl rfl 33 _ (heap_alloc_new w1 _) (size_item _ _) rfl (one_item _ _) ?_))
  refine code_from (fun wd => ItemIn wd w1.heap.size 0 ByteArray.empty ∧ Below w.heap.size w wd) ⟨item_new, item_below hb _ _⟩ ?_
  have h7 := hb.size
  clear hb
  generalize w1.heap.size = b at *
  clear w1
  rintro w1 ⟨hi, hb⟩
  go_wp2_with fail
  refine (get_nil _ _).mono ?_
  rintro e w2 ⟨rfl, rfl⟩
  go_wp2_with fail
  refine (put_nil _ _ _).mono ?_
  rintro e w2 ⟨rfl, hb2⟩
  replace hi : ItemIn w2 b 0 ByteArray.empty := (hb2.block _ (block_lt hi)).trans hi
  replace hb := hb.trans (hb2.mono hb.size)
  clear hb2 w1
  go_wp2_with fail
  refine (keep_nil _ _).mono ?_
  rintro e w1 ⟨rfl, hb2⟩
  replace hi : ItemIn w1 b 0 ByteArray.empty := (hb2.block _ (block_lt hi)).trans hi
  replace hb := hb.trans (hb2.mono hb.size)
  clear hb2 w2
  go_wp2_with fail
  refine (jump_nil _ _).mono ?_
  rintro e w2 ⟨rfl, hb2⟩
  replace hi : ItemIn w2 b 0 ByteArray.empty := (hb2.block _ (block_lt hi)).trans hi
  replace hb := hb.trans (hb2.mono hb.size)
  clear hb2 w1
  have i0 : w2.cell? ⟨b, 0, none⟩ = some (.int .u64 0) := cell_of_row _ _ 0 _ _ _ hi
  have i1 : w2.cell? ⟨b, 1, none⟩ = some (.string ByteArray.empty) := cell_of_row _ _ 1 _ _ _ hi
  have hgi := guard_item
  have heq : ∀ wx, (binOp .eql 33 (.agg #[.int .u64 0, .string ByteArray.empty]) (.agg #[.int .u64 0, .string ⟨#[]⟩])).run Try.prog wx = .ok (.bool true) wx := fun wx => by
    have h := eq_item 0 0 ByteArray.empty ByteArray.empty wx
    rw [same_self] at h
    exact h
  go_wp2_with fail
  refine (items_nil k most _ hku.1 hku.2).mono ?_
  rintro e w1 ⟨rfl, rfl⟩
  go_wp2_with fail
  refine (base_nil _).mono ?_
  rintro e w1 ⟨rfl, rfl⟩
  go_wp2_with fail
  refine (top_nil _).mono ?_
  rintro e w1 ⟨rfl, rfl⟩
  go_wp2_with fail
  refine (last_nil _).mono ?_
  rintro e w1 ⟨rfl, rfl⟩
  go_wp2_with fail
  refine (wakes_any _).mono ?_
  rintro e w1 ⟨rfl, hb2⟩
  go_wp2_with fail
  go_ret
  exact ⟨rfl, hb.trans (hb2.mono hb.size)⟩

section
open Go.ChangeShapes Go.WideShapes Go.ChangeAt
set_option maxRecDepth 100000 in
theorem nil_lifted (os : Os) (started : os.Started) (H : Type) (enc : TypeId × Value → H) :
    ReturnsInHanded {} Try.checked os 5 .any (Rows.slotsNilSpec.pre6 enc Try.prog Try.f5 Rows.slotsNilRow.domain false) (Rows.slotsNilSpec.post enc Try.prog Try.f5 false true false false) := by
  refine returnsInHanded_of_change (C := Try.checked) Try.own started (by kernel_rfl) Try.func5
    (ChangeSpec.witness6 (enc := enc) (C := Try.checked) false ⟨#[], #[.int .u64 0, .string ByteArray.empty, .int .i64 0], []⟩ 8 (by kernel_rfl) (by kernel_rfl) (by kernel_rfl) (by kernel_rfl)) ?_
  intro W base args ds gs before hval0 hW hcnd _
  have hval : ∀ (j : Nat) t v, Try.f5.params[j]? = some t → args[j]? = some v → Value.okWide Try.prog W .any base t v := hval0
  have hW' := hW
  obtain ⟨p, q, hA0, hV, rfl, hfz, hnd⟩ := hW
  have hA : DataW.TrodAll enc Try.prog W 0 (fun _ => true) true Try.f5.params.toList args.toList ds p := hA0
  rw [Try.params5] at hA hval
  obtain ⟨v0, v1, v2, d0, d1, d2, p0, p1, p2, rfl, rfl, rfl, h0, h1, h2⟩ := trodAll_three hA
  obtain ⟨a, rfl, rfl, rfl, wa⟩ := open_int Try.underlying29 (hval 0 29 v0 rfl rfl) h0
  obtain ⟨s, rfl, _⟩ := Go.ChangeMaps.open_string Try.underlying9 (hval 1 9 v1 rfl rfl) h1
  obtain ⟨n, rfl, rfl, rfl, wn⟩ := open_int Try.underlying3 (hval 2 3 v2 rfl rfl) h2
  refine (law_nil a n s W wa).mono fun e W' ⟨he, hw⟩ => ?_
  subst he
  exact ⟨_, rfl, law_post Try.laidOut Try.underlying4 (by kernel_rfl) (by kernel_rfl) rfl hW' rfl hw⟩

theorem nil_holds : Rows.SlotsNilSaid :=
  OpenClaim.holds_of_wide 5 Try.f5 rfl rfl rfl rfl rfl rfl rfl ⟨rfl, rfl, rfl, rfl, rfl⟩ rfl rfl rfl rfl rfl (by kernel_rfl) Try.func5 (by kernel_rfl)
    (of_decide_eq_true (by kernel_rfl)) (by unfold Func.isWrapper; rw [if_neg (of_decide_eq_false (by kernel_rfl))]; exact ⟨rfl, rfl⟩)
    (fun os started H enc _ => nil_lifted os started H enc)
end
#print axioms nil_holds
end Go.Proofs.Ytfkofdhobhalpaa
