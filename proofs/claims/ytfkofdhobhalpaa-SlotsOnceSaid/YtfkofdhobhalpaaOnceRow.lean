/-
  SlotsOnce: whatever the base, whatever the acts: each slot is told once, in order, with the value that was put first; the call answers true.
-/
import Derived.Test.YtfkofdhobhalpaaOnce
import Derived.Test.YtfkofdhobhalpaaPiecesRow
namespace Go.Proofs.Ytfkofdhobhalpaa
open Go.RowKit Go.Maps

set_option maxRecDepth 100000 in
set_option maxHeartbeats 800000 in
theorem once_far (b0 : Int) (v : Value) (L : List Deed) (w : World) (hv : Deeds w v L) (h1 : 4611686018427387904 < b0) :
    Calls Try.prog 6 #[.int .u64 b0, v] w fun r w' => r = .returned (.bool true) ∧ Below w.heap.size w w' := by
  have HG := Lib.hid (great_deeds hv)
  clear hv
  go_enter Try.func6, Try.ntmps6
  go_wp2_with fail
  refine HG.out.mono ?_
  rintro e w1 ⟨⟨b, rfl, hb⟩, rfl⟩
  clear hb
  cases b <;>
  (go_wp2_with fail
   refine (wakes_any _).mono ?_
   rintro e w' ⟨rfl, hb⟩
   go_wp2_with fail
   go_ret
   exact ⟨rfl, hb⟩)
theorem once_any (b0 : Int) (v : Value) (L : List Deed) (w : World) (hv : Deeds w v L) (h : U b0) :
    Calls Try.prog 6 #[.int .u64 b0, v] w fun r w' => r = .returned (.bool true) ∧ Below w.heap.size w w' := by
  have h0 := u_iff.1 h
  by_cases h1 : b0 ≤ 4611686018427387904
  · exact once_go b0 v L w hv h0.1 h1
  · exact once_far b0 v L w hv (by omega)

section
open Go.ChangeShapes Go.WideShapes Go.ChangeAt
set_option maxRecDepth 100000 in
theorem once_lifted (os : Os) (started : os.Started) (H : Type) (enc : TypeId × Value → H) :
    ReturnsInHanded {} Try.checked os 6 .any (Rows.slotsOnceSpec.pre6 enc Try.prog Try.f6 Rows.slotsOnceRow.domain false) (Rows.slotsOnceSpec.post enc Try.prog Try.f6 false true false false) := by
  refine returnsInHanded_of_change (C := Try.checked) Try.own started (by kernel_rfl) Try.func6
    (ChangeSpec.witness6 (enc := enc) (C := Try.checked) false ⟨#[], #[.int .u64 0, .slice none 0 0], []⟩ 8 (by kernel_rfl) (by kernel_rfl) (by kernel_rfl) (by kernel_rfl)) ?_
  intro W base args ds gs before hval0 hW hcnd _
  have hval : ∀ (j : Nat) t v, Try.f6.params[j]? = some t → args[j]? = some v → Value.okWide Try.prog W .any base t v := hval0
  have hW' := hW
  obtain ⟨p, q, hA0, hV, rfl, hfz, hnd⟩ := hW
  have hA : DataW.TrodAll enc Try.prog W 0 (fun _ => true) true Try.f6.params.toList args.toList ds p := hA0
  rw [Try.params6] at hA hval
  obtain ⟨v0, v1, d0, d1, p0, p1, rfl, rfl, rfl, h0, h1⟩ := trodAll_two hA
  obtain ⟨n, rfl, rfl, rfl, wn⟩ := open_int Try.underlying29 (hval 0 29 v0 rfl rfl) h0
  obtain ⟨L, hL⟩ := open_deeds (hval 1 22 v1 rfl rfl) h1
  refine (once_any n v1 L W hL wn).mono fun e W' ⟨he, hw⟩ => ?_
  subst he
  exact ⟨_, rfl, law_post Try.laidOut Try.underlying4 (by kernel_rfl) (by kernel_rfl) rfl hW' rfl hw⟩

theorem once_holds : Rows.SlotsOnceSaid :=
  OpenClaim.holds_of_wide 6 Try.f6 rfl rfl rfl rfl rfl rfl rfl ⟨rfl, rfl, rfl, rfl, rfl⟩ rfl rfl rfl rfl rfl (by kernel_rfl) Try.func6 (by kernel_rfl)
    (of_decide_eq_true (by kernel_rfl)) (by unfold Func.isWrapper; rw [if_neg (of_decide_eq_false (by kernel_rfl))]; exact ⟨rfl, rfl⟩)
    (fun os started H enc _ => once_lifted os started H enc)
end
#print axioms once_holds
end Go.Proofs.Ytfkofdhobhalpaa
