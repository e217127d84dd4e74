/-
  ClientRound: whatever the numbers: nudged n times it asked every node once; the call answers true.
-/
import Derived.Test.YtakpkedioehjbaaRoundB
import Derived.Test.YtakpkedioehjbaaDeed
import Derived.Test.YtakpkedioehjbaaLaw
namespace Go.Proofs.Ytakpkedioehjbaa
open Go.ChangeShapes Go.WideShapes Go.ChangeAt Go.RowKit

theorem round_any (id n m : Int) (w : World) (hi : (Lit.int .u8 id).wf = true) (hm : (Lit.int .u8 m).wf = true) :
    Calls Try.prog 6 #[.int .u8 id, .int .i64 n, .int .u8 m] w fun r w' => r = .returned (.bool true) ∧ Below w.heap.size w w' := by
  by_cases h : id < 4 ∧ 1 ≤ n ∧ n ≤ 7
  · exact round_yes id n m w (u8_low hi).1 h.1 h.2.1 h.2.2 (u8_low hm).1 (u8_low hm).2
  · exact round_no id n m w h

set_option maxRecDepth 100000 in
theorem round_lifted (os : Os) (started : os.Started) (H : Type) (enc : TypeId × Value → H) :
    ReturnsInHanded {} Try.checked os 6 .any (Rows.clientRoundSpec.pre6 enc Try.prog Try.f6 Rows.clientRoundRow.domain false) (Rows.clientRoundSpec.post enc Try.prog Try.f6 false true false false) := by
  refine returnsInHanded_of_change (C := Try.checked) Try.own started (by kernel_rfl) Try.func6
    (ChangeSpec.witness6 (enc := enc) (C := Try.checked) false ⟨#[], #[.int .u8 0, .int .i64 0, .int .u8 0], []⟩ 8 (by kernel_rfl) (by kernel_rfl) (by kernel_rfl) (by kernel_rfl)) ?_
  intro W base args ds gs before hval0 hW hcnd _
  have hval : ∀ (j : Nat) t v, Try.f6.params[j]? = some t → args[j]? = some v → Value.okWide Try.prog W .any base t v := hval0
  have hW' := hW
  obtain ⟨p, q, hA0, hV, rfl, hfz, hnd⟩ := hW
  have hA : DataW.TrodAll enc Try.prog W 0 (fun _ => true) true Try.f6.params.toList args.toList ds p := hA0
  rw [Try.params6] at hA hval
  obtain ⟨v0, v1, v2, d0, d1, d2, p0, p1, p2, rfl, rfl, rfl, h0, h1, h2⟩ := trodAll_three hA
  obtain ⟨a, rfl, rfl, rfl, wa⟩ := open_int Try.underlying5 (hval 0 5 v0 rfl rfl) h0
  obtain ⟨n, rfl, rfl, rfl, wn⟩ := open_int Try.underlying3 (hval 1 3 v1 rfl rfl) h1
  obtain ⟨m, rfl, rfl, rfl, wm⟩ := open_int Try.underlying5 (hval 2 5 v2 rfl rfl) h2
  refine (round_any a n m W wa wm).mono fun e W' ⟨he, hw⟩ => ?_
  subst he
  exact ⟨_, rfl, law_post Try.laidOut Try.underlying4 (by kernel_rfl) (by kernel_rfl) rfl hW' rfl hw⟩

theorem round_holds : Rows.ClientRoundSaid :=
  OpenClaim.holds_of_wide 6 Try.f6 rfl rfl rfl rfl rfl rfl rfl ⟨rfl, rfl, rfl, rfl, rfl⟩ rfl rfl rfl rfl rfl (by kernel_rfl) Try.func6 (by kernel_rfl)
    (of_decide_eq_true (by kernel_rfl)) (by unfold Func.isWrapper; rw [if_neg (of_decide_eq_false (by kernel_rfl))]; exact ⟨rfl, rfl⟩)
    (fun os started H enc _ => round_lifted os started H enc)
#print axioms round_holds
end Go.Proofs.Ytakpkedioehjbaa
