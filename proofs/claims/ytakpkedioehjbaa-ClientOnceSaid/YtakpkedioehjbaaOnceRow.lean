/-
  ClientOnce: whatever a client hears, of each command one reply is taken at most; the call answers true.
-/
import Derived.Test.YtakpkedioehjbaaOnce
import Derived.Test.YtakpkedioehjbaaOnceNo
namespace Go.Proofs.Ytakpkedioehjbaa
open Go.ChangeShapes Go.WideShapes Go.ChangeAt Go.RowKit

theorem once_any (id n : Int) (v : Value) (L : List Deed) (w : World) (hi : (Lit.int .u8 id).wf = true) (hv : Deeds w v L) :
    Calls Try.prog 5 #[.int .u8 id, .int .i64 n, v] w fun r w' => r = .returned (.bool true) ∧ Below w.heap.size w w' := by
  by_cases h : id < 4 ∧ 1 ≤ n ∧ n ≤ 7
  · cases hv with
    | none => exact once_none id n w (u8_low hi).1 h.1 h.2.1 h.2.2
    | some a L cap hL hf hn => exact once_go id n L a cap w hL hn hf (u8_low hi).1 h.1 h.2.1 h.2.2
  · exact once_no id n v L w hv h

set_option maxRecDepth 100000 in
theorem once_lifted (os : Os) (started : os.Started) (H : Type) (enc : TypeId × Value → H) :
    ReturnsInHanded {} Try.checked os 5 .any (Rows.clientOnceSpec.pre6 enc Try.prog Try.f5 Rows.clientOnceRow.domain false) (Rows.clientOnceSpec.post enc Try.prog Try.f5 false true false false) := by
  refine returnsInHanded_of_change (C := Try.checked) Try.own started (by kernel_rfl) Try.func5
    (ChangeSpec.witness6 (enc := enc) (C := Try.checked) false ⟨#[], #[.int .u8 0, .int .i64 0, .slice none 0 0], []⟩ 8 (by kernel_rfl) (by kernel_rfl) (by kernel_rfl) (by kernel_rfl)) ?_
  intro W base args ds gs before hval0 hW hcnd _
  have hval : ∀ (j : Nat) t v, Try.f5.params[j]? = some t → args[j]? = some v → Value.okWide Try.prog W .any base t v := hval0
  have hW' := hW
  obtain ⟨p, q, hA0, hV, rfl, hfz, hnd⟩ := hW
  have hA : DataW.TrodAll enc Try.prog W 0 (fun _ => true) true Try.f5.params.toList args.toList ds p := hA0
  rw [Try.params5] at hA hval
  obtain ⟨v0, v1, v2, d0, d1, d2, p0, p1, p2, rfl, rfl, rfl, h0, h1, h2⟩ := trodAll_three hA
  obtain ⟨a, rfl, rfl, rfl, wa⟩ := open_int Try.underlying5 (hval 0 5 v0 rfl rfl) h0
  obtain ⟨n, rfl, rfl, rfl, wn⟩ := open_int Try.underlying3 (hval 1 3 v1 rfl rfl) h1
  obtain ⟨L, hL⟩ := open_deeds (hval 2 22 v2 rfl rfl) h2
  refine (once_any a n v2 L W wa hL).mono fun e W' ⟨he, hw⟩ => ?_
  subst he
  exact ⟨_, rfl, law_post Try.laidOut Try.underlying4 (by kernel_rfl) (by kernel_rfl) rfl hW' rfl hw⟩

theorem once_holds : Rows.ClientOnceSaid :=
  OpenClaim.holds_of_wide 5 Try.f5 rfl rfl rfl rfl rfl rfl rfl ⟨rfl, rfl, rfl, rfl, rfl⟩ rfl rfl rfl rfl rfl (by kernel_rfl) Try.func5 (by kernel_rfl)
    (of_decide_eq_true (by kernel_rfl)) (by unfold Func.isWrapper; rw [if_neg (of_decide_eq_false (by kernel_rfl))]; exact ⟨rfl, rfl⟩)
    (fun os started H enc _ => once_lifted os started H enc)
#print axioms once_holds
end Go.Proofs.Ytakpkedioehjbaa
