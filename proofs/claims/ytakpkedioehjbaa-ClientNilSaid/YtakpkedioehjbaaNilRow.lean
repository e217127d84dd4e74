/-
  ClientNil: whatever the act: no client asks for nothing, and the call answers true.
-/
import Derived.Test.YtakpkedioehjbaaDeed
import Derived.Test.YtakpkedioehjbaaLaw
namespace Go.Proofs.Ytakpkedioehjbaa
open Go.ChangeShapes Go.WideShapes Go.ChangeAt Go.RowKit

def zeroDeed : Deed := ⟨0, Cmd.zero, Letter.zero⟩
theorem trodAll_one {H : Type} {enc : TypeId × Value → H} {P : Program} {w : World} {base : Nat} {sp : Nat → Bool} {held : Bool} {t : TypeId} {vs : List Value} {ds : List (DataW H)} {ps : List MemPlace}
    (h : DataW.TrodAll enc P w base sp held [t] vs ds ps) : ∃ v d p, vs = [v] ∧ ds = [d] ∧ ps = p ∧ DataW.Trod enc P w base sp held t v d p := by
  obtain ⟨v, vs1, d, ds1, a, b, rfl, rfl, rfl, h1, h2⟩ := trodAll_cons h
  obtain ⟨rfl, rfl, rfl⟩ := trodAll_nil h2
  exact ⟨v, d, a, rfl, rfl, by simp, h1⟩

/-- An act that came in by value. -/
theorem open_deed {H : Type} {enc : TypeId × Value → H} {W : World} {base b0 : Nat} {sp : Nat → Bool} {held : Bool} {v : Value} {d : DataW H} {ps : List MemPlace}
    (hval : Value.okWide Try.prog W .any b0 49 v) (h : DataW.Trod enc Try.prog W base sp held 49 v d ps) : ∃ e : Deed, e.Fits ∧ v = .agg e.cells := by
  obtain ⟨fuel, h⟩ := h
  obtain ⟨e, fe, he⟩ := open_act h
  unfold Value.okWide at hval
  rw [act_struct] at hval
  obtain ⟨cs, rfl, _⟩ := hval
  refine ⟨e, fe, ?_⟩
  have : cs.toList = e.cells.toList := by simpa [Value.cells] using he
  rw [Array.toList_inj.1 this]

set_option maxRecDepth 100000 in
theorem nil_lifted (os : Os) (started : os.Started) (H : Type) (enc : TypeId × Value → H) :
    ReturnsInHanded {} Try.checked os 4 .any (Rows.clientNilSpec.pre6 enc Try.prog Try.f4 Rows.clientNilRow.domain false) (Rows.clientNilSpec.post enc Try.prog Try.f4 false true false false) := by
  refine returnsInHanded_of_change (C := Try.checked) Try.own started (by kernel_rfl) Try.func4
    (ChangeSpec.witness6 (enc := enc) (C := Try.checked) false ⟨#[], #[.agg zeroDeed.cells], []⟩ 8 (by kernel_rfl) (by kernel_rfl) (by kernel_rfl) (by kernel_rfl)) ?_
  intro W base args ds gs before hval0 hW hcnd _
  have hval : ∀ (j : Nat) t v, Try.f4.params[j]? = some t → args[j]? = some v → Value.okWide Try.prog W .any base t v := hval0
  have hW' := hW
  obtain ⟨p, q, hA0, hV, rfl, hfz, hnd⟩ := hW
  have hA : DataW.TrodAll enc Try.prog W 0 (fun _ => true) true Try.f4.params.toList args.toList ds p := hA0
  rw [Try.params4] at hA hval
  obtain ⟨v0, d0, p0, hargs, rfl, rfl, h0⟩ := trodAll_one hA
  have hargs' : args = #[v0] := by apply Array.toList_inj.1; rw [hargs]
  subst hargs'
  obtain ⟨e, fe, rfl⟩ := open_deed (hval 0 49 v0 rfl rfl) h0
  refine (law_nil e W).mono fun e W' ⟨he, hw⟩ => ?_
  subst he
  exact ⟨_, rfl, law_post Try.laidOut Try.underlying4 (by kernel_rfl) (by kernel_rfl) rfl hW' rfl hw⟩

theorem nil_holds : Rows.ClientNilSaid :=
  OpenClaim.holds_of_wide 4 Try.f4 rfl rfl rfl rfl rfl rfl rfl ⟨rfl, rfl, rfl, rfl, rfl⟩ rfl rfl rfl rfl rfl (by kernel_rfl) Try.func4 (by kernel_rfl)
    (of_decide_eq_true (by kernel_rfl)) (by unfold Func.isWrapper; rw [if_neg (of_decide_eq_false (by kernel_rfl))]; exact ⟨rfl, rfl⟩)
    (fun os started H enc _ => nil_lifted os started H enc)
#print axioms nil_holds
end Go.Proofs.Ytakpkedioehjbaa
