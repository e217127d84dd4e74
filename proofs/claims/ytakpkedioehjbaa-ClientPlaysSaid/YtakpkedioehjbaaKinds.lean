/-
  THE WALK of cmd.kinds; what a look into that map gives.
-/
import Derived.Test.YtakpkedioehjbaaRows
import Derived.WalkKit
import Derived.WalkSpells
import Derived.WalkLawsBesides
import Derived.Lib.Hide
import Derived.Maps.Own
import Derived.Maps.OwnOps
import Derived.Maps.OwnSet
import Derived.Maps.Views
import Derived.OpenShut
namespace Go.Proofs.Ytakpkedioehjbaa
open Go.RowKit Go.Maps

theorem lawK : Keyed Try.prog 5 := int_keyed Try.underlying5
theorem zeroI (w : World) : (zeroValue 3).run Try.prog w = .ok (.int .i64 0) w := by kernel_rfl
/-- What the map of kinds reads as. -/
def kindsD : DataW Unit := (((((DataW.map []).put (.int .u8 1) (.lit (.int .i64 1))).put (.int .u8 2) (.lit (.int .i64 5))).put (.int .u8 3) (.lit (.int .i64 1))).put (.int .u8 4) (.lit (.int .i64 7))).put (.int .u8 5) (.lit (.int .i64 8))
def Kinds (w : World) (b : Nat) : Prop := w.ownsMap Try.prog 5 (plainElem Try.prog 3) b 5 kindsD
/-- What each kind has; 0: there is no such kind. -/
def parts (k : Int) : Int := if k = 1 then 1 else if k = 2 then 5 else if k = 3 then 1 else if k = 4 then 7 else if k = 5 then 8 else 0

set_option maxRecDepth 100000 in
set_option maxHeartbeats 400000 in
theorem kinds_any (w : World) :
    Calls Try.prog 31 #[] w fun e w' => e = .returned (.map (some w.heap.size)) ∧ Kinds w' w.heap.size ∧ Below w.heap.size w w' := by
  have hmm := @run_makeMap Try.prog
  have key := fun (a : Int) (h : (Lit.int .u8 a).wf = true) => keyOf_int_mk (P := Try.prog) (k := 5) Try.underlying5 h
  have val := fun (a : Int) (h : (Lit.int .i64 a).wf = true) => plainElem_int (H := Unit) (P := Try.prog) (e := 3) Try.underlying3 h
  have o0 := World.ownsMap_made w Try.prog 5 (plainElem (H := Unit) Try.prog 3)
  obtain ⟨w1, r1, o1, g1⟩ := o0.update lawK Try.underlying78 (by decide) (key 1 (by decide)) (val 1 (by decide))
  obtain ⟨w2, r2, o2, g2⟩ := o1.update lawK Try.underlying78 (by decide) (key 2 (by decide)) (val 5 (by decide))
  obtain ⟨w3, r3, o3, g3⟩ := o2.update lawK Try.underlying78 (by decide) (key 3 (by decide)) (val 1 (by decide))
  obtain ⟨w4, r4, o4, g4⟩ := o3.update lawK Try.underlying78 (by decide) (key 4 (by decide)) (val 7 (by decide))
  obtain ⟨w5, r5, o5, g5⟩ := o4.update lawK Try.underlying78 (by decide) (key 5 (by decide)) (val 8 (by decide))
  have hb : Below w.heap.size w w5 := by
    have h0 := (Below.refl w.heap.size w).alloc (Nat.le_refl _) (.map #[] 0)
    have hr : ∀ k, some w.heap.size = some k → w.heap.size ≤ k := fun k hk => by injection hk with hk; omega
    have h1 := h0.grown g1 h0.size hr
    have h2 := h1.grown g2 h1.size hr
    have h3 := h2.grown g3 h2.size hr
    have h4 := h3.grown g4 h3.size hr
    exact h4.grown g5 h4.size hr
  clear o0 o1 o2 o3 o4 g1 g2 g3 g4 g5 key val
  go_enter Try.func31, Try.ntmps31
  go_wp2
  go_ret
  exact ⟨rfl, o5, hb⟩

theorem has_kinds (k : Int) (hk : (Lit.int .u8 k).wf = true) : has kindsD (.int .u8 k) = !(parts k == 0) := by
  unfold kindsD parts
  by_cases h1 : k = 1
  · subst h1; decide
  by_cases h2 : k = 2
  · subst h2; decide
  by_cases h3 : k = 3
  · subst h3; decide
  by_cases h4 : k = 4
  · subst h4; decide
  by_cases h5 : k = 5
  · subst h5; decide
  rw [has_put_other (by simpa using h5), has_put_other (by simpa using h4), has_put_other (by simpa using h3), has_put_other (by simpa using h2), has_put_other (by simpa using h1)]
  simp [h1, h2, h3, h4, h5]
  rfl
theorem at_kinds (k : Int) : kindsD.atKey (.int .u8 k) (.lit (.int .i64 0)) = .lit (.int .i64 (parts k)) := by
  unfold kindsD parts
  by_cases h1 : k = 1
  · subst h1; rfl
  by_cases h2 : k = 2
  · subst h2; rfl
  by_cases h3 : k = 3
  · subst h3; rfl
  by_cases h4 : k = 4
  · subst h4; rfl
  by_cases h5 : k = 5
  · subst h5; rfl
  rw [atKey_put_other (by simpa using h5), atKey_put_other (by simpa using h4), atKey_put_other (by simpa using h3), atKey_put_other (by simpa using h2), atKey_put_other (by simpa using h1)]
  simp [h1, h2, h3, h4, h5]
  rfl
theorem look_kinds {w : World} {b : Nat} (h : Kinds w b) (k : Int) (hk : (Lit.int .u8 k).wf = true) :
    (Instr.lookup 78 (.map (some b)) (.int .u8 k) true).run Try.prog w = .ok (.tuple #[.int .i64 (parts k), .bool (!(parts k == 0))]) w := by
  obtain ⟨v, ps, hrun, hv⟩ := World.ownsMap.look_ok h lawK Try.underlying78 (zeroI w) (plainElem_int Try.underlying3 (by decide)) (keyOf_int_mk Try.underlying5 hk)
  obtain ⟨c, rfl, hc, _⟩ := plainElem_int_inv Try.underlying3 hv
  rw [at_kinds] at hc
  simp only [Prod.mk.injEq, DataW.lit.injEq, Lit.int.injEq, true_and] at hc
  rw [hrun, has_kinds k hk, hc.1]
end Go.Proofs.Ytakpkedioehjbaa
