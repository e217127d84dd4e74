/-
  What a row of slots is in memory: its base, its top, and a map of values, seen as a function of the slot.
-/
import Derived.Test.YtfkofdhobhalpaaRows
import Derived.WalkKit
import Derived.WalkSpells
import Derived.WalkLawsBesides
import Derived.Lib.Hide
import Derived.Below
import Derived.Maps.Own
import Derived.Maps.OwnOps
import Derived.Maps.OwnSet
import Derived.Maps.Views
import Derived.Maps.Ext
import Derived.Maps.StringElems
import Derived.Lib.SlMapFilter
import Derived.OpenShut
import Derived.ProofKit
namespace Go.Proofs.Ytfkofdhobhalpaa
open Go.RowKit Go.Maps

theorem lawU : Keyed Try.prog 29 := int_keyed Try.underlying29
theorem zeroS (w : World) : (zeroValue 9).run Try.prog w = .ok (.string ByteArray.empty) w := by kernel_rfl
/-- May a number be a slot's? -/
def U (k : Int) : Prop := (Lit.int .u64 k).wf = true
theorem u_iff {k : Int} : U k ↔ 0 ≤ k ∧ k < 18446744073709551616 := by
  unfold U
  simp [Lit.wf, IntKind.min, IntKind.max, IntKind.signed, IntKind.bits]
  omega
/-- What a map of values says of each slot. -/
abbrev Vals := Int → Option ByteArray
def Vals.none : Vals := fun _ => Option.none
def Vals.put (M : Vals) (k : Int) (v : ByteArray) : Vals := fun j => if j = k then some v else M j
def Vals.drop (M : Vals) (to : Int) : Vals := fun j => if j ≤ to then Option.none else M j
def zeroD : DataW Unit := .lit (.string [])
def Holds (D : DataW Unit) (M : Vals) : Prop := ∀ k : Int, U k → has D (.int .u64 k) = (M k).isSome ∧ D.atKey (.int .u64 k) zeroD = .lit (.string ((M k).getD ByteArray.empty).data.toList)
theorem key_ne {j k : Int} (h : j ≠ k) : (Lit.int .u64 j) ≠ .int .u64 k := by intro e; injection e with _ e; exact h e
theorem holds_none : Holds (.map []) Vals.none := fun _ _ => ⟨rfl, rfl⟩
theorem holds_put {D : DataW Unit} {M : Vals} (hD : IsMap D) (h : Holds D M) (k : Int) (v : ByteArray) : Holds (D.put (.int .u64 k) (.lit (.string v.data.toList))) (M.put k v) := by
  intro j hj
  by_cases e : j = k
  · subst e
    rw [has_put_same hD (k := .int .u64 j) trivial, atKey_put_same hD (k := .int .u64 j) trivial]
    simp [Vals.put]
  · rw [has_put_other (key_ne e), atKey_put_other (key_ne e)]
    simp only [Vals.put, if_neg e]
    exact h j hj
/-- Which entries go. -/
def upTo (to : Int) : Lit → DataW Unit → Bool
  | .int _ k, _ => decide (k ≤ to)
  | _, _ => false
theorem holds_drop {D : DataW Unit} {M : Vals} (hD : IsMap D) (h : Holds D M) (to : Int) : Holds (Lib.deleteFuncD (upTo to) D) (M.drop to) := by
  obtain ⟨es, rfl⟩ := hD
  intro j hj
  have hh := h j hj
  unfold Lib.deleteFuncD
  have same : ∀ p : Lit × DataW Unit, p.1.sameKey (.int .u64 j) = true → p.1 = .int .u64 j := fun p hp => (WideAt.sameKey_iff (b := .int .u64 j) trivial).1 hp
  by_cases e : j ≤ to
  · have hno : has (DataW.map (es.filter fun p => !upTo to p.1 p.2)) (.int .u64 j) = false := by
      rw [has_eq]
      apply List.any_eq_false.2
      intro p hp
      have hp2 := (List.mem_filter.1 hp).2
      intro hs
      rw [same p hs] at hp2
      simp [upTo, e] at hp2
    refine ⟨by rw [hno]; simp [Vals.drop, e], ?_⟩
    rw [atKey_of_not_has hno]
    simp [Vals.drop, e, zeroD]
  · have keep : ∀ p : Lit × DataW Unit, p.1.sameKey (.int .u64 j) = true → (!upTo to p.1 p.2) = true := fun p hp => by rw [same p hp]; simp [upTo]; omega
    simp only [Vals.drop, if_neg e]
    refine ⟨?_, ?_⟩
    · rw [← hh.1, has_eq, has_eq, any_filter_keep keep]
    · rw [← hh.2]
      unfold DataW.atKey
      simp only [find_filter_keep keep]

/-- A row's cells, and its map's. -/
structure RowAt (w : World) (g m : Nat) (base top : Int) (n : Nat) (M : Vals) : Prop where
  row : w.heap[g]? = some (.cells #[.int .u64 base, .int .u64 top, .map (some m)] 57 (0, 0))
  map : ∃ D : DataW Unit, w.ownsMap Try.prog 29 (plainElem Try.prog 9) m n D ∧ Holds D M
  ne : m ≠ g
/-- But for the row and its map nothing has turned. -/
structure Only (w w' : World) (g m : Nat) : Prop where
  os : w'.os = w.os
  tape : w'.tape = w.tape
  output : w'.output = w.output
  size : w.heap.size ≤ w'.heap.size
  block : ∀ k : Nat, k < w.heap.size → k ≠ g → k ≠ m → w'.heap[k]? = w.heap[k]?
theorem Only.refl (w : World) (g m : Nat) : Only w w g m := ⟨rfl, rfl, rfl, Nat.le_refl _, fun _ _ _ _ => rfl⟩
theorem Only.trans {a b c : World} {g m : Nat} (h : Only a b g m) (k : Only b c g m) : Only a c g m :=
  ⟨k.os.trans h.os, k.tape.trans h.tape, k.output.trans h.output, Nat.le_trans h.size k.size, fun i hi h1 h2 => (k.block i (Nat.lt_of_lt_of_le hi h.size) h1 h2).trans (h.block i hi h1 h2)⟩
theorem only_below {w w' : World} {B g m : Nat} (h : Below B w w') (hB : w.heap.size ≤ B) : Only w w' g m := ⟨h.os, h.tape, h.output, h.size, fun k hk _ _ => h.block k (by omega)⟩
theorem only_grown {w w' : World} {g m : Nat} (h : w.grownBy w' (some m)) : Only w w' g m := ⟨h.os, h.tape, h.output, h.size, fun k hk _ h2 => h.block k hk (by intro e; injection e with e; exact h2 e)⟩
theorem only_drewN {a w : World} {g m : Nat} (h : Only a w g m) (n : Nat) : Only a (w.drewN n) g m := ⟨h.os, h.tape, h.output, h.size, h.block⟩
theorem only_set {a w : World} {g m i : Nat} (h : Only a w g m) (v : Value) : Only a (w.setCell ⟨g, i, none⟩ v) g m :=
  ⟨h.os, h.tape, h.output, by simpa [World.setCell] using h.size, fun k hk h1 h2 => (Below.heap_setCell w ⟨g, i, none⟩ v k h1).trans (h.block k hk h1 h2)⟩
theorem below_only {a w w' : World} {g m : Nat} (h : Below a.heap.size a w) (k : Only w w' g m) (hg : a.heap.size ≤ g) (hm : a.heap.size ≤ m) : Below a.heap.size a w' :=
  ⟨k.os.trans h.os, k.tape.trans h.tape, k.output.trans h.output, Nat.le_trans h.size k.size, fun i hi => (k.block i (Nat.lt_of_lt_of_le hi h.size) (by omega) (by omega)).trans (h.block i hi)⟩

theorem owns_block {H : Type} {P : Program} {k : TypeId} {R : Value → Option (DataW H × List MemPlace)} {w w' : World} {b n : Nat} {D : DataW H} (h : w.ownsMap P k R b n D) (e : w'.heap[b]? = w.heap[b]?) : w'.ownsMap P k R b n D := by
  obtain ⟨es, clock, hb, rest⟩ := h
  exact ⟨es, clock, e.trans hb, rest⟩
theorem block_lt {w : World} {b : Nat} {o : Obj} (h : w.heap[b]? = some o) : b < w.heap.size := by
  rcases Nat.lt_or_ge b w.heap.size with hlt | hge
  · exact hlt
  · rw [Array.getElem?_eq_none hge] at h; cases h
theorem RowAt.lt {w : World} {g m : Nat} {base top : Int} {n : Nat} {M : Vals} (h : RowAt w g m base top n M) : g < w.heap.size := block_lt h.row
theorem RowAt.mlt {w : World} {g m : Nat} {base top : Int} {n : Nat} {M : Vals} (h : RowAt w g m base top n M) : m < w.heap.size := by
  obtain ⟨D, hD, _⟩ := h.map
  exact hD.lt
theorem RowAt.same {w w' : World} {g m : Nat} {base top : Int} {n : Nat} {M : Vals} (h : RowAt w g m base top n M) (eg : w'.heap[g]? = w.heap[g]?) (em : w'.heap[m]? = w.heap[m]?) : RowAt w' g m base top n M := by
  obtain ⟨D, hD, hM⟩ := h.map
  exact ⟨eg.trans h.row, ⟨D, owns_block hD em, hM⟩, h.ne⟩
theorem RowAt.below {w w' : World} {B g m : Nat} {base top : Int} {n : Nat} {M : Vals} (h : RowAt w g m base top n M) (hb : Below B w w') (hB : w.heap.size ≤ B) : RowAt w' g m base top n M :=
  h.same (hb.block g (by have := h.lt; omega)) (hb.block m (by have := h.mlt; omega))
theorem RowAt.drew {w : World} {g m : Nat} {base top : Int} {n : Nat} {M : Vals} (h : RowAt w g m base top n M) (k : Nat) : RowAt (w.drewN k) g m base top n M := h.same rfl rfl
theorem RowAt.alloc {w : World} {g m : Nat} {base top : Int} {n : Nat} {M : Vals} (h : RowAt w g m base top n M) (o : Obj) : RowAt (w.alloc o) g m base top n M :=
  h.same (Below.heap_alloc w o g h.lt) (Below.heap_alloc w o m h.mlt)
theorem RowAt.setTop {w : World} {g m : Nat} {base top : Int} {n : Nat} {M : Vals} (h : RowAt w g m base top n M) (t : Int) : RowAt (w.setCell ⟨g, 1, none⟩ (.int .u64 t)) g m base t n M := by
  obtain ⟨D, hD, hM⟩ := h.map
  exact ⟨heap_setCell_same _ _ 1 _ _ _ h.row, ⟨D, owns_block hD (Below.heap_setCell w ⟨g, 1, none⟩ _ m h.ne), hM⟩, h.ne⟩
theorem RowAt.setBase {w : World} {g m : Nat} {base top : Int} {n : Nat} {M : Vals} (h : RowAt w g m base top n M) (t : Int) : RowAt (w.setCell ⟨g, 0, none⟩ (.int .u64 t)) g m t top n M := by
  obtain ⟨D, hD, hM⟩ := h.map
  exact ⟨heap_setCell_same _ _ 0 _ _ _ h.row, ⟨D, owns_block hD (Below.heap_setCell w ⟨g, 0, none⟩ _ m h.ne), hM⟩, h.ne⟩
theorem RowAt.look {w : World} {g m : Nat} {base top : Int} {n : Nat} {M : Vals} (h : RowAt w g m base top n M) {k : Int} (hk : U k) :
    (Instr.lookup 54 (.map (some m)) (.int .u64 k) true).run Try.prog w = .ok (.tuple #[.string ((M k).getD ByteArray.empty), .bool (M k).isSome]) w := by
  obtain ⟨D, hD, hM⟩ := h.map
  obtain ⟨v, ps, hrun, hv⟩ := World.ownsMap.look_ok hD lawU Try.underlying54 (zeroS w) (plainElem_string Try.underlying9 (by decide)) (keyOf_int_mk Try.underlying29 hk)
  obtain ⟨s, rfl, hs, _⟩ := plainElem_string_inv Try.underlying9 hv
  have h2 := (hM k hk).2
  simp only [Prod.mk.injEq] at hs
  have h3 : (DataW.lit (.string s.data.toList) : DataW Unit) = .lit (.string ((M k).getD ByteArray.empty).data.toList) := hs.1.symm.trans h2
  simp only [DataW.lit.injEq, Lit.string.injEq] at h3
  have h4 : s = (M k).getD ByteArray.empty := by
    have : s.data = ((M k).getD ByteArray.empty).data := Array.toList_inj.1 h3
    exact ByteArray.ext this
  rw [hrun, (hM k hk).1, h4]
theorem RowAt.store {w : World} {g m : Nat} {base top : Int} {n : Nat} {M : Vals} (h : RowAt w g m base top n M) {k : Int} (hk : U k) {v : ByteArray} (hv : v.size ≤ maxLen) (hn : n < maxLen) :
    ∃ w', (Instr.mapUpdate 54 (.map (some m)) (.int .u64 k) (.string v)).run Try.prog w = .ok () w' ∧ RowAt w' g m base top (n + 1) (M.put k v) ∧ w.grownBy w' (some m) := by
  obtain ⟨D, hD, hM⟩ := h.map
  obtain ⟨w', hrun, ho, hg⟩ := World.ownsMap.update hD lawU Try.underlying54 hn (keyOf_int_mk Try.underlying29 hk) (plainElem_string Try.underlying9 hv)
  exact ⟨w', hrun, ⟨(hg.block g h.lt (by intro e; injection e with e; exact h.ne e.symm)).trans h.row, ⟨_, ho, holds_put hD.isMap hM k v⟩, h.ne⟩, hg⟩
end Go.Proofs.Ytfkofdhobhalpaa
