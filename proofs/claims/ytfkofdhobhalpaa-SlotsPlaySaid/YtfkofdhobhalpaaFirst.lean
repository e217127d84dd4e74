/-
  What the walk of the law SlotsOnce holds on to.
-/
import Derived.Test.YtfkofdhobhalpaaPieces
namespace Go.Proofs.Ytfkofdhobhalpaa
open Go.RowKit Go.Maps Go.BigFrame

/-- A struct that lies somewhere, cell by cell, is loaded whole. -/
theorem run_loadVar_cells {P : Program} (w : World) (ad : Addr) (ty : TypeId) (ds : Array Value) (d : TypeDesc) (hc : ∀ j v, ds[j]? = some v → w.cell? (ad.add j) = some v)
    (hu : P.underlying ty = some d) (hd : (match d with | .struct _ | .array _ _ => true | _ => false) = true) (hi : (P.info? ty).map (·.size) = some ds.size) :
    (loadVar ty ad).run P w = .ok (.agg ds) w := by
  have hl : (loadCells ad ds.toList.length).run P w = .ok ds.toList.toArray w := run_loadCells_list (P := P) w ad ds.toList (fun j v hv => hc j v (by simpa using hv))
  cases hq : P.info? ty with
  | none => simp [hq] at hi
  | some i =>
    have hs : i.size = ds.size := by simpa [hq] using hi
    have hagg : (isAgg ty).run P w = .ok true w := by
      unfold isAgg
      rw [Sem.run_bind, run_underlying hu w]
      cases d <;> simp_all
    simp only [Array.length_toList, Array.toArray_toList] at hl
    simp [loadVar, Sem.run_bind, hagg, sizeOf, typeInfo, hq, hs, hl]
theorem wpList_load_cells {P : Program} {ops : Array Oper} {rest : List Oper} {o : Oper} {a : Act} {w : World} {Q : Exit → Act → World → Prop} (hgd : o.guard = none) (ty : TypeId) (x : Operand) (ho : o.op = .load ty x)
    (ad : Addr) (hx : a.eval x = .pointer (some ad)) (ds : Array Value) (d : TypeDesc) (hc : ∀ j v, ds[j]? = some v → w.cell? (ad.add j) = some v)
    (hu : P.underlying ty = some d) (hd : (match d with | .struct _ | .array _ _ => true | _ => false) = true) (hi : (P.info? ty).map (·.size) = some ds.size)
    (h : wpList P ops Q rest (a.put o.dst (.agg ds)) w) : wpList P ops Q (o :: rest) a w := by
  refine wpList_plain hgd fun K hK => ?_
  unfold Oper.wp execOp
  simp only [ho, hx, Instr.loadAt, Instr.sureAddr, Sem.run_bind, Sem.run_pure, Result.andThen_ok, run_loadVar_cells w ad ty ds d hc hu hd hi]
  exact hK _ _ h

/-- A map of values of the law's own. -/
def MapAt (w : World) (b n : Nat) (F : Vals) : Prop := ∃ D : DataW Unit, w.ownsMap Try.prog 29 (plainElem Try.prog 9) b n D ∧ Holds D F
theorem MapAt.same {w w' : World} {b n : Nat} {F : Vals} (h : MapAt w b n F) (e : w'.heap[b]? = w.heap[b]?) : MapAt w' b n F := by
  obtain ⟨D, hD, hF⟩ := h
  exact ⟨D, owns_block hD e, hF⟩
theorem MapAt.lt {w : World} {b n : Nat} {F : Vals} (h : MapAt w b n F) : b < w.heap.size := by
  obtain ⟨D, hD, _⟩ := h
  exact hD.lt
theorem MapAt.only {w w' : World} {b n g m : Nat} {F : Vals} (h : MapAt w b n F) (ho : Only w w' g m) (hg : b ≠ g) (hm : b ≠ m) : MapAt w' b n F := h.same (ho.block b h.lt hg hm)
theorem MapAt.below {w w' : World} {b n : Nat} {F : Vals} (h : MapAt w b n F) (hb : Below w.heap.size w w') : MapAt w' b n F := h.same (hb.block b h.lt)
theorem MapAt.mono {w : World} {b n n' : Nat} {F : Vals} (h : MapAt w b n F) (hn : n ≤ n') : MapAt w b n' F := by
  obtain ⟨D, hD, hF⟩ := h
  exact ⟨D, hD.mono hn, hF⟩
theorem MapAt.look {w : World} {b n : Nat} {F : Vals} (h : MapAt w b n F) {k : Int} (hk : U k) :
    (Instr.lookup 54 (.map (some b)) (.int .u64 k) true).run Try.prog w = .ok (.tuple #[.string ((F k).getD ByteArray.empty), .bool (F k).isSome]) w := by
  obtain ⟨D, hD, hM⟩ := h
  obtain ⟨v, ps, hrun, hv⟩ := World.ownsMap.look_ok hD lawU Try.underlying54 (zeroS w) (plainElem_string Try.underlying9 (by decide)) (keyOf_int_mk Try.underlying29 hk)
  obtain ⟨s, rfl, hs, _⟩ := plainElem_string_inv Try.underlying9 hv
  have h2 := (hM k hk).2
  simp only [Prod.mk.injEq] at hs
  have h3 : (DataW.lit (.string s.data.toList) : DataW Unit) = .lit (.string ((F k).getD ByteArray.empty).data.toList) := hs.1.symm.trans h2
  simp only [DataW.lit.injEq, Lit.string.injEq] at h3
  have h4 : s = (F k).getD ByteArray.empty := ByteArray.ext (Array.toList_inj.1 h3)
  rw [hrun, (hM k hk).1, h4]
theorem MapAt.store {w : World} {b n : Nat} {F : Vals} (h : MapAt w b n F) {k : Int} (hk : U k) {v : ByteArray} (hv : v.size ≤ maxLen) (hn : n < maxLen) :
    ∃ w', (Instr.mapUpdate 54 (.map (some b)) (.int .u64 k) (.string v)).run Try.prog w = .ok () w' ∧ MapAt w' b (n + 1) (F.put k v) ∧ w.grownBy w' (some b) := by
  obtain ⟨D, hD, hM⟩ := h
  obtain ⟨w', hrun, ho, hg⟩ := World.ownsMap.update hD lawU Try.underlying54 hn (keyOf_int_mk Try.underlying29 hk) (plainElem_string Try.underlying9 hv)
  exact ⟨w', hrun, ⟨_, ho, holds_put hD.isMap hM k v⟩, hg⟩
theorem below_upd {a w w' : World} {b : Nat} (h : Below a.heap.size a w) (hg : w.grownBy w' (some b)) (hB : a.heap.size ≤ b) : Below a.heap.size a w' :=
  h.grown hg h.size (fun j hj => by injection hj with hj; omega)

/-- What was put first, against what is there. -/
structure Firsts (base : Int) (M F : Vals) : Prop where
  above : ∀ s, (M s).isSome = true → base < s
  same : ∀ s, base < s → F s = M s
theorem firsts_start (b : Int) : Firsts b Vals.none Vals.none := ⟨fun _ h => (by cases h), fun _ _ => rfl⟩
theorem firsts_drop {base u : Int} {M F : Vals} (h : Firsts base M F) (hu : base ≤ u) : Firsts u (M.drop u) F := by
  refine ⟨fun s hs => ?_, fun s hs => ?_⟩
  · unfold Vals.drop at hs
    split at hs
    · cases hs
    · omega
  · unfold Vals.drop
    rw [if_neg (by omega)]
    exact h.same s (by omega)
theorem firsts_put {base k : Int} {M F : Vals} {v : ByteArray} (h : Firsts base M F) (hk : base < k) : Firsts base (M.put k v) (F.put k v) := by
  refine ⟨fun s hs => ?_, fun s hs => ?_⟩
  · unfold Vals.put at hs
    split at hs
    · omega
    · exact h.above s hs
  · unfold Vals.put
    split
    · rfl
    · exact h.same s hs
theorem firsts_again {base k : Int} {M F : Vals} {v : ByteArray} (h : Firsts base M F) (_hk : base < k) (hm : M k = some v) : Firsts base (M.put k v) F := by
  have e : M.put k v = M := by
    funext s
    unfold Vals.put
    split
    · rename_i hs; rw [hs, hm]
    · rfl
  rw [e]; exact h

theorem size_act (d : Deed) : (Try.prog.info? 31).map (·.size) = some d.cells.size := by
  rw [show d.cells.size = 3 from rfl]
  kernel_rfl
theorem one_act (d : Deed) : d.cells.all (·.oneCell') = true := by simp [Deed.cells, Value.oneCell']
def ActIn (w : World) (b : Nat) (d : Deed) : Prop := w.heap[b]? = some (.cells d.cells 31 (0, 0))
theorem deed_all {w : World} {a : Addr} {k : Nat} {d : Deed} {q : Addr} (h : ∀ (j : Nat) (v : Value), d.cells[j]? = some v → w.cell? (a.add (k * 3 + j)) = some v) (hq : a.add (k * 3) = q) :
    ∀ (j : Nat) (v : Value), d.cells[j]? = some v → w.cell? (q.add j) = some v := by
  intro j v hv
  have h1 := h j v hv
  rwa [← Go.Deep.add_add, hq] at h1
theorem act_new {w : World} {d : Deed} {cs : Array Value} : ActIn ((w.alloc (.cells cs 31 (0, 0))).setRow w.heap.size d.cells) w.heap.size d := setRow_heap _ _ _ _ _ _ (heap_alloc_new w _)

/-- What a way through the switch leaves. -/
def Turned (w : World) (g m fb : Nat) (k : Nat) (t : Int) (wx : World) : Prop :=
  ∃ (base : Int) (n nF : Nat) (M F : Vals), Inv base t n k M ∧ Firsts base M F ∧ nF ≤ k ∧ RowAt wx g m base t n M ∧ MapAt wx fb nF F ∧ Below w.heap.size w wx
theorem turned_item {w wx : World} {g m fb k : Nat} {t : Int} (h : Turned w g m fb k t wx) (o : Obj) (cs : Array Value) : Turned w g m fb k t ((wx.alloc o).setRow wx.heap.size cs) := by
  obtain ⟨base, n, nF, M, F, hI, hFi, hn, hr, hmap, hb⟩ := h
  have h1 := hmap.lt
  exact ⟨base, n, nF, M, F, hI, hFi, hn, item_row hr _ _, hmap.same ((setRow_other _ _ _ _ (by omega)).trans (Below.heap_alloc wx o fb h1)), item_below hb _ _⟩
theorem act_only {w w' : World} {b g m : Nat} {d : Deed} (h : ActIn w b d) (ho : Only w w' g m) (hg : b ≠ g) (hm : b ≠ m) : ActIn w' b d := (ho.block b (block_lt h) hg hm).trans h
theorem act_upd {w w' : World} {b f : Nat} {d : Deed} (h : ActIn w b d) (ho : w.grownBy w' (some f)) (hg : b ≠ f) : ActIn w' b d := (ho.block b (block_lt h) (by intro e; injection e with e; exact hg e)).trans h
theorem row_upd {w w' : World} {g m f : Nat} {base top : Int} {n : Nat} {M : Vals} (h : RowAt w g m base top n M) (ho : w.grownBy w' (some f)) (hg : f ≠ g) (hm : f ≠ m) : RowAt w' g m base top n M :=
  h.same (ho.block g h.lt (by intro e; injection e with e; exact hg e.symm)) (ho.block m h.mlt (by intro e; injection e with e; exact hm e.symm))
theorem vals_low {base : Int} {M : Vals} {k : Int} {v : ByteArray} (h : k ≤ base) : putVals base M k v = M := by unfold putVals; rw [if_neg (by omega)]
theorem vals_far {base : Int} {M : Vals} {k : Int} {v : ByteArray} (h : 4611686018427387904 < k) : putVals base M k v = M := by unfold putVals; rw [if_neg (by unfold far; omega)]
theorem code_far {base : Int} {M : Vals} {k : Int} {v : ByteArray} (h : 4611686018427387904 < k) : putCode base M k v = 2 := by unfold putCode; rw [if_neg (by unfold far; omega)]
theorem vals_none {base : Int} {M : Vals} {k : Int} {v : ByteArray} (h0 : 0 ≤ base) (hb : base < k) (hf : k ≤ 4611686018427387904) (h : M k = none) : putVals base M k v = M.put k v := by
  unfold putVals; rw [if_pos ⟨⟨by omega, hf⟩, hb, Or.inl h⟩]
theorem code_none {base : Int} {M : Vals} {k : Int} {v : ByteArray} (h0 : 0 ≤ base) (hb : base < k) (hf : k ≤ 4611686018427387904) (h : M k = none) : putCode base M k v = 0 := by
  unfold putCode; rw [if_pos ⟨by omega, hf⟩, if_neg (by omega), h]
theorem vals_same {base : Int} {M : Vals} {k : Int} {v : ByteArray} (h0 : 0 ≤ base) (hb : base < k) (hf : k ≤ 4611686018427387904) (h : M k = some v) : putVals base M k v = M.put k v := by
  unfold putVals; rw [if_pos ⟨⟨by omega, hf⟩, hb, Or.inr h⟩]
theorem code_same {base : Int} {M : Vals} {k : Int} {v : ByteArray} (h0 : 0 ≤ base) (hb : base < k) (hf : k ≤ 4611686018427387904) (h : M k = some v) : putCode base M k v = 0 := by
  unfold putCode; rw [if_pos ⟨by omega, hf⟩, if_neg (by omega), h]; simp
theorem vals_other {base : Int} {M : Vals} {k : Int} {v u : ByteArray} (h : M k = some u) (hu : u ≠ v) : putVals base M k v = M := by
  unfold putVals
  rw [if_neg]
  rintro ⟨_, _, h1 | h1⟩
  · rw [h] at h1; cases h1
  · rw [h] at h1; exact hu (Option.some.inj h1)
theorem code_other {base : Int} {M : Vals} {k : Int} {v u : ByteArray} (h0 : 0 ≤ base) (hb : base < k) (hf : k ≤ 4611686018427387904) (h : M k = some u) (hu : u ≠ v) : putCode base M k v = 14 := by
  unfold putCode; rw [if_pos ⟨by omega, hf⟩, if_neg (by omega), h]; simp [hu]
theorem inv_same {base top : Int} {n k : Nat} {M : Vals} (h : Inv base top n k M) : Inv base top (n + 1) (k + 1) M := ⟨h.b0, h.bt, h.t1, by have := h.tk; push_cast; omega, by have := h.nk; omega, h.vals⟩
end Go.Proofs.Ytfkofdhobhalpaa
