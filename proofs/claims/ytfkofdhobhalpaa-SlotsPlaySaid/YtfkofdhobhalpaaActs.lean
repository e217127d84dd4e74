/-
  Acts on a row that came in: what their cells are; great.
-/
import Derived.Test.YtfkofdhobhalpaaWakes
import Derived.Test.YtfkofdhobhalpaaLaw
import Derived.Deep.Slices
namespace Go.Proofs.Ytfkofdhobhalpaa
open Go.RowKit Go.Maps

section
variable {H : Type} {enc : TypeId × Value → H} {P : Program} {w : World} {base : Nat} {sp : Nat → Bool} {held : Bool}

theorem mapM_mem {α β : Type} {f : α → Option β} : ∀ {l : List α} {ys : List β}, l.mapM f = some ys → ∀ x ∈ l, ∃ y, f x = some y
  | [], _, _, x, hx => by cases hx
  | a :: l, ys, h, x, hx => by
    rw [List.mapM_cons] at h
    cases hfa : f a with
    | none => simp [hfa] at h
    | some b =>
      cases hl : l.mapM f with
      | none => simp [hfa, hl] at h
      | some bs =>
        rcases List.mem_cons.1 hx with rfl | hx
        · exact ⟨b, hfa⟩
        · exact mapM_mem hl x hx

theorem trod_struct {fuel : Nat} {t : TypeId} {cs : List Value} {x : DataW H × List MemPlace} (h : DataW.trod enc P w base sp held fuel t cs = some x) (fs : Array Field) (hu : P.underlying t = some (.struct fs)) :
    cs.length = P.cellsOf t ∧ ∀ p ∈ fs.toList.map (fun f => (f.name, f.type, f.offset)), ∃ fuel' y, DataW.trod enc P w base sp held fuel' p.2.1 ((cs.drop p.2.2).take (P.cellsOf p.2.1)) = some y := by
  cases fuel with
  | zero => simp [DataW.trod] at h
  | succ fuel =>
    unfold DataW.trod at h
    rw [hu] at h
    simp only at h
    split at h
    · rename_i hl
      refine ⟨hl, ?_⟩
      intro p hp
      obtain ⟨f, hf, rfl⟩ := List.mem_map.1 hp
      cases hm : fs.toList.mapM fun f => DataW.trod enc P w base sp held fuel f.type ((cs.drop f.offset).take (P.cellsOf f.type)) with
      | none => simp [hm] at h
      | some xs =>
        obtain ⟨y, hy⟩ := mapM_mem hm f hf
        exact ⟨fuel, y, hy⟩
    · cases h

theorem trod_int {fuel : Nat} {t : TypeId} {k : IntKind} {CS : List Value} {i : Nat} {x : DataW H × List MemPlace} (hu : P.underlying t = some (.int k)) (h : DataW.trod enc P w base sp held fuel t ((CS.drop i).take 1) = some x) :
    ∃ n, CS[i]? = some (.int k n) ∧ (Lit.int k n).wf = true := by
  cases fuel with
  | zero => simp [DataW.trod] at h
  | succ fuel =>
    unfold DataW.trod at h
    rw [hu] at h
    have hi : CS[i]? = (CS.drop i).head? := by simp
    cases hd : CS.drop i with
    | nil => simp [hd] at h
    | cons v rest =>
      rw [hd] at h hi
      simp only [List.take_succ_cons, List.take_zero] at h
      split at h <;> simp_all
theorem trod_string {fuel : Nat} {t : TypeId} {CS : List Value} {i : Nat} {x : DataW H × List MemPlace} (hu : P.underlying t = some .string) (h : DataW.trod enc P w base sp held fuel t ((CS.drop i).take 1) = some x) :
    ∃ s, CS[i]? = some (.string s) ∧ s.size ≤ maxLen := by
  cases fuel with
  | zero => simp [DataW.trod] at h
  | succ fuel =>
    unfold DataW.trod at h
    rw [hu] at h
    have hi : CS[i]? = (CS.drop i).head? := by simp
    cases hd : CS.drop i with
    | nil => simp [hd] at h
    | cons v rest =>
      rw [hd] at h hi
      simp only [List.take_succ_cons, List.take_zero] at h
      split at h <;> simp_all
theorem trod_slice {fuel : Nat} {t e : TypeId} {CS : List Value} {i : Nat} {x : DataW H × List MemPlace} (hu : P.underlying t = some (.slice e)) (h : DataW.trod enc P w base sp held fuel t ((CS.drop i).take 1) = some x) :
    ∃ a n c, CS[i]? = some (.slice a n c) := by
  cases fuel with
  | zero => simp [DataW.trod] at h
  | succ fuel =>
    unfold DataW.trod at h
    rw [hu] at h
    have hi : CS[i]? = (CS.drop i).head? := by simp
    cases hd : CS.drop i with
    | nil => simp [hd] at h
    | cons v rest =>
      rw [hd] at h hi
      simp only [List.take_succ_cons, List.take_zero] at h
      split at h <;> simp_all
end

/-- An act: what is done, of which slot, with which value. -/
structure Deed where
  act : Int
  slot : Int
  value : ByteArray
def Deed.cells (d : Deed) : Array Value := #[.int .u8 d.act, .int .u64 d.slot, .string d.value]
structure Deed.Fits (d : Deed) : Prop where
  act : (Lit.int .u8 d.act).wf = true
  slot : U d.slot
  value : d.value.size ≤ maxLen
theorem act_fields : (Try.prog.fieldsOf 31).toList.map (fun f => (f.name, f.type, f.offset)) = [("Do", 5, 0), ("Slot", 29, 1), ("Value", 9, 2)] := by kernel_rfl
theorem act_struct : Try.prog.underlying 31 = some (.struct (Try.prog.fieldsOf 31)) := by kernel_rfl
theorem cells_act : Try.prog.cellsOf 31 = 3 := by kernel_rfl
theorem part_sizes : Try.prog.cellsOf 5 = 1 ∧ Try.prog.cellsOf 29 = 1 ∧ Try.prog.cellsOf 9 = 1 := ⟨by kernel_rfl, by kernel_rfl, by kernel_rfl⟩
section
variable {H : Type} {enc : TypeId × Value → H} {w : World} {base : Nat} {sp : Nat → Bool} {held : Bool}
theorem open_act {fuel : Nat} {CS : List Value} {x : DataW H × List MemPlace} (h : DataW.trod enc Try.prog w base sp held fuel 31 CS = some x) : ∃ d : Deed, d.Fits ∧ CS = d.cells.toList := by
  obtain ⟨hlen, hall⟩ := trod_struct h _ act_struct
  rw [act_fields] at hall
  rw [cells_act] at hlen
  obtain ⟨_, _, h0⟩ := hall ("Do", 5, 0) (by simp)
  simp only [part_sizes] at h0
  obtain ⟨a, ea, wa⟩ := trod_int Try.underlying5 h0
  obtain ⟨_, _, h1⟩ := hall ("Slot", 29, 1) (by simp)
  simp only [part_sizes] at h1
  obtain ⟨s, es, ws⟩ := trod_int Try.underlying29 h1
  obtain ⟨_, _, h2⟩ := hall ("Value", 9, 2) (by simp)
  simp only [part_sizes] at h2
  obtain ⟨v, ev, wv⟩ := trod_string Try.underlying9 h2
  refine ⟨⟨a, s, v⟩, ⟨wa, ws, wv⟩, ?_⟩
  apply List.ext_getElem?
  intro i
  rcases (by omega : i = 0 ∨ i = 1 ∨ i = 2 ∨ 3 ≤ i) with rfl | rfl | rfl | hi
  · exact ea
  · exact es
  · exact ev
  · rw [List.getElem?_eq_none (by omega), List.getElem?_eq_none (by simpa [Deed.cells] using hi)]
end

/-- Deeds lie at an address, one behind another. -/
def DeedsAt (w : World) (a : Addr) (L : List Deed) : Prop := ∀ (i : Nat) (d : Deed), L[i]? = some d → ∀ (j : Nat) (v : Value), d.cells[j]? = some v → w.cell? (a.add (i * 3 + j)) = some v
theorem deeds_below {w wr : World} {a : Addr} {L : List Deed} (h : DeedsAt w a L) (hb : Below w.heap.size w wr) : DeedsAt wr a L := by
  intro i d hd j v hv
  have h1 := h i d hd j v hv
  rw [← h1]
  exact hb.cell (World.block_lt_of_cell? w _ h1)
/-- The acts of a value. -/
inductive Deeds (w : World) : Value → List Deed → Prop
  | none : Deeds w (.slice none 0 0) []
  | some (a : Addr) (L : List Deed) (cap : Nat) (h : DeedsAt w a L) (hf : ∀ d ∈ L, d.Fits) (hn : L.length < 2 ^ 63) : Deeds w (.slice (some a) L.length cap) L

section
open Go.ChangeShapes Go.WideShapes Go.ChangeAt
/-- Acts that came in. -/
theorem open_deeds {H : Type} {enc : TypeId × Value → H} {W : World} {base b0 : Nat} {sp : Nat → Bool} {held : Bool} {v : Value} {d : DataW H} {ps : List MemPlace}
    (hval : Value.okWide Try.prog W .any b0 22 v) (h : DataW.Trod enc Try.prog W base sp held 22 v d ps) : ∃ L, Deeds W v L := by
  obtain ⟨fuel, h⟩ := h
  obtain ⟨a0, len, cap, rfl⟩ := okWide_slice Try.underlying22 hval
  rcases Go.Deep.open_slice Try.underlying22 h with ⟨h0, _⟩ | ⟨a, len', cap', m, n, D, Pl, hcs, _, hl, hm, hmm, _, hx⟩
  · simp [Value.cells] at h0
    obtain ⟨rfl, rfl, rfl⟩ := h0
    exact ⟨[], .none⟩
  · simp [Value.cells] at hcs
    obtain ⟨rfl, rfl, rfl⟩ := hcs
    rw [cells_act] at hx
    have hlm : len ≤ m := by rw [hmm]; split <;> omega
    have hx' : ∀ i, i < len → ∃ e : Deed, e.Fits ∧ ∀ (j : Nat) (v : Value), e.cells[j]? = some v → W.cell? (a.add (i * 3 + j)) = some v := by
      intro i hi
      obtain ⟨cs', h1, h2⟩ := hx i (by omega)
      obtain ⟨e, fe, rfl⟩ := open_act h2
      refine ⟨e, fe, fun j v hv => ?_⟩
      obtain ⟨_, _, hcell⟩ := World.cells?_some h1
      have hj : j < 3 := by
        rcases Nat.lt_or_ge j 3 with h | h
        · exact h
        · rw [Array.getElem?_eq_none (by simpa [Deed.cells] using h)] at hv; cases hv
      rw [← Go.Deep.add_add, hcell j hj]
      simpa using hv
    haveI : Inhabited Deed := ⟨⟨0, 0, ByteArray.empty⟩⟩
    obtain ⟨f, hf⟩ := Go.Deep.choose_lt hx'
    have hlen : ((List.range len).map f).length = len := by simp
    have hget : ∀ i d, ((List.range len).map f)[i]? = some d → i < len ∧ d = f i := by
      intro i d hd
      have hi : i < len := by
        rcases Nat.lt_or_ge i len with h | h
        · exact h
        · rw [List.getElem?_eq_none (by simpa using h)] at hd; cases hd
      refine ⟨hi, ?_⟩
      simpa [hi] using hd.symm
    refine ⟨(List.range len).map f, ?_⟩
    have h3 := Deeds.some (w := W) a ((List.range len).map f) cap (fun i d hd j v hv => by
      obtain ⟨hi, rfl⟩ := hget i d hd
      exact (hf i hi).2 j v hv) (fun d hd => by
      obtain ⟨i, hi⟩ := List.getElem?_of_mem hd
      obtain ⟨hi2, rfl⟩ := hget i d hi
      exact (hf i hi2).1) (by rw [hlen]; unfold maxLen at hm; omega)
    rw [hlen] at h3
    exact h3
end

theorem deed_cell {w : World} {a : Addr} {k : Nat} {d : Deed} {qb qo : Nat} {qs : Option Nat} (h : ∀ (j : Nat) (v : Value), d.cells[j]? = some v → w.cell? (a.add (k * 3 + j)) = some v) (hq : a.add (k * 3) = ⟨qb, qo, qs⟩)
    {o : Nat} (j : Nat) {v : Value} (ho : o = qo + (j + 1)) (hv : d.cells[j + 1]? = some v) : w.cell? ⟨qb, o, none⟩ = some v := by
  have h1 := h (j + 1) v hv
  rw [← Go.Deep.add_add, hq] at h1
  subst ho
  simpa [Addr.add] using h1
theorem deed_head {w : World} {a : Addr} {k : Nat} {d : Deed} {qb qo : Nat} {qs : Option Nat} (h : ∀ (j : Nat) (v : Value), d.cells[j]? = some v → w.cell? (a.add (k * 3 + j)) = some v) (hq : a.add (k * 3) = ⟨qb, qo, qs⟩) : w.cell? ⟨qb, qo, qs⟩ = some (.int .u8 d.act) := by
  have h1 := h 0 _ rfl
  rw [Nat.add_zero, hq] at h1
  exact h1
/-- What great says of so many acts. -/
def Says (n : Nat) (r : Ending) : Prop := ∃ b, r = .returned (.bool b) ∧ (b = false → n ≤ 200)
set_option maxRecDepth 100000 in
set_option maxHeartbeats 800000 in
theorem great_any (L : List Deed) (a : Addr) (cap : Nat) (w : World) (hL : DeedsAt w a L) (hn : L.length < 2 ^ 63) (hfit : ∀ d ∈ L, d.Fits) :
    Calls Try.prog 7 #[.slice (some a) L.length cap] w fun r w' => Says L.length r ∧ w = w' := by
  have HL := Lib.hid hL
  have HF := Lib.hid hfit
  clear hL hfit
  by_cases h200 : 200 < L.length
  · go_enter Try.func7, Try.ntmps7
    go_wp2_with fail
    go_ret
    exact ⟨⟨true, rfl, fun h => (by cases h)⟩, rfl⟩
  · have h201 : L.length ≤ 200 := by omega
    clear hn
    go_enter Try.func7, Try.ntmps7
    go_wp2_with fail
    go_loop [3] (fun i => ∃ k : Nat, k ≤ L.length ∧ i = .int .i64 (k : Int)) (fun i => L.length - (intOf i).toNat)
    case atStart => exact ⟨0, by omega, rfl⟩
    case round =>
      obtain ⟨k, hk, rfl⟩ := hrel
      by_cases hlt : k < L.length
      · have hd : L[k]? = some L[k] := List.getElem?_eq_getElem hlt
        have fd := HF.out L[k] (List.getElem_mem hlt)
        generalize L[k] = d at hd fd
        have hD := HL.out k d hd
        generalize hq : a.add (k * 3) = q
        obtain ⟨qb, qo, qs⟩ := q
        have f2 : w.cell? ⟨qb, qo + 2, none⟩ = some (.string d.value) := deed_cell hD hq 1 (by omega) rfl
        have fv := fd.value
        unfold maxLen at fv
        generalize d.value = value at *
        clear hd fd hD
        by_cases h100 : 100 < (value.size : Int)
        · go_wp2_with fail
          go_ret
          exact ⟨⟨true, rfl, fun h => (by cases h)⟩, rfl⟩
        · go_wp2_with fail
          go_round
          case rel => exact ⟨k + 1, by omega, by go_num⟩
          case measure => simp [intOf]; omega
      · go_wp2_with fail
        go_ret
        exact ⟨⟨false, rfl, fun _ => h201⟩, rfl⟩
set_option maxRecDepth 100000 in
set_option maxHeartbeats 800000 in
theorem great_none (w : World) : Calls Try.prog 7 #[.slice none 0 0] w fun r w' => r = .returned (.bool false) ∧ w = w' := by
  go_enter Try.func7, Try.ntmps7
  go_wp2_with fail
  go_loop [3] (fun i => i = .int .i64 0) (fun _ => 0)
  case atStart => rfl
  case round =>
    subst hrel
    go_wp2_with fail
    go_ret
    exact ⟨rfl, rfl⟩

theorem great_deeds {w : World} {v : Value} {L : List Deed} (h : Deeds w v L) : Calls Try.prog 7 #[v] w fun r w' => Says L.length r ∧ w = w' := by
  cases h with
  | none => exact (great_none w).mono fun r w' ⟨hr, hw⟩ => ⟨⟨false, hr, fun _ => by decide⟩, hw⟩
  | some a L cap h hf hn => exact great_any L a cap w h hn hf
theorem deeds_form {w : World} {v : Value} {L : List Deed} (h : Deeds w v L) : ∃ ad cap, v = .slice ad L.length cap ∧ (∀ k, k < L.length → ∃ a, ad = some a ∧ DeedsAt w a L) ∧ (∀ d ∈ L, d.Fits) ∧ L.length < 2 ^ 63 := by
  cases h with
  | none => exact ⟨none, 0, rfl, fun k hk => absurd hk (Nat.not_lt_zero _), fun d hd => (by cases hd), by decide⟩
  | some a L cap h hf hn => exact ⟨some a, cap, rfl, fun k _ => ⟨a, rfl, h⟩, hf, hn⟩

/-- What is true of a row behind k acts. -/
structure Inv (base top : Int) (n k : Nat) (M : Vals) : Prop where
  b0 : 0 ≤ base
  bt : base ≤ top
  t1 : top ≤ 4611686018427387904
  tk : top - base ≤ (k : Int)
  nk : n ≤ k
  vals : ∀ s, (M s).isSome = true → 1 ≤ s ∧ s ≤ 4611686018427387904
theorem inv_start {b : Int} (h0 : 0 ≤ b) (h1 : b ≤ 4611686018427387904) : Inv b b 0 0 Vals.none := ⟨h0, Int.le_refl _, h1, by omega, Nat.le_refl _, fun _ h => by cases h⟩
theorem Inv.more {base top : Int} {n k : Nat} {M : Vals} (h : Inv base top n k M) : Inv base top n (k + 1) M := ⟨h.b0, h.bt, h.t1, by have := h.tk; push_cast; omega, by have := h.nk; omega, h.vals⟩
theorem inv_next {base top : Int} {n k : Nat} {M : Vals} {v : ByteArray} (h : Inv base top n k M) (hm : M (top + 1) = some v) : Inv base (top + 1) n (k + 1) M :=
  ⟨h.b0, by have := h.bt; omega, (h.vals (top + 1) (by rw [hm]; rfl)).2, by have := h.tk; push_cast; omega, by have := h.nk; omega, h.vals⟩
theorem drop_vals {M : Vals} {u : Int} (h : ∀ s, (M s).isSome = true → 1 ≤ s ∧ s ≤ 4611686018427387904) : ∀ s, (M.drop u s).isSome = true → 1 ≤ s ∧ s ≤ 4611686018427387904 := by
  intro s hs
  unfold Vals.drop at hs
  split at hs
  · cases hs
  · exact h s hs
theorem inv_keep {base top : Int} {n k : Nat} {M : Vals} {u : Int} (h : Inv base top n k M) (h1 : u ≤ top) (h2 : base < u) : Inv u top n (k + 1) (M.drop u) :=
  ⟨by have := h.b0; omega, h1, h.t1, by have := h.tk; push_cast; omega, by have := h.nk; omega, drop_vals h.vals⟩
theorem inv_jump {base top : Int} {n k : Nat} {M : Vals} {u : Int} (h : Inv base top n k M) (h1 : u ≤ 4611686018427387904) (h2 : top ≤ u) : Inv u u n (k + 1) (M.drop u) :=
  ⟨by have := h.b0; have := h.bt; omega, Int.le_refl _, h1, by push_cast; omega, by have := h.nk; omega, drop_vals h.vals⟩
theorem inv_put {base top : Int} {n k : Nat} {M : Vals} {s : Int} {v : ByteArray} (h : Inv base top n k M) : Inv base top (n + 1) (k + 1) (putVals base M s v) := by
  refine ⟨h.b0, h.bt, h.t1, by have := h.tk; push_cast; omega, by have := h.nk; omega, ?_⟩
  unfold putVals
  split
  · rename_i hc
    intro j hj
    unfold Vals.put at hj
    split at hj
    · rename_i e; subst e; exact hc.1
    · exact h.vals j hj
  · exact h.vals
end Go.Proofs.Ytfkofdhobhalpaa
