/-
  A REGION THAT DRAWS ITS ORDER, CUT INTO PIECES, II: the operations of a piece in whatever order of their numbers.
-/
import Derived.Test.YtfkofdhobhalpaaMix
namespace Go.Proofs.Ytfkofdhobhalpaa
open Go

/-- Of m operations those of a list have come up. -/
def mark (s : List Nat) (m : Nat) : Array Bool := ((List.range m).map fun i => s.contains i).toArray
theorem mark_size (s : List Nat) (m : Nat) : (mark s m).size = m := by simp [mark]
theorem mark_in {s : List Nat} {m i : Nat} (h : i < m) (d : Bool) : (mark s m).getD i d = s.contains i := by
  simp [mark, h]
theorem mark_out {s : List Nat} {m i : Nat} (h : m ≤ i) (d : Bool) : (mark s m).getD i d = d := by
  have : ¬ i < m := by omega
  simp [mark, this]
theorem mark_set (s : List Nat) (m k : Nat) : (mark s m).setIfInBounds k true = mark (s ++ [k]) m := by
  apply Array.ext
  · simp [mark]
  · intro i h1 h2
    by_cases e : k = i
    · subst e; simp [mark]
    · have e2 : ¬ i = k := fun x => e x.symm
      simp [mark, e, e2]
theorem mark_zero (m : Nat) : Array.replicate m false = mark [] m := by
  apply Array.ext
  · simp [mark]
  · intro i h1 h2
    simp [mark]

section
variable {P : Program} {ops : Array Oper} {md : Region.Mode} {C : World → Prop} {L : Act → Prop}

/-- t waits for i, at last. -/
def needs (md : Region.Mode) (ops : Array Oper) : Nat → Nat → Nat → Bool
  | 0, _, _ => false
  | f + 1, t, i => match ops[t]? with
    | some o => o.after.any fun e => Region.binds md e && (e.on == i || needs md ops f e.on i)
    | none => false

structure AheadL (md : Region.Mode) (ops : Array Oper) (s0 : List Nat) (listed : Array Bool) : Prop where
  size : listed.size = ops.size
  low : ∀ j, j < ops.size → s0.contains j = true → listed.getD j false = true
  closed : ∀ j oj, ops[j]? = some oj → listed.getD j false = true → ∀ e ∈ oj.after, Region.binds md e = true → listed.getD e.on false = true

theorem AheadL.set {s0 : List Nat} {i : Nat} {listed : Array Bool} (inv : AheadL md ops s0 listed) (hi : i ∈ Region.ready md ops listed) : AheadL md ops s0 (listed.setIfInBounds i true) := by
  obtain ⟨_, oi, hoi, hall⟩ := mem_ready.1 hi
  refine ⟨by simp [inv.size], fun j hj hs => getD_set_true (inv.low j hj hs), fun j oj hj hl e he hb => ?_⟩
  by_cases hij : i = j
  · subst hij
    have : oj = oi := Option.some.inj (hj.symm.trans hoi)
    subst this
    exact getD_set_true (hall e he hb)
  · rw [getD_set_ne false hij] at hl
    exact getD_set_true (inv.closed j oj hj hl e he hb)

theorem needs_listed {s0 : List Nat} {listed : Array Bool} (inv : AheadL md ops s0 listed) : ∀ (f t i : Nat), needs md ops f t i = true → listed.getD t false = true → listed.getD i false = true
  | 0, _, _, h, _ => by cases h
  | f + 1, t, i, h, hl => by
    unfold needs at h
    split at h
    · rename_i o ho
      obtain ⟨e, he, hb⟩ := Array.any_eq_true'.1 h
      simp only [Bool.and_eq_true, Bool.or_eq_true, beq_iff_eq] at hb
      have h1 := inv.closed t o ho hl e he hb.1
      rcases hb.2 with h2 | h2
      · rw [h2] at h1; exact h1
      · exact needs_listed inv f e.on i h2 h1
    · cases h
theorem needs_ready {s0 : List Nat} {listed : Array Bool} (inv : AheadL md ops s0 listed) {f t i : Nat} (h : needs md ops f t i = true) (hr : t ∈ Region.ready md ops listed) : listed.getD i false = true := by
  obtain ⟨_, o, ho, hall⟩ := mem_ready.1 hr
  cases f with
  | zero => cases h
  | succ f =>
    unfold needs at h
    rw [ho] at h
    obtain ⟨e, he, hb⟩ := Array.any_eq_true'.1 h
    simp only [Bool.and_eq_true, Bool.or_eq_true, beq_iff_eq] at hb
    have h1 := hall e he hb.1
    rcases hb.2 with h2 | h2
    · rw [h2] at h1; exact h1
    · exact needs_listed inv f e.on i h2 h1

def closedL (md : Region.Mode) (ops : Array Oper) (s0 : List Nat) : Bool :=
  s0.all fun j => decide (j < ops.size) && match ops[j]? with
    | some o => o.after.all fun e => !Region.binds md e || s0.contains e.on
    | none => true
def outL (md : Region.Mode) (ops : Array Oper) (s0 ks : List Nat) : Bool :=
  (List.range ops.size).all fun t => s0.contains t || ks.contains t || ks.all fun i => needs md ops ops.size t i

theorem AheadL.mark {s0 : List Nat} (hB : closedL md ops s0 = true) : AheadL md ops s0 (mark s0 ops.size) := by
  refine ⟨mark_size _ _, fun j hj hs => by rw [mark_in hj]; exact hs, fun j oj hj hl e he hb => ?_⟩
  have hjs : j < ops.size := (Array.getElem?_eq_some_iff.1 hj).1
  rw [mark_in hjs] at hl
  have h1 := List.all_eq_true.1 hB j (by simpa using hl)
  simp only [Bool.and_eq_true, hj] at h1
  have h2 := Array.all_eq_true_iff_forall_mem.1 h1.2 e he
  simp only [hb, Bool.not_true, Bool.false_or] at h2
  have h3 := List.all_eq_true.1 hB e.on (by simpa using h2)
  simp only [Bool.and_eq_true, decide_eq_true_eq] at h3
  rw [mark_in h3.1]
  exact h2

def wpHeadL (P : Program) (md : Region.Mode) (ops : Array Oper) (C : World → Prop) (ks : List Nat) (fin : Array Bool) (L : Act → Prop) : Nat → Array Bool → Act → Prop
  | 0, listed, a => listed = fin ∧ L a
  | f + 1, listed, a => (∃ i, i ∈ Region.ready md ops listed) ∧ ∀ i ∈ Region.ready md ops listed, qOp P ops C i (wpHeadL P md ops C ks fin L f (listed.setIfInBounds i true)) a

theorem wpAny_of_wpHeadL {ks : List Nat} {fin : Array Bool} {g : Nat} {Q' : Exit → Act → World → Prop} (hL : ∀ a w', C w' → L a → wpAny P md ops Q' g fin a w') :
    ∀ (f : Nat) (listed : Array Bool) (a : Act) (w : World), C w → wpHeadL P md ops C ks fin L f listed a → wpAny P md ops Q' (f + g) listed a w
  | 0, _, _, _, hC, h => by rw [Nat.zero_add, h.1]; exact hL _ _ hC h.2
  | f + 1, _, _, _, hC, h => by
    rw [show f + 1 + g = (f + g) + 1 by omega]
    exact ⟨fun h0 => (by obtain ⟨i, hi⟩ := h.1; rw [h0] at hi; cases hi), fun i hi => wpOp_of_qOp hC (fun a' w' hw' h' => wpAny_of_wpHeadL hL f _ a' w' hw' h') (h.2 i hi)⟩

theorem wpHeadL_first {s0 ks : List Nat} {fin : Array Bool} {i : Nat} {oi : Oper} {v : Value} (hi : ops[i]? = some oi) (hsel : ∀ (j : Nat) (o : Oper) cs b, ops[j]? = some o → o.op ≠ .select cs b)
    (hout : outL md ops s0 ks = true) (hfin : ∀ k ∈ ks, fin.getD k true = true) (hik : i ∈ ks) :
    ∀ (f : Nat) (listed : Array Bool) (a : Act), AheadL md ops s0 listed →
      (∀ j oj, ops[j]? = some oj → j ≠ i → listed.getD j true = false → (∀ e ∈ oj.after, Region.binds md e = true → e.on ≠ i) → oi.apart ops oj = true) →
      i ∈ Region.ready md ops listed → YieldsIn P ops C oi v a →
      wpHeadL P md ops C ks fin L f (listed.setIfInBounds i true) (a.put oi.dst v) → wpHeadL P md ops C ks fin L (f + 1) listed a := by
  have small : ∀ listed, AheadL md ops s0 listed → i ∈ Region.ready md ops listed → ∀ j ∈ Region.ready md ops listed, j ∈ ks := by
    intro listed inv hr j hj
    obtain ⟨hun, oj, hoj, _⟩ := mem_ready.1 hj
    have hjs : j < ops.size := (Array.getElem?_eq_some_iff.1 hoj).1
    have h1 := List.all_eq_true.1 hout j (List.mem_range.2 hjs)
    simp only [Bool.or_eq_true] at h1
    rcases h1 with (h1 | h1) | h1
    · have := inv.low j hjs h1
      rw [listed_both hun] at this
      cases this
    · simpa using h1
    · have h2 := List.all_eq_true.1 h1 i hik
      have h3 := needs_ready inv h2 hj
      rw [listed_both (mem_ready.1 hr).1] at h3
      cases h3
  intro f
  induction f with
  | zero =>
    intro listed a inv _ hr hy H
    refine ⟨⟨i, hr⟩, fun j hj => ?_⟩
    by_cases hji : j = i
    · subst hji; exact hy.qOp hi H
    · exfalso
      have hun := (mem_ready.1 hj).1
      have h1 : (listed.setIfInBounds i true).getD j true = false := by rw [getD_set_ne true (Ne.symm hji)]; exact hun
      rw [H.1, hfin j (small listed inv hr j hj)] at h1
      cases h1
  | succ f ih =>
    intro listed a inv hfree hr hy H
    refine ⟨⟨i, hr⟩, fun j hj => ?_⟩
    by_cases hji : j = i
    · subst hji; exact hy.qOp hi H
    · have h1 := H.2 j (ready_mono hj hji)
      obtain ⟨hjun, oj, hoj, hall⟩ := mem_ready.1 hj
      have hnot : ∀ e ∈ oj.after, Region.binds md e = true → e.on ≠ i := fun e he hb heq => by
        have h1 := hall e he hb
        have h0 := (mem_ready.1 hr).1
        rw [heq, listed_both h0] at h1
        cases h1
      have h2 := qOp_put hoj (hfree j oj hoj hji hjun hnot) (fun cs b => hsel i oi cs b hi) (fun cs b => hsel j oj cs b hoj) hy h1
      refine qOp_mono (fun a' h3 => ih (listed.setIfInBounds j true) a' (inv.set hj) (fun m om hm hmi hmu hno => hfree m om hm hmi ?_ hno) (ready_mono hr (Ne.symm hji)) h3.1 ?_) h2
      · by_cases hjm : j = m
        · subst hjm; exact hjun
        · rw [getD_set_ne true hjm] at hmu; exact hmu
      · rw [Array.setIfInBounds_comm _ _ hji]
        exact h3.2

def segL (md : Region.Mode) (ops : Array Oper) : List Nat → List Nat → Bool
  | _, [] => true
  | s, k :: ks => decide (k < ops.size) && (Region.ready md ops (mark s ops.size)).contains k && Region.free md ops (mark s ops.size) k && segL md ops (s ++ [k]) ks

theorem wpHeadL_lex {s0 ks0 : List Nat} {fin : List Nat} (hsel : Region.noSelect ops = true) (hout : outL md ops s0 ks0 = true) (hfin : ∀ k ∈ ks0, (mark fin ops.size).getD k true = true) :
    ∀ (ks s : List Nat) (a : Act), (∀ k ∈ ks, k ∈ ks0) → s ++ ks = fin → AheadL md ops s0 (mark s ops.size) → segL md ops s ks = true →
      wpQuiet P ops C L (ks.filterMap fun k => ops[k]?) a → wpHeadL P md ops C ks0 (mark fin ops.size) L ks.length (mark s ops.size) a
  | [], s, a, _, hf, _, _, h => by
    rw [List.append_nil] at hf
    subst hf
    exact ⟨rfl, h⟩
  | k :: ks, s, a, hin, hf, inv, hB, h => by
    simp only [segL, Bool.and_eq_true, decide_eq_true_eq] at hB
    obtain ⟨⟨⟨hlt, hr⟩, hfr⟩, hB'⟩ := hB
    obtain ⟨o, h0⟩ : ∃ o, ops[k]? = some o := ⟨ops[k], Array.getElem?_eq_getElem hlt⟩
    have hr' : k ∈ Region.ready md ops (mark s ops.size) := by simpa using hr
    rw [List.filterMap_cons_some h0] at h
    have hst : qOp P ops C k (wpQuiet P ops C L (ks.filterMap fun k => ops[k]?)) a := by unfold qOp; simp only [h0]; exact h
    obtain ⟨v, hy, hK⟩ := yieldsIn_of_qOp h0 hst
    have inv' := inv.set hr'
    rw [mark_set] at inv'
    refine wpHeadL_first h0 (Region.noSelect_spec hsel) hout hfin (hin k (by simp)) ks.length _ a inv (Region.free_spec h0 hfr) hr' hy ?_
    rw [mark_set]
    exact wpHeadL_lex hsel hout hfin ks (s ++ [k]) _ (fun j hj => hin j (by simp [hj])) (by simpa using hf) inv' hB' hK

/-- A region of which some operations have come up, in whatever order the others come. -/
def mixL (P : Program) (l : List Oper) (Q : Exit → Act → World → Prop) (s : List Nat) (a : Act) (w : World) : Prop :=
  wpAny P .any l.toArray Q (l.length - s.length) (mark s l.length) a w

theorem mixL_begin {id : Nat} {l : List Oper} {Q : Exit → Act → World → Prop} {a : Act} {w : World} (hm : P.follows .mixedOrders = true) (h : mixL P l Q [] a w.drew) : (Code.region id l.toArray true).wp P Q a w := by
  refine wp_region_any hm ?_
  have h1 : wpAny P .any l.toArray Q (l.length - 0) (mark [] l.length) a w.drew := h
  rw [← mark_zero, Nat.sub_zero] at h1
  simpa using h1

def pieceL (l : List Oper) (s ks : List Nat) : Bool :=
  Region.noSelect l.toArray && decide (s.length + ks.length ≤ l.length) && closedL .any l.toArray s && segL .any l.toArray s ks && outL .any l.toArray s ks && ks.all fun k => (mark (s ++ ks) l.length).getD k true

/-- A piece that only reads. -/
theorem mixL_piece (s ks : List Nat) {l : List Oper} {Q : Exit → Act → World → Prop} {a : Act} {w : World} (C : World → Prop) (hB : pieceL l s ks = true) (hC : C w)
    (h : wpQuiet P l.toArray C (fun a' => ∀ w', C w' → mixL P l Q (s ++ ks) a' w') (ks.filterMap fun k => l[k]?) a) : mixL P l Q s a w := by
  simp only [pieceL, Bool.and_eq_true, decide_eq_true_eq] at hB
  obtain ⟨⟨⟨⟨⟨hsel, hlen⟩, hcl⟩, hseg⟩, hout⟩, hfin⟩ := hB
  have inv : AheadL .any l.toArray s (mark s l.toArray.size) := AheadL.mark hcl
  have h1 := wpHeadL_lex (P := P) (C := C) (L := fun a' => ∀ w', C w' → mixL P l Q (s ++ ks) a' w') (fin := s ++ ks) hsel hout (fun k hk => by simpa using List.all_eq_true.1 hfin k hk) ks s a (fun _ h => h) rfl inv hseg (by simpa using h)
  have h2 := wpAny_of_wpHeadL (g := l.length - (s ++ ks).length) (Q' := Q) (fun a' w' hw' h' => by have h3 := h' w' hw'; unfold mixL at h3; simpa using h3) _ _ _ w hC h1
  unfold mixL
  rw [show ks.length + (l.length - (s ++ ks).length) = l.length - s.length by simp; omega] at h2
  simpa using h2

/-- The one that must come up. -/
theorem mixL_forced (n : Nat) {s : List Nat} {l : List Oper} {Q : Exit → Act → World → Prop} {a : Act} {w : World} {o : Oper} (ho : l[n]? = some o) (hr : Region.ready .any l.toArray (mark s l.length) = [n]) (hs : decide (s.length < l.length) = true)
    (hw : Region.wanted o (yielded l.toArray a.tmps) = true)
    (h : ∀ K : Act → World → Prop, (∀ a' w', mixL P l Q (s ++ [n]) a' w' → K a' w') → o.wp P a w K Q) : mixL P l Q s a w := by
  have hs' := of_decide_eq_true hs
  unfold mixL
  rw [show l.length - s.length = (l.length - (s ++ [n]).length) + 1 by simp; omega]
  refine ⟨fun h0 => (by rw [hr] at h0; cases h0), fun i hi => ?_⟩
  rw [hr] at hi
  have hi' : i = n := by simpa using hi
  subst hi'
  unfold wpOp
  have ho' : l.toArray[i]? = some o := by simpa using ho
  simp only [ho', hw, if_true]
  refine .inl (h _ fun a' w' h' => ?_)
  rw [mark_set]
  exact h'
theorem mixL_end {l : List Oper} {Q : Exit → Act → World → Prop} {a : Act} {w : World} {s : List Nat} (hn : decide (s.length = l.length) = true) (hr : Region.ready .any l.toArray (mark s l.length) = []) (h : Q .normal a w) : mixL P l Q s a w := by
  have hn' := of_decide_eq_true hn
  unfold mixL
  rw [hn', Nat.sub_self]
  exact ⟨hr, h⟩
end
end Go.Proofs.Ytfkofdhobhalpaa
