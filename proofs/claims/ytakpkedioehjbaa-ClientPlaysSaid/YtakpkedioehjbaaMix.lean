/-
  A REGION THAT DRAWS ITS ORDER, CUT INTO PHASES: pieces that only read, walked once in the order of the text, and between them operations that are forced: at their turn no other one may come up.
-/
import Derived.Test.YtakpkedioehjbaaRows
import Derived.StillTail
import Derived.Deep.Quiet
import Derived.Deep.QuietTactic
import Derived.KernelRfl
import Derived.Below
namespace Go.Proofs.Ytakpkedioehjbaa
open Go

/-- Of m operations the first n have come up. -/
def come (n m : Nat) : Array Bool := ((List.range m).map fun i => decide (i < n)).toArray
theorem come_size (n m : Nat) : (come n m).size = m := by simp [come]
theorem come_in {n m i : Nat} (h : i < m) (d : Bool) : (come n m).getD i d = decide (i < n) := by
  simp [come, h]
theorem come_out {n m i : Nat} (h : m ≤ i) (d : Bool) : (come n m).getD i d = d := by
  have : ¬ i < m := by omega
  simp [come, this]
theorem come_set {n m : Nat} (_h : n < m) : (come n m).setIfInBounds n true = come (n + 1) m := by
  apply Array.ext
  · simp [come]
  · intro i h1 h2
    have hi : i < m := by simpa [come] using h2
    by_cases e : n = i
    · subst e; simp [come]
    · simp [come, e]
      omega
theorem come_zero (m : Nat) : Array.replicate m false = come 0 m := by
  apply Array.ext
  · simp [come]
  · intro i h1 h2
    simp [come]

section
variable {P : Program} {ops : Array Oper} {md : Region.Mode} {C : World → Prop} {L : Act → Prop}

structure Ahead (md : Region.Mode) (ops : Array Oper) (k n : Nat) (listed : Array Bool) : Prop where
  size : listed.size = ops.size
  low : ∀ j, j < k → j < ops.size → listed.getD j false = true
  high : ∀ j, n ≤ j → j < ops.size → listed.getD j true = false
  closed : ∀ j oj, ops[j]? = some oj → listed.getD j false = true → ∀ e ∈ oj.after, Region.binds md e = true → listed.getD e.on false = true

def closedB (md : Region.Mode) (ops : Array Oper) (k : Nat) : Bool :=
  (List.range k).all fun j => match ops[j]? with
    | some o => o.after.all fun e => !Region.binds md e || decide (e.on < k)
    | none => true
def sinkB (md : Region.Mode) (ops : Array Oper) (k n : Nat) : Bool :=
  (List.range n).all fun i => decide (i < k) || (List.range (n + 1)).any fun j => decide (i < j) && Region.waitsFor md ops j i
def tailB (md : Region.Mode) (ops : Array Oper) (n : Nat) : Bool :=
  (List.range ops.size).all fun t => decide (t ≤ n) || (List.range t).any fun j => decide (n ≤ j) && Region.waitsFor md ops t j

theorem listed_both {listed : Array Bool} {i : Nat} (h : listed.getD i true = false) : listed.getD i false = false := by
  rcases Nat.lt_or_ge i listed.size with h' | h'
  · simp [h'] at h ⊢; exact h
  · simp [Array.getElem?_eq_none h'] at h
theorem listed_in {listed : Array Bool} {i : Nat} (hi : i < listed.size) (h : listed.getD i false = false) : listed.getD i true = false := by
  simp [hi] at h ⊢; exact h

theorem Ahead.set {k n i : Nat} {listed : Array Bool} (inv : Ahead md ops k n listed) (hi : i ∈ Region.ready md ops listed) (hin : i < n) : Ahead md ops k n (listed.setIfInBounds i true) := by
  obtain ⟨_, oi, hoi, hall⟩ := mem_ready.1 hi
  refine ⟨by simp [inv.size], fun j hj hs => getD_set_true (inv.low j hj hs), fun t ht hs => by rw [getD_set_ne true (by omega)]; exact inv.high t ht hs, fun j oj hj hl e he hb => ?_⟩
  by_cases hij : i = j
  · subst hij
    have : oj = oi := Option.some.inj (hj.symm.trans hoi)
    subst this
    exact getD_set_true (hall e he hb)
  · rw [getD_set_ne false hij] at hl
    exact getD_set_true (inv.closed j oj hj hl e he hb)

theorem Ahead.come {k n : Nat} (hB : closedB md ops k = true) (hkn : k ≤ n) (hks : k ≤ ops.size) : Ahead md ops k n (come k ops.size) := by
  refine ⟨come_size _ _, fun j hj hs => by rw [come_in hs]; simpa using hj, fun j hj hs => by rw [come_in hs]; simp; omega, fun j oj hj hl e he hb => ?_⟩
  have hjs : j < ops.size := (Array.getElem?_eq_some_iff.1 hj).1
  rw [come_in hjs] at hl
  have hjk : j < k := by simpa using hl
  have h1 := List.all_eq_true.1 hB j (List.mem_range.2 hjk)
  simp only [hj] at h1
  have h2 := Array.all_eq_true_iff_forall_mem.1 h1 e he
  simp only [hb, Bool.not_true, Bool.false_or, decide_eq_true_eq] at h2
  rw [come_in (by omega)]
  simpa using h2

/-- As long as one of the piece has not come up, none behind it may. -/
theorem ahead_waits {k n : Nat} {listed : Array Bool} (hs : sinkB md ops k n = true) (ht : tailB md ops n = true) (hn : n ≤ ops.size) (inv : Ahead md ops k n listed) :
    ∀ (d i : Nat), n - i = d → i < n → listed.getD i true = false → ∀ t, n ≤ t → t ∉ Region.ready md ops listed := by
  intro d
  induction d using Nat.strongRecOn with
  | _ d ih =>
    intro i hd hi hun t htn hr
    obtain ⟨_, ot, hot, hall⟩ := mem_ready.1 hr
    have htlt : t < ops.size := (Array.getElem?_eq_some_iff.1 hot).1
    by_cases hgt : n < t
    · have h1 := List.all_eq_true.1 ht t (List.mem_range.2 htlt)
      simp only [Bool.or_eq_true, decide_eq_true_eq] at h1
      rcases h1 with h1 | h1
      · omega
      · obtain ⟨j, hj, hj2⟩ := List.any_eq_true.1 h1
        simp only [Bool.and_eq_true, decide_eq_true_eq] at hj2
        obtain ⟨oj, hoj, e, he, hb, hon⟩ := Region.waitsFor_spec hj2.2
        have : oj = ot := Option.some.inj (hoj.symm.trans hot)
        subst this
        have h2 := hall e he hb
        have hjt := List.mem_range.1 hj
        rw [hon, listed_both (inv.high j hj2.1 (by omega))] at h2
        cases h2
    · have hte : t = n := by omega
      subst hte
      have h1 := List.all_eq_true.1 hs i (List.mem_range.2 hi)
      simp only [Bool.or_eq_true, decide_eq_true_eq] at h1
      rcases h1 with h1 | h1
      · have := inv.low i h1 (by omega)
        rw [listed_both hun] at this
        cases this
      · obtain ⟨j, hj, hj2⟩ := List.any_eq_true.1 h1
        simp only [Bool.and_eq_true, decide_eq_true_eq] at hj2
        obtain ⟨oj, hoj, e, he, hb, hon⟩ := Region.waitsFor_spec hj2.2
        have hjle : j ≤ t := by have := List.mem_range.1 hj; omega
        by_cases hjt : j = t
        · subst hjt
          have : oj = ot := Option.some.inj (hoj.symm.trans hot)
          subst this
          have h2 := hall e he hb
          rw [hon, listed_both hun] at h2
          cases h2
        · cases hl : listed.getD j false with
          | true =>
            have h2 := inv.closed j oj hoj hl e he hb
            rw [hon, listed_both hun] at h2
            cases h2
          | false =>
            exact ih (t - j) (by omega) j rfl (by omega) (listed_in (by rw [inv.size]; omega) hl) t (Nat.le_refl _) hr

/-- Whatever order the piece comes up in; behind it: L. -/
def wpHead (P : Program) (md : Region.Mode) (ops : Array Oper) (C : World → Prop) (n : Nat) (L : Act → Prop) : Nat → Array Bool → Act → Prop
  | 0, listed, a => listed = come n ops.size ∧ L a
  | f + 1, listed, a => (∃ i, i ∈ Region.ready md ops listed) ∧ ∀ i ∈ Region.ready md ops listed, i < n ∧ qOp P ops C i (wpHead P md ops C n L f (listed.setIfInBounds i true)) a

theorem wpAny_of_wpHead {n g : Nat} {Q' : Exit → Act → World → Prop} (hL : ∀ a w', C w' → L a → wpAny P md ops Q' g (come n ops.size) a w') :
    ∀ (f : Nat) (listed : Array Bool) (a : Act) (w : World), C w → wpHead P md ops C n L f listed a → wpAny P md ops Q' (f + g) listed a w
  | 0, _, _, _, hC, h => by rw [Nat.zero_add, h.1]; exact hL _ _ hC h.2
  | f + 1, _, _, _, hC, h => by
    rw [show f + 1 + g = (f + g) + 1 by omega]
    exact ⟨fun h0 => (by obtain ⟨i, hi⟩ := h.1; rw [h0] at hi; cases hi), fun i hi => wpOp_of_qOp hC (fun a' w' hw' h' => wpAny_of_wpHead hL f _ a' w' hw' h') (h.2 i hi).2⟩

theorem wpHead_first {k n i : Nat} {oi : Oper} {v : Value} (hi : ops[i]? = some oi) (hsel : ∀ (j : Nat) (o : Oper) cs b, ops[j]? = some o → o.op ≠ .select cs b)
    (hlast : n = ops.size ∨ (sinkB md ops k n = true ∧ tailB md ops n = true)) (hn : n ≤ ops.size) (hin : i < n) :
    ∀ (f : Nat) (listed : Array Bool) (a : Act), Ahead md ops k n listed →
      (∀ j oj, ops[j]? = some oj → j ≠ i → listed.getD j true = false → (∀ e ∈ oj.after, Region.binds md e = true → e.on ≠ i) → oi.apart ops oj = true) →
      i ∈ Region.ready md ops listed → YieldsIn P ops C oi v a →
      wpHead P md ops C n L f (listed.setIfInBounds i true) (a.put oi.dst v) → wpHead P md ops C n L (f + 1) listed a := by
  have small : ∀ listed, Ahead md ops k n listed → i ∈ Region.ready md ops listed → ∀ j ∈ Region.ready md ops listed, j < n := by
    intro listed inv hr j hj
    obtain ⟨_, oj, hoj, _⟩ := mem_ready.1 hj
    have hjs : j < ops.size := (Array.getElem?_eq_some_iff.1 hoj).1
    rcases hlast with rfl | ⟨hs, ht⟩
    · exact hjs
    · rcases Nat.lt_or_ge j n with h | h
      · exact h
      · exact absurd hj (ahead_waits hs ht hn inv _ i rfl hin (mem_ready.1 hr).1 j h)
  intro f
  induction f with
  | zero =>
    intro listed a inv _ hr hy H
    refine ⟨⟨i, hr⟩, fun j hj => ?_⟩
    have hjn := small listed inv hr j hj
    refine ⟨hjn, ?_⟩
    by_cases hji : j = i
    · subst hji; exact hy.qOp hi H
    · exfalso
      have hun := (mem_ready.1 hj).1
      have h1 : (listed.setIfInBounds i true).getD j true = false := by rw [getD_set_ne true (Ne.symm hji)]; exact hun
      rw [H.1, come_in (by omega)] at h1
      simp at h1
      omega
  | succ f ih =>
    intro listed a inv hfree hr hy H
    refine ⟨⟨i, hr⟩, fun j hj => ?_⟩
    have hjn := small listed inv hr j hj
    refine ⟨hjn, ?_⟩
    by_cases hji : j = i
    · subst hji; exact hy.qOp hi H
    · have h1 := (H.2 j (ready_mono hj hji)).2
      obtain ⟨hjun, oj, hoj, hall⟩ := mem_ready.1 hj
      have hnot : ∀ e ∈ oj.after, Region.binds md e = true → e.on ≠ i := fun e he hb heq => by
        have h1 := hall e he hb
        have h0 := (mem_ready.1 hr).1
        rw [heq, listed_both h0] at h1
        cases h1
      have h2 := qOp_put hoj (hfree j oj hoj hji hjun hnot) (fun cs b => hsel i oi cs b hi) (fun cs b => hsel j oj cs b hoj) hy h1
      refine qOp_mono (fun a' h3 => ih (listed.setIfInBounds j true) a' (inv.set hj hjn) (fun m om hm hmi hmu hno => hfree m om hm hmi ?_ hno) (ready_mono hr (Ne.symm hji)) h3.1 ?_) h2
      · by_cases hjm : j = m
        · subst hjm; exact hjun
        · rw [getD_set_ne true hjm] at hmu; exact hmu
      · rw [Array.setIfInBounds_comm _ _ hji]
        exact h3.2

def segB (md : Region.Mode) (ops : Array Oper) : Nat → Nat → Bool
  | 0, _ => true
  | f + 1, j => (Region.ready md ops (come j ops.size)).contains j && Region.free md ops (come j ops.size) j && segB md ops f (j + 1)

theorem wpHead_lex {k n : Nat} (hsel : Region.noSelect ops = true) (hlast : n = ops.size ∨ (sinkB md ops k n = true ∧ tailB md ops n = true)) (hn : n ≤ ops.size) :
    ∀ (l : List Oper) (j : Nat) (a : Act), j + l.length = n → (∀ t, t < l.length → l[t]? = ops[j + t]?) → Ahead md ops k n (come j ops.size) → segB md ops l.length j = true →
      wpQuiet P ops C L l a → wpHead P md ops C n L l.length (come j ops.size) a
  | [], j, a, hj, _, _, _, h => by
    have : j = n := by simpa using hj
    subst this
    exact ⟨rfl, h⟩
  | o :: l, j, a, hj, hl, inv, hB, h => by
    simp only [List.length_cons] at hj
    have hjn : j < n := by omega
    have h0 : ops[j]? = some o := by simpa using (hl 0 (by simp)).symm
    simp only [List.length_cons, segB, Bool.and_eq_true] at hB
    obtain ⟨⟨hr, hf⟩, hB'⟩ := hB
    have hr' : j ∈ Region.ready md ops (come j ops.size) := by simpa using hr
    have hst : qOp P ops C j (wpQuiet P ops C L l) a := by unfold qOp; simp only [h0]; exact h
    obtain ⟨v, hy, hK⟩ := yieldsIn_of_qOp h0 hst
    have inv' := inv.set hr' hjn
    rw [come_set (by omega)] at inv'
    refine wpHead_first h0 (Region.noSelect_spec hsel) hlast hn hjn l.length _ a inv (Region.free_spec h0 hf) hr' hy ?_
    rw [come_set (by omega)]
    exact wpHead_lex hsel hlast hn l (j + 1) _ (by omega) (fun t ht => by have := hl (t + 1) (by simp; omega); simpa [Nat.add_assoc, Nat.add_comm 1 t] using this) inv' hB' hK

/-- A region of which the first k operations have come up, in whatever order the others come. -/
def mixAt (P : Program) (l : List Oper) (Q : Exit → Act → World → Prop) (k : Nat) (a : Act) (w : World) : Prop :=
  wpAny P .any l.toArray Q (l.length - k) (come k l.length) a w

theorem mix_begin {id : Nat} {l : List Oper} {Q : Exit → Act → World → Prop} {a : Act} {w : World} (hm : P.follows .mixedOrders = true) (h : mixAt P l Q 0 a w.drew) : (Code.region id l.toArray true).wp P Q a w := by
  refine wp_region_any hm ?_
  have h1 : wpAny P .any l.toArray Q (l.length - 0) (come 0 l.length) a w.drew := h
  rw [← come_zero, Nat.sub_zero] at h1
  simpa using h1

def pieceB (l : List Oper) (k n : Nat) : Bool :=
  Region.noSelect l.toArray && decide (k ≤ n) && decide (n ≤ l.length) && closedB .any l.toArray k && segB .any l.toArray (n - k) k && (n == l.length || (sinkB .any l.toArray k n && tailB .any l.toArray n))

/-- A piece that only reads. -/
theorem mix_piece (k n : Nat) {l : List Oper} {Q : Exit → Act → World → Prop} {a : Act} {w : World} (C : World → Prop) (hB : pieceB l k n = true) (hC : C w)
    (h : wpQuiet P l.toArray C (fun a' => ∀ w', C w' → mixAt P l Q n a' w') ((l.drop k).take (n - k)) a) : mixAt P l Q k a w := by
  simp only [pieceB, Bool.and_eq_true, decide_eq_true_eq] at hB
  obtain ⟨⟨⟨⟨⟨hsel, hkn⟩, hnl⟩, hcl⟩, hseg⟩, hlast⟩ := hB
  have hlast' : n = l.toArray.size ∨ (sinkB .any l.toArray k n = true ∧ tailB .any l.toArray n = true) := by
    simp only [Bool.or_eq_true, beq_iff_eq, Bool.and_eq_true] at hlast
    simpa using hlast
  have hlen : ((l.drop k).take (n - k)).length = n - k := by simp; omega
  have inv : Ahead .any l.toArray k n (come k l.toArray.size) := Ahead.come hcl hkn (by simp; omega)
  have h1 := wpHead_lex (k := k) (n := n) hsel hlast' (by simpa using hnl) ((l.drop k).take (n - k)) k a (by omega) (fun t ht => by
    rw [hlen] at ht
    rw [List.getElem?_take_of_lt ht, List.getElem?_drop]; simp) inv (by rw [hlen]; exact hseg) h
  have h2 := wpAny_of_wpHead (g := l.length - n) (Q' := Q) (fun a' w' hw' h' => by have h3 := h' w' hw'; unfold mixAt at h3; simpa using h3) _ _ _ w hC h1
  unfold mixAt
  rw [hlen, show n - k + (l.length - n) = l.length - k by omega] at h2
  simpa using h2

/-- The one that must come up. -/
theorem mix_forced (n : Nat) {l : List Oper} {Q : Exit → Act → World → Prop} {a : Act} {w : World} {o : Oper} (ho : l[n]? = some o) (hr : Region.ready .any l.toArray (come n l.length) = [n])
    (hw : Region.wanted o (yielded l.toArray a.tmps) = true)
    (h : ∀ K : Act → World → Prop, (∀ a' w', mixAt P l Q (n + 1) a' w' → K a' w') → o.wp P a w K Q) : mixAt P l Q n a w := by
  have hlt : n < l.length := (List.getElem?_eq_some_iff.1 ho).1
  unfold mixAt
  rw [show l.length - n = (l.length - (n + 1)) + 1 by omega]
  refine ⟨fun h0 => (by rw [hr] at h0; cases h0), fun i hi => ?_⟩
  rw [hr] at hi
  have hi' : i = n := by simpa using hi
  subst hi'
  unfold wpOp
  have ho' : l.toArray[i]? = some o := by simpa using ho
  simp only [ho', hw, if_true]
  refine .inl (h _ fun a' w' h' => ?_)
  rw [come_set hlt]
  exact h'
theorem mix_skip (n : Nat) {l : List Oper} {Q : Exit → Act → World → Prop} {a : Act} {w : World} {o : Oper} (ho : l[n]? = some o) (hr : Region.ready .any l.toArray (come n l.length) = [n])
    (hw : Region.wanted o (yielded l.toArray a.tmps) = false) (h : mixAt P l Q (n + 1) (a.put o.dst undef) w) : mixAt P l Q n a w := by
  have hlt : n < l.length := (List.getElem?_eq_some_iff.1 ho).1
  unfold mixAt
  rw [show l.length - n = (l.length - (n + 1)) + 1 by omega]
  refine ⟨fun h0 => (by rw [hr] at h0; cases h0), fun i hi => ?_⟩
  rw [hr] at hi
  have hi' : i = n := by simpa using hi
  subst hi'
  unfold wpOp
  have ho' : l.toArray[i]? = some o := by simpa using ho
  simp only [ho', hw]
  rw [come_set hlt]
  exact h
theorem mix_end {l : List Oper} {Q : Exit → Act → World → Prop} {a : Act} {w : World} (n : Nat) (hn : n = l.length) (hr : Region.ready .any l.toArray (come n l.length) = []) (h : Q .normal a w) : mixAt P l Q n a w := by
  subst hn
  unfold mixAt
  rw [Nat.sub_self]
  exact ⟨hr, h⟩
end

/-- A quiet call whose contract keeps the very world. -/
theorem quiet_left {P : Program} {f : FuncId} {args : Array Value} {w : World} {n : Nat} {v : Value}
    (h : Calls P f args (w.drewN n) fun e w' => e = .returned v ∧ w.drewN n = w') : Calls P f args (w.drewN n) fun e w'' => e = .returned v ∧ ∃ m, w'' = w.drewN m :=
  h.mono fun _ _ ⟨he, hm⟩ => ⟨he, n, hm.symm⟩
end Go.Proofs.Ytakpkedioehjbaa
