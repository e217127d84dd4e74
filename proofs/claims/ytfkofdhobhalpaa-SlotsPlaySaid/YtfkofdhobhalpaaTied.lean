/-
  THE PLAIN LAW of SlotsPlay: the row and the reference say the same.
-/
import Derived.Test.YtfkofdhobhalpaaRefE
import Derived.Test.YtfkofdhobhalpaaActs
namespace Go.Proofs.Ytfkofdhobhalpaa
open Go.RowKit Go.Maps

/-- Rising by slot. -/
def Rising (l : List Item) : Prop := l.Pairwise fun x y => x.1 < y.1
/-- The row and the reference's row hold the same. -/
structure Tied (base top : Int) (M : Vals) (s : RS) : Prop where
  eb : s.base = base
  et : s.top = top
  sorted : Rising s.l
  mem : ∀ k v, (k, v) ∈ s.l ↔ M k = some v
  low : ∀ k, (M k).isSome = true → base < k
  full : ∀ k, base < k → k ≤ top → (M k).isSome = true

theorem refGet_eq {l : List Item} {M : Vals} (h : ∀ k v, (k, v) ∈ l ↔ M k = some v) (k : Int) : refGet l k = M k := by
  unfold refGet
  cases hf : l.find? (fun x => x.1 == k) with
  | none =>
    cases hM : M k with
    | none => rfl
    | some v =>
      have h1 := List.find?_eq_none.1 hf _ ((h k v).2 hM)
      simp at h1
  | some x =>
    have hx := List.mem_of_find?_eq_some hf
    have hk := List.find?_some hf
    have hk' : x.1 = k := by simpa using hk
    subst hk'
    exact ((h x.1 x.2).1 hx).symm
theorem Tied.get {base top : Int} {M : Vals} {s : RS} (h : Tied base top M s) (k : Int) : refGet s.l k = M k := refGet_eq h.mem k

theorem rising_last {l : List Item} {x : Item} (h : Rising l) (hx : l.getLast? = some x) : x ∈ l ∧ ∀ y ∈ l, y.1 ≤ x.1 := by
  obtain ⟨ys, rfl⟩ := List.getLast?_eq_some_iff.1 hx
  refine ⟨by simp, fun y hy => ?_⟩
  rcases List.mem_append.1 hy with hy | hy
  · exact Int.le_of_lt ((List.pairwise_append.1 h).2.2 y hy x (by simp))
  · rw [List.mem_singleton.1 hy]
    exact Int.le_refl _
theorem last_unique {top : Int} {M : Vals} {x y : Int} (hx : IsLast top M x) (hy : IsLast top M y) : x = y := by
  obtain ⟨a1, a2, a3⟩ := hx
  obtain ⟨b1, b2, b3⟩ := hy
  have h1 : x ≤ y := by
    rcases a2 with rfl | ⟨hu, hm⟩
    · exact b1
    · exact b3 x hu hm
  have h2 : y ≤ x := by
    rcases b2 with rfl | ⟨hu, hm⟩
    · exact a1
    · exact a3 y hu hm
  omega
theorem Tied.last {base top : Int} {M : Vals} {s : RS} (h : Tied base top M s) (hv : ∀ s, (M s).isSome = true → 1 ≤ s ∧ s ≤ 4611686018427387904) {x : Int} (hx : IsLast top M x) : refLast s.top s.l = x := by
  refine last_unique (M := M) (top := top) ?_ hx
  rw [h.et]
  unfold refLast
  have hmem : ∀ k, (M k).isSome = true → ∃ v, (k, v) ∈ s.l := fun k hk => by
    obtain ⟨v, hv⟩ := Option.isSome_iff_exists.1 hk
    exact ⟨v, (h.mem k v).2 hv⟩
  cases hl : s.l.getLast? with
  | none =>
    have hnil : s.l = [] := List.getLast?_eq_none_iff.1 hl
    refine ⟨Int.le_refl _, Or.inl rfl, fun k _ hk => ?_⟩
    obtain ⟨v, hm⟩ := hmem k hk
    rw [hnil] at hm
    cases hm
  | some y =>
    obtain ⟨hy, hmax⟩ := rising_last h.sorted hl
    have hMy : (M y.1).isSome = true := by rw [(h.mem y.1 y.2).1 hy]; rfl
    have hr := hv _ hMy
    show IsLast top M (if top < y.1 then y.1 else top)
    by_cases ht : top < y.1
    · rw [if_pos ht]
      refine ⟨by omega, Or.inr ⟨u_iff.2 ⟨by omega, by omega⟩, hMy⟩, fun k _ hk => ?_⟩
      obtain ⟨v, hm⟩ := hmem k hk
      exact hmax _ hm
    · rw [if_neg ht]
      refine ⟨Int.le_refl _, Or.inl rfl, fun k _ hk => ?_⟩
      obtain ⟨v, hm⟩ := hmem k hk
      have := hmax _ hm
      simp at this
      omega

theorem rising_ext : ∀ (l m : List Item), Rising l → Rising m → (∀ x, x ∈ l ↔ x ∈ m) → l = m
  | [], [], _, _, _ => rfl
  | [], y :: m, _, _, h => by have := (h y).2 (by simp); cases this
  | x :: l, [], _, _, h => by have := (h x).1 (by simp); cases this
  | x :: l, y :: m, h1, h2, h => by
    have a1 := List.pairwise_cons.1 h1
    have a2 := List.pairwise_cons.1 h2
    have hxy : x = y := by
      rcases List.mem_cons.1 ((h x).1 (by simp)) with e | e
      · exact e
      · rcases List.mem_cons.1 ((h y).2 (by simp)) with e2 | e2
        · exact e2.symm
        · have := a1.1 y e2
          have := a2.1 x e
          omega
    subst hxy
    rw [rising_ext l m a1.2 a2.2 fun z => ⟨fun hz => ?_, fun hz => ?_⟩]
    · rcases List.mem_cons.1 ((h z).1 (by simp [hz])) with e | e
      · subst e
        have := a1.1 z hz
        omega
      · exact e
    · rcases List.mem_cons.1 ((h z).2 (by simp [hz])) with e | e
      · subst e
        have := a2.1 z hz
        omega
      · exact e

theorem inserted_cons (x : Item) (l : List Item) (k : Int) (v : ByteArray) : inserted (x :: l) k v = if x.1 < k then x :: inserted l k v else (k, v) :: x :: l := by
  unfold inserted
  by_cases h : x.1 < k
  · simp [under, h]
  · simp [under, h]
theorem inserted_mem (k : Int) (v : ByteArray) (y : Item) : ∀ l : List Item, y ∈ inserted l k v ↔ y = (k, v) ∨ y ∈ l
  | [] => by simp [inserted]
  | x :: l => by
    rw [inserted_cons]
    have ih := inserted_mem k v y l
    by_cases h : x.1 < k
    · rw [if_pos h, List.mem_cons, ih, List.mem_cons]
      constructor
      · rintro (h | h | h) <;> simp [h]
      · rintro (h | h | h) <;> simp [h]
    · rw [if_neg h, List.mem_cons]
theorem inserted_rising (k : Int) (v : ByteArray) : ∀ l : List Item, Rising l → (∀ y ∈ l, y.1 ≠ k) → Rising (inserted l k v)
  | [], _, _ => by simp [inserted, Rising]
  | x :: l, h, hne => by
    have a := List.pairwise_cons.1 h
    rw [inserted_cons]
    by_cases hk : x.1 < k
    · rw [if_pos hk]
      refine List.pairwise_cons.2 ⟨fun y hy => ?_, inserted_rising k v l a.2 fun y hy => hne y (by simp [hy])⟩
      rcases (inserted_mem k v y l).1 hy with rfl | hy
      · exact hk
      · exact a.1 y hy
    · rw [if_neg hk]
      have hx := hne x (by simp)
      refine List.pairwise_cons.2 ⟨fun y hy => ?_, h⟩
      rcases List.mem_cons.1 hy with rfl | hy
      · show k < y.1; omega
      · have := a.1 y hy; show k < y.1; omega
theorem inserted_len (k : Int) (v : ByteArray) : ∀ l : List Item, (inserted l k v).length = l.length + 1
  | [] => by simp [inserted]
  | x :: l => by
    rw [inserted_cons]
    have ih := inserted_len k v l
    by_cases hk : x.1 < k
    · rw [if_pos hk]; simp [ih]
    · rw [if_neg hk]; simp

theorem tied_start (b : Int) : Tied b b Vals.none ⟨b, b, []⟩ :=
  ⟨rfl, rfl, List.Pairwise.nil, fun k v => ⟨fun h => (by cases h), fun h => (by cases h)⟩, fun k h => (by cases h), fun k h1 h2 => by omega⟩
theorem tied_next {base top : Int} {M : Vals} {s : RS} {v : ByteArray} (h : Tied base top M s) (hM : M (top + 1) = some v) : Tied base (top + 1) M ⟨s.base, s.top + 1, s.l⟩ :=
  ⟨h.eb, by show s.top + 1 = top + 1; rw [h.et], h.sorted, h.mem, h.low, fun k h1 h2 => by
    by_cases e : k = top + 1
    · rw [e, hM]; rfl
    · exact h.full k h1 (by omega)⟩
theorem filter_tied {M : Vals} {l : List Item} (u : Int) (h : ∀ k v, (k, v) ∈ l ↔ M k = some v) (k : Int) (v : ByteArray) : (k, v) ∈ l.filter (above u) ↔ M.drop u k = some v := by
  rw [List.mem_filter]
  unfold Vals.drop above
  by_cases hk : k ≤ u
  · rw [if_pos hk]
    simp
    intro _
    omega
  · rw [if_neg hk, h]
    simp
    intro _
    omega
theorem tied_cut {base top top' : Int} {M : Vals} {s : RS} {u : Int} (h : Tied base top M s) (ht : top' = top ∨ top' = u) (hb : base ≤ u) : Tied u top' (M.drop u) ⟨u, top', s.l.filter (above u)⟩ := by
  refine ⟨rfl, rfl, h.sorted.filter _, filter_tied u h.mem, fun k hk => ?_, fun k h1 h2 => ?_⟩
  · unfold Vals.drop at hk
    split at hk
    · cases hk
    · omega
  · unfold Vals.drop
    rw [if_neg (by omega)]
    rcases ht with rfl | rfl
    · exact h.full k (by omega) h2
    · omega
theorem tied_put {base top : Int} {M : Vals} {s : RS} {k : Int} {v : ByteArray} (h : Tied base top M s) (hb : base < k) (hM : M k = none) : Tied base top (M.put k v) ⟨s.base, s.top, inserted s.l k v⟩ := by
  have hne : ∀ y ∈ s.l, y.1 ≠ k := fun y hy e => by
    have h1 := (h.mem y.1 y.2).1 hy
    rw [e, hM] at h1
    cases h1
  refine ⟨h.eb, h.et, inserted_rising k v s.l h.sorted hne, fun j u => ?_, fun j hj => ?_, fun j h1 h2 => ?_⟩
  · rw [inserted_mem]
    unfold Vals.put
    by_cases e : j = k
    · subst e
      rw [if_pos rfl]
      constructor
      · rintro (e | e)
        · injection e with _ e; rw [e]
        · exact absurd rfl (hne _ e)
      · intro e
        injection e with e
        exact Or.inl (by rw [e])
    · rw [if_neg e, ← h.mem]
      constructor
      · rintro (e2 | e2)
        · injection e2 with e2 _; exact absurd e2 e
        · exact e2
      · exact Or.inr
  · unfold Vals.put at hj
    by_cases e : j = k
    · rw [e]; exact hb
    · rw [if_neg e] at hj; exact h.low j hj
  · unfold Vals.put
    by_cases e : j = k
    · rw [if_pos e]; rfl
    · rw [if_neg e]; exact h.full j h1 h2

theorem itemsFrom_mem (M : Vals) (a : Int) (c : Nat) (x : Item) : x ∈ itemsFrom M a c ↔ a ≤ x.1 ∧ x.1 < a + (c : Int) ∧ x.2 = (M x.1).getD ByteArray.empty := by
  unfold itemsFrom
  rw [List.mem_map]
  constructor
  · rintro ⟨i, hi, rfl⟩
    have := List.mem_range.1 hi
    refine ⟨?_, ?_, rfl⟩
    · show a ≤ a + (i : Int); omega
    · show a + (i : Int) < a + (c : Int); omega
  · rintro ⟨h1, h2, h3⟩
    refine ⟨(x.1 - a).toNat, List.mem_range.2 (by omega), ?_⟩
    have e : a + ((x.1 - a).toNat : Int) = x.1 := by omega
    rw [e, ← h3]
theorem itemsFrom_rising (M : Vals) (a : Int) (c : Nat) : Rising (itemsFrom M a c) := by
  unfold Rising itemsFrom
  rw [List.pairwise_map]
  refine List.Pairwise.imp ?_ List.pairwise_lt_range
  intro i j h
  show a + (i : Int) < a + (j : Int)
  omega
theorem itemsFrom_take (M : Vals) (a : Int) (c m : Nat) : (itemsFrom M a c).take m = itemsFrom M a (min m c) := by
  unfold itemsFrom
  rw [← List.map_take, List.take_range]
theorem Tied.items {base top : Int} {M : Vals} {s : RS} (h : Tied base top M s) (f most : Int) : refItems f s.top most s.l = itemsFrom M (max f (base + 1)) (howMany base top f most) := by
  unfold refItems
  rw [h.et]
  have e : s.l.filter (inB f top) = itemsFrom M (max f (base + 1)) (top + 1 - max f (base + 1)).toNat := by
    refine rising_ext _ _ (h.sorted.filter _) (itemsFrom_rising _ _ _) fun x => ?_
    rw [List.mem_filter, itemsFrom_mem]
    obtain ⟨k, v⟩ := x
    rw [h.mem]
    simp only [inB, Bool.and_eq_true, decide_eq_true_eq]
    constructor
    · rintro ⟨hM, h1, h2⟩
      have hb := h.low k (by rw [hM]; rfl)
      refine ⟨by omega, by omega, by rw [hM]; rfl⟩
    · rintro ⟨h1, h2, h3⟩
      obtain ⟨u, hu⟩ := Option.isSome_iff_exists.1 (h.full k (by omega) (by omega))
      refine ⟨?_, by omega, by omega⟩
      rw [hu] at h3 ⊢
      rw [h3]
      rfl
  rw [e, itemsFrom_take]
  unfold howMany
  congr 1
  omega

/-- What is true of the two behind k acts. -/
structure Both (base top : Int) (n k : Nat) (M : Vals) (s : RS) : Prop where
  inv : Inv base top n k M
  tied : Tied base top M s
  len : s.l.length ≤ k
theorem both_start {b : Int} (h0 : 0 ≤ b) (h1 : b ≤ 4611686018427387904) : Both b b 0 0 Vals.none ⟨b, b, []⟩ := ⟨inv_start h0 h1, tied_start b, Nat.le_refl _⟩
section
variable {base top : Int} {n k : Nat} {M : Vals} {s : RS}
theorem Both.next_none (h : Both base top n k M s) (hM : M (top + 1) = none) : s.next = s ∧ s.nextItem = (0, ByteArray.empty) ∧ s.nextIs = false ∧ Both base top n (k + 1) M s := by
  have e : refGet s.l (s.top + 1) = none := by rw [h.tied.get, h.tied.et, hM]
  refine ⟨?_, ?_, ?_, h.inv.more, h.tied, by have := h.len; omega⟩
  · unfold RS.next; rw [e]
  · unfold RS.nextItem; rw [e]
  · unfold RS.nextIs; rw [e]; rfl
theorem Both.next_some (h : Both base top n k M s) {v : ByteArray} (hM : M (top + 1) = some v) : s.nextItem = (top + 1, v) ∧ s.nextIs = true ∧ Both base (top + 1) n (k + 1) M s.next := by
  have e : refGet s.l (s.top + 1) = some v := by rw [h.tied.get, h.tied.et, hM]
  have e2 : s.next = ⟨s.base, s.top + 1, s.l⟩ := by unfold RS.next; rw [e]
  refine ⟨?_, ?_, ?_⟩
  · unfold RS.nextItem; rw [e, h.tied.et]
  · unfold RS.nextIs; rw [e]; rfl
  · rw [e2]
    exact ⟨inv_next h.inv hM, tied_next h.tied hM, by have := h.len; show s.l.length ≤ k + 1; omega⟩
theorem Both.keep_far (h : Both base top n k M s) {u : Int} (hu : ¬ (u ≤ 4611686018427387904 ∧ u ≤ top)) : s.keepCode u = 2 ∧ s.keep u = s ∧ Both base top n (k + 1) M s := by
  have ht := h.tied.et
  have h1 := h.inv.t1
  have hlt : s.top < u := by omega
  exact ⟨by unfold RS.keepCode; rw [if_pos hlt], by unfold RS.keep; rw [if_pos hlt], h.inv.more, h.tied, by have := h.len; omega⟩
theorem Both.keep_old (h : Both base top n k M s) {u : Int} (h1 : u ≤ top) (h2 : u ≤ base) : s.keepCode u = 0 ∧ s.keep u = s ∧ Both base top n (k + 1) M s := by
  have ht := h.tied.et
  have hb := h.tied.eb
  have hlt : ¬ s.top < u := by omega
  exact ⟨by unfold RS.keepCode; rw [if_neg hlt], by unfold RS.keep; rw [if_neg hlt, if_pos (by omega)], h.inv.more, h.tied, by have := h.len; omega⟩
theorem Both.keep_new (h : Both base top n k M s) {u : Int} (h1 : u ≤ top) (h2 : base < u) : s.keepCode u = 0 ∧ Both u top n (k + 1) (M.drop u) (s.keep u) := by
  have ht := h.tied.et
  have hb := h.tied.eb
  have hlt : ¬ s.top < u := by omega
  have e : s.keep u = ⟨u, top, s.l.filter (above u)⟩ := by unfold RS.keep; rw [if_neg hlt, if_neg (by omega), ht]
  refine ⟨by unfold RS.keepCode; rw [if_neg hlt], ?_⟩
  rw [e]
  exact ⟨inv_keep h.inv h1 h2, tied_cut h.tied (Or.inl rfl) (by omega), by have := h.len; have := List.length_filter_le (above u) s.l; show (s.l.filter (above u)).length ≤ k + 1; omega⟩
theorem Both.jump_far (h : Both base top n k M s) {u : Int} (hu : ¬ (u ≤ 4611686018427387904 ∧ top ≤ u)) : s.jumpCode u = 2 ∧ s.jump u = s ∧ Both base top n (k + 1) M s := by
  have ht := h.tied.et
  have hlt : u < s.top ∨ far < u := by unfold far; omega
  exact ⟨by unfold RS.jumpCode; rw [if_pos hlt], by unfold RS.jump; rw [if_pos hlt], h.inv.more, h.tied, by have := h.len; omega⟩
theorem Both.jump_new (h : Both base top n k M s) {u : Int} (h1 : u ≤ 4611686018427387904) (h2 : top ≤ u) : s.jumpCode u = 0 ∧ Both u u n (k + 1) (M.drop u) (s.jump u) := by
  have ht := h.tied.et
  have hlt : ¬ (u < s.top ∨ far < u) := by unfold far; omega
  have e : s.jump u = ⟨u, u, s.l.filter (above u)⟩ := by unfold RS.jump; rw [if_neg hlt]
  refine ⟨by unfold RS.jumpCode; rw [if_neg hlt], ?_⟩
  rw [e]
  exact ⟨inv_jump h.inv h1 h2, tied_cut h.tied (Or.inr rfl) (by have := h.inv.bt; omega), by have := h.len; have := List.length_filter_le (above u) s.l; show (s.l.filter (above u)).length ≤ k + 1; omega⟩
theorem Both.put (h : Both base top n k M s) (j : Int) (v : ByteArray) : s.putCode j v = putCode base M j v ∧ Both base top (n + 1) (k + 1) (putVals base M j v) (s.put j v) := by
  have hb := h.tied.eb
  have hg := h.tied.get j
  have hi : Inv base top (n + 1) (k + 1) (putVals base M j v) := inv_put h.inv
  have hlen := h.len
  have hcode : s.putCode j v = putCode base M j v := by
    unfold RS.putCode putCode
    rw [hg, hb]
    generalize M j = o
    cases o <;> rfl
  have hp : Tied base top (putVals base M j v) (s.put j v) ∧ (s.put j v).l.length ≤ k + 1 := by
    by_cases h1 : 1 ≤ j ∧ j ≤ far
    · by_cases h2 : j ≤ base
      · have e1 : s.put j v = s := by unfold RS.put; rw [if_pos h1, hb, if_pos h2]
        have e2 : putVals base M j v = M := by unfold putVals; rw [if_neg (fun h3 => by have := h3.2.1; omega)]
        rw [e1, e2]
        exact ⟨h.tied, by omega⟩
      · cases hM : M j with
        | none =>
          have e1 : s.put j v = ⟨s.base, s.top, inserted s.l j v⟩ := by unfold RS.put; rw [if_pos h1, hb, if_neg h2, hg, hM]
          have e2 : putVals base M j v = M.put j v := by unfold putVals; rw [if_pos ⟨h1, by omega, Or.inl hM⟩]
          rw [e1, e2]
          exact ⟨tied_put h.tied (by omega) hM, by show (inserted s.l j v).length ≤ k + 1; rw [inserted_len]; omega⟩
        | some old =>
          have e1 : s.put j v = s := by unfold RS.put; rw [if_pos h1, hb, if_neg h2, hg, hM]
          rw [e1]
          by_cases hov : old = v
          · subst hov
            have e2 : putVals base M j old = M.put j old := by unfold putVals; rw [if_pos ⟨h1, by omega, Or.inr hM⟩]
            have hsame : M.put j old = M := by
              funext i
              unfold Vals.put
              by_cases e : i = j
              · rw [if_pos e, e, hM]
              · rw [if_neg e]
            rw [e2, hsame]
            exact ⟨h.tied, by omega⟩
          · have e2 : putVals base M j v = M := by
              unfold putVals
              rw [if_neg]
              rintro ⟨_, _, h3 | h3⟩
              · rw [hM] at h3; cases h3
              · rw [hM] at h3; injection h3 with h3; exact hov h3
            rw [e2]
            exact ⟨h.tied, by omega⟩
    · have e1 : s.put j v = s := by unfold RS.put; rw [if_neg h1]
      have e2 : putVals base M j v = M := by unfold putVals; rw [if_neg (fun h3 => h1 h3.1)]
      rw [e1, e2]
      exact ⟨h.tied, by omega⟩
  exact ⟨hcode, hi, hp.1, hp.2⟩
end
end Go.Proofs.Ytfkofdhobhalpaa
