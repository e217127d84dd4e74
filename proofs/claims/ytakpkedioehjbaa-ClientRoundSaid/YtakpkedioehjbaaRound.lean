/-
  THE WALK of the law ClientRound.
-/
import Derived.Test.YtakpkedioehjbaaWakesB
namespace Go.Proofs.Ytakpkedioehjbaa
open Go.RowKit Go.Maps

theorem owns_block {H : Type} {P : Program} {k : TypeId} {R : Value → Option (DataW H × List MemPlace)} {w w' : World} {b n : Nat} {D : DataW H} (h : w.ownsMap P k R b n D) (e : w'.heap[b]? = w.heap[b]?) : w'.ownsMap P k R b n D := by
  obtain ⟨es, clock, hb, rest⟩ := h
  exact ⟨es, clock, e.trans hb, rest⟩
theorem owns_lt {H : Type} {P : Program} {k : TypeId} {R : Value → Option (DataW H × List MemPlace)} {w : World} {b n : Nat} {D : DataW H} (h : w.ownsMap P k R b n D) : b < w.heap.size := by
  obtain ⟨es, clock, hb, rest⟩ := h
  exact block_lt hb

/-- The nodes that were asked in the first i rounds. -/
def seen (a n : Int) : Nat → DataW Unit
  | 0 => .map []
  | i + 1 => (seen a n i).put (.int .u8 ((a + (i : Int) + 1) % n)) (.lit (.bool true))
def Seen (w : World) (b : Nat) (a n : Int) (i : Nat) : Prop := w.ownsMap Try.prog 5 (plainElem Try.prog 4) b i (seen a n i)
theorem seen_new (a n : Int) (k : Int) : ∀ i : Nat, (∀ j : Nat, j < i → (a + (j : Int) + 1) % n ≠ k) → (seen a n i).atKey (.int .u8 k) (.lit (.bool false)) = .lit (.bool false)
  | 0, _ => rfl
  | i + 1, h => by
    unfold seen
    rw [atKey_put_other (by simpa using fun e => h i (by omega) e.symm)]
    exact seen_new a n k i (fun j hj => h j (by omega))
theorem turn_next (a n : Int) (k : Nat) : (a + ((k + 1 : Nat) : Int)) % n = (a + (k : Int) + 1) % n := by
  congr 1
  push_cast
  omega
theorem turn_ne (a n : Int) (i j : Nat) (hn : (i : Int) < n) (hj : j < i) : (a + (j : Int) + 1) % n ≠ (a + (i : Int) + 1) % n := by
  intro e
  have h1 : (a + (i : Int) + 1 - (a + (j : Int) + 1)) % n = 0 := by rw [← Int.emod_emod_of_dvd _ (Int.dvd_refl n), Int.sub_emod, e]; simp
  have h2 : a + (i : Int) + 1 - (a + (j : Int) + 1) = (i : Int) - j := by omega
  rw [h2, Int.emod_eq_of_lt (by omega) (by omega)] at h1
  omega
theorem zeroB (w : World) : (zeroValue 4).run Try.prog w = .ok (.bool false) w := by kernel_rfl
theorem plain_bool_inv {H : Type} {P : Program} {e : TypeId} (he : P.underlying e = some .bool) {v : Value} {z : DataW H × List MemPlace} (h : plainElem P e v = some z) : ∃ c, v = .bool c ∧ z = (.lit (.bool c), []) := by
  unfold plainElem at h
  rw [he] at h
  cases v <;> simp at h
  exact ⟨_, rfl, h.symm⟩
theorem look_seen {w : World} {b : Nat} {a n k : Int} {i : Nat} (h : Seen w b a n i) (hk : (Lit.int .u8 k).wf = true) (hne : ∀ j : Nat, j < i → (a + (j : Int) + 1) % n ≠ k) :
    (Instr.lookup 66 (.map (some b)) (.int .u8 k) false).run Try.prog w = .ok (.bool false) w := by
  obtain ⟨v, ps, hrun, hv⟩ := World.ownsMap.lookup h lawK Try.underlying66 (zeroB w) (plainElem_bool Try.underlying4 false) (keyOf_int_mk Try.underlying5 hk)
  obtain ⟨c, rfl, hc⟩ := plain_bool_inv Try.underlying4 hv
  rw [seen_new a n k i hne] at hc
  simp only [Prod.mk.injEq, DataW.lit.injEq, Lit.bool.injEq] at hc
  rw [hrun, ← hc.1]
theorem put_seen {w : World} {b : Nat} {a n : Int} {i : Nat} (h : Seen w b a n i) (hi : i < maxLen) (hk : (Lit.int .u8 ((a + (i : Int) + 1) % n)).wf = true) :
    ∃ w', (Instr.mapUpdate 66 (.map (some b)) (.int .u8 ((a + (i : Int) + 1) % n)) (.bool true)).run Try.prog w = .ok () w' ∧ Seen w' b a n (i + 1) ∧ w.grownBy w' (some b) :=
  World.ownsMap.update h lawK Try.underlying66 hi (keyOf_int_mk Try.underlying5 hk) (plainElem_bool Try.underlying4 true)

/-- The state behind the call's first two acts, and i nudges. -/
def rnd (id n a : Int) (i : Nat) : St := ⟨id, n, 1, true, { getCmd with client := id, seq := 1 }, (a + (i : Int)) % n⟩
theorem rnd_ok {id n a : Int} {i : Nat} (h0 : 0 ≤ id) (h1 : id < 4) (h2 : 1 ≤ n) (h3 : n ≤ 7) : (rnd id n a i).Ok :=
  ⟨h0, h1, h2, h3, Int.emod_nonneg _ (by show n ≠ 0; omega), Int.emod_lt_of_pos _ (by show 0 < n; omega), by show (0 : Int) ≤ 1; decide, by show (1 : Int) < 4294967296; decide⟩
theorem new_ok {id n : Int} (h0 : 0 ≤ id) (h1 : id < 4) (h2 : 1 ≤ n) (h3 : n ≤ 7) : (St.new id n).Ok :=
  ⟨h0, h1, h2, h3, Int.emod_nonneg _ (by show n ≠ 0; omega), Int.emod_lt_of_pos _ (by show 0 < n; omega), by show (0 : Int) ≤ 0; decide, by show (0 : Int) < 4294967296; decide⟩
theorem rnd_next {id n a : Int} {i : Nat} : (rnd id n a i).nudged = rnd id n a (i + 1) := by
  unfold rnd St.nudged
  simp only [St.mk.injEq, true_and]
  rw [Int.emod_add_emod]
  congr 1
  push_cast
  omega
theorem rnd_start {id n : Int} : (St.new id n).invoked getCmd = rnd id n (id % n) 0 := by
  unfold rnd St.invoked St.named St.new
  simp
theorem may_0 : Cmd.mayB ⟨0, 1, 1, ⟨#[107]⟩, ByteArray.empty, ByteArray.empty, 0⟩ = true := by kernel_rfl
theorem may_1 : Cmd.mayB ⟨1, 1, 1, ⟨#[107]⟩, ByteArray.empty, ByteArray.empty, 0⟩ = true := by kernel_rfl
theorem may_2 : Cmd.mayB ⟨2, 1, 1, ⟨#[107]⟩, ByteArray.empty, ByteArray.empty, 0⟩ = true := by kernel_rfl
theorem may_3 : Cmd.mayB ⟨3, 1, 1, ⟨#[107]⟩, ByteArray.empty, ByteArray.empty, 0⟩ = true := by kernel_rfl
theorem may_of {id n : Int} (h0 : 0 ≤ id) (h1 : id < 4) : ((St.new id n).named getCmd).mayB = true := by
  have h : ((St.new id n).named getCmd) = ⟨id, 1, 1, ⟨#[107]⟩, ByteArray.empty, ByteArray.empty, 0⟩ := rfl
  rw [h]
  rcases (by omega : id = 0 ∨ id = 1 ∨ id = 2 ∨ id = 3) with rfl | rfl | rfl | rfl
  · exact may_0
  · exact may_1
  · exact may_2
  · exact may_3

/-- The letter that moves it, or does not. -/
def sendOff (id m : Int) : Letter := { Letter.zero with src := 0, dst := 16 + id, kind := 3, node := m, cmd := { Cmd.zero with client := id, seq := 1 } }
theorem sendOff_fits {id m : Int} (h0 : 0 ≤ m) (h1 : m < 256) : (sendOff id m).Fits := ⟨by show (0 : Int) ≤ 0; decide, by show (0 : Int) < 256; decide, h0, h1, rfl, rfl⟩
theorem sendOff_own {id n m : Int} (h2 : 1 ≤ n) : (rnd id n (id % n) 0).own (sendOff id m) = true := by
  simp [St.own, rnd, sendOff]
  omega
theorem sendOff_moves {id n m : Int} (h2 : 1 ≤ n) (hm : m < n) : (rnd id n (id % n) 0).moves (sendOff id m) = true := moves_yes (sendOff_own h2) rfl hm
theorem sendOff_stays {id n m : Int} (hm : ¬ m < n) : (rnd id n (id % n) 0).moves (sendOff id m) = false := by
  have : decide (m < n) = false := by simp; omega
  simp [St.moves, rnd, sendOff, this]
theorem sendOff_not {id n m : Int} : (rnd id n (id % n) 0).takes (sendOff id m) = false := by
  simp [St.takes, sendOff]
theorem sendOff_rnd {id n m : Int} (h0 : 0 ≤ m) (hm : m < n) : (rnd id n (id % n) 0).heardMoved (sendOff id m) = rnd id n m 0 := by
  simp [St.heardMoved, rnd, sendOff, Int.emod_eq_of_lt h0 hm]
end Go.Proofs.Ytakpkedioehjbaa
