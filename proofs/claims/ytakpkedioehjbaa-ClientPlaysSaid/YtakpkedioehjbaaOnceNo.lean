/-
  THE WALK of the law ClientOnce, where no act is looked at; what acts that came in are.
-/
import Derived.Test.YtakpkedioehjbaaOnceA
import Derived.Test.YtakpkedioehjbaaLaw
namespace Go.Proofs.Ytakpkedioehjbaa
open Go.RowKit Go.Maps

set_option maxRecDepth 100000 in
set_option maxHeartbeats 800000 in
theorem great_none (w : World) : Calls Try.prog 7 #[.slice none 0 0] w fun r w' => r = .returned (.bool false) ∧ w = w' := by
  go_enter Try.func7, Try.ntmps7
  go_wp2_with fail
  go_loop [3] (fun i => i = .int .i64 0) (fun _ => 0)
  case atStart => rfl
  case round =>
    subst hrel
    go_wp2_with fail
    go_ret
    exact ⟨rfl, rfl⟩

/-- The acts of a value. -/
inductive Deeds (w : World) : Value → List Deed → Prop
  | none : Deeds w (.slice none 0 0) []
  | some (a : Addr) (L : List Deed) (cap : Nat) (h : DeedsAt w a L) (hf : ∀ d ∈ L, d.Fits) (hn : L.length < 2 ^ 63) : Deeds w (.slice (some a) L.length cap) L

theorem great_deeds {w : World} {v : Value} {L : List Deed} (h : Deeds w v L) :
    Calls Try.prog 7 #[v] w fun r w' => (∃ b, r = .returned (.bool b) ∧ (b = false → L.length ≤ 200)) ∧ Below w.heap.size w w' := by
  cases h with
  | none => exact (great_none w).mono fun r w' ⟨hr, hw⟩ => by subst hw; exact ⟨⟨false, hr, fun _ => by decide⟩, Below.refl _ _⟩
  | some a L cap h hf hn => exact great_any L a cap w h hn hf

set_option maxRecDepth 100000 in
set_option maxHeartbeats 1600000 in
theorem once_no (id n : Int) (v : Value) (L : List Deed) (w : World) (hv : Deeds w v L) (h : ¬ (id < 4 ∧ 1 ≤ n ∧ n ≤ 7)) :
    Calls Try.prog 5 #[.int .u8 id, .int .i64 n, v] w fun r w' => r = .returned (.bool true) ∧ Below w.heap.size w w' := by
  have hg := great_deeds hv
  have Hg := Lib.hid hg
  clear hg hv
  by_cases h1 : id < 4
  · by_cases h2 : n < 1
    · clear h
      go_enter Try.func5, Try.ntmps5
      go_wp2_with fail
      refine Hg.out.mono ?_
      rintro e w1 ⟨⟨b, rfl, hb⟩, hbel⟩
      clear hb
      cases b <;>
      (go_wp2_with fail
       refine (wakes_any _).mono ?_
       rintro e w' ⟨rfl, hb⟩
       go_wp2_with fail
       go_ret
       exact ⟨rfl, hbel.trans (hb.mono hbel.size)⟩)
    · have h3 : 7 < n := by omega
      clear h
      go_enter Try.func5, Try.ntmps5
      go_wp2_with fail
      refine Hg.out.mono ?_
      rintro e w1 ⟨⟨b, rfl, hb⟩, hbel⟩
      clear hb
      cases b <;>
      (go_wp2_with fail
       refine (wakes_any _).mono ?_
       rintro e w' ⟨rfl, hb⟩
       go_wp2_with fail
       go_ret
       exact ⟨rfl, hbel.trans (hb.mono hbel.size)⟩)
  · clear h
    go_enter Try.func5, Try.ntmps5
    go_wp2_with fail
    refine Hg.out.mono ?_
    rintro e w1 ⟨⟨b, rfl, hb⟩, hbel⟩
    clear hb
    cases b <;>
    (go_wp2_with fail
     refine (wakes_any _).mono ?_
     rintro e w' ⟨rfl, hb⟩
     go_wp2_with fail
     go_ret
     exact ⟨rfl, hbel.trans (hb.mono hbel.size)⟩)

set_option maxRecDepth 100000 in
set_option maxHeartbeats 1600000 in
theorem once_none (id n : Int) (w : World) (hid0 : 0 ≤ id) (h1 : id < 4) (h2 : 1 ≤ n) (h3 : n ≤ 7) :
    Calls Try.prog 5 #[.int .u8 id, .int .i64 n, .slice none 0 0] w fun r w' => r = .returned (.bool true) ∧ Below w.heap.size w w' := by
  go_enter Try.func5, Try.ntmps5
  go_wp2_with fail
  refine (great_none _).mono ?_
  rintro e w1 ⟨rfl, rfl⟩
  go_wp2_with fail
  refine (new_yes id n _ hid0 h1 h2 h3).mono ?_
  rintro e w2 ⟨rfl, hs2, hb2⟩
  clear hs2
  go_wp2_with fail
  go_loopw [9, 10, 11] (fun _ _ i wr => i = .int .i64 0 ∧ w2 = wr) (fun _ _ _ _ => 0)
  case atStart => exact ⟨rfl, rfl⟩
  case round =>
    obtain ⟨rfl, rfl⟩ := hrel
    go_wp2_with fail
    refine (wakes_any _).mono ?_
    rintro e w' ⟨rfl, hb⟩
    go_wp2_with fail
    go_ret
    exact ⟨rfl, hb2.trans (hb.mono hb2.size)⟩

section
open Go.ChangeShapes Go.WideShapes Go.ChangeAt
/-- Acts that came in. -/
theorem open_deeds {H : Type} {enc : TypeId × Value → H} {W : World} {base b0 : Nat} {sp : Nat → Bool} {held : Bool} {v : Value} {d : DataW H} {ps : List MemPlace}
    (hval : Value.okWide Try.prog W .any b0 22 v) (h : DataW.Trod enc Try.prog W base sp held 22 v d ps) : ∃ L, Deeds W v L := by
  obtain ⟨fuel, h⟩ := h
  obtain ⟨a0, len, cap, rfl⟩ := okWide_slice Try.underlying22 hval
  rcases Go.Deep.open_slice Try.underlying22 h with ⟨h0, _⟩ | ⟨a, len', cap', m, n, D, Pl, hcs, _, hl, hm, hmm, _, hx⟩
  · simp [Value.cells] at h0
    obtain ⟨rfl, rfl, rfl⟩ := h0
    exact ⟨[], .none⟩
  · simp [Value.cells] at hcs
    obtain ⟨rfl, rfl, rfl⟩ := hcs
    rw [cells_act] at hx
    have hlm : len ≤ m := by rw [hmm]; split <;> omega
    have hx' : ∀ i, i < len → ∃ e : Deed, e.Fits ∧ ∀ (j : Nat) (v : Value), e.cells[j]? = some v → W.cell? (a.add (i * 28 + j)) = some v := by
      intro i hi
      obtain ⟨cs', h1, h2⟩ := hx i (by omega)
      obtain ⟨e, fe, rfl⟩ := open_act h2
      refine ⟨e, fe, fun j v hv => ?_⟩
      obtain ⟨_, _, hcell⟩ := World.cells?_some h1
      have hj : j < 28 := by
        rcases Nat.lt_or_ge j 28 with h | h
        · exact h
        · rw [Array.getElem?_eq_none (by simpa [Deed.cells] using h)] at hv; cases hv
      rw [← Go.Deep.add_add, hcell j hj]
      simpa using hv
    haveI : Inhabited Deed := ⟨⟨0, Cmd.zero, Letter.zero⟩⟩
    obtain ⟨f, hf⟩ := Go.Deep.choose_lt hx'
    have hlen : ((List.range len).map f).length = len := by simp
    have hget : ∀ i d, ((List.range len).map f)[i]? = some d → i < len ∧ d = f i := by
      intro i d hd
      have hi : i < len := by
        rcases Nat.lt_or_ge i len with h | h
        · exact h
        · rw [List.getElem?_eq_none (by simpa using h)] at hd; cases hd
      refine ⟨hi, ?_⟩
      simpa [hi] using hd.symm
    refine ⟨(List.range len).map f, ?_⟩
    have h3 := Deeds.some (w := W) a ((List.range len).map f) cap (fun i d hd j v hv => by
      obtain ⟨hi, rfl⟩ := hget i d hd
      exact (hf i hi).2 j v hv) (fun d hd => by
      obtain ⟨i, hi⟩ := List.getElem?_of_mem hd
      obtain ⟨hi2, rfl⟩ := hget i d hi
      exact (hf i hi2).1) (by rw [hlen]; unfold maxLen at hm; omega)
    rw [hlen] at h3
    exact h3
end
end Go.Proofs.Ytakpkedioehjbaa
