/-
  THE WALK of the law ClientRound, II.
-/
import Derived.Test.YtakpkedioehjbaaRound
namespace Go.Proofs.Ytakpkedioehjbaa
open Go.RowKit Go.Maps

theorem hear_round {g : Nat} {id n m : Int} {w w' : World} {e : Ending} (h2 : 1 ≤ n) (hm0 : 0 ≤ m) (h : HearGoes g (rnd id n (id % n) 0) (sendOff id m) w e w') :
    ∃ v a, e = .returned v ∧ 0 ≤ a ∧ a < n ∧ (m < n → a = m) ∧ Upd w w' g (rnd id n a 0) := by
  by_cases hm : m < n
  · obtain ⟨rfl, hU⟩ := h.1 (sendOff_moves h2 hm)
    rw [sendOff_rnd hm0 hm] at hU
    exact ⟨_, m, rfl, hm0, hm, fun _ => rfl, hU⟩
  · obtain ⟨rfl, hU⟩ := h.2.2 (sendOff_stays hm) sendOff_not
    exact ⟨_, id % n, rfl, Int.emod_nonneg _ (by omega), Int.emod_lt_of_pos _ (by omega), fun h => absurd h hm, hU⟩

set_option maxRecDepth 100000 in
set_option maxHeartbeats 1600000 in
theorem round_no (id n m : Int) (w : World) (h : ¬ (id < 4 ∧ 1 ≤ n ∧ n ≤ 7)) : Calls Try.prog 6 #[.int .u8 id, .int .i64 n, .int .u8 m] w fun r w' => r = .returned (.bool true) ∧ Below w.heap.size w w' := by
  by_cases h1 : id < 4
  · by_cases h2 : n < 1
    · clear h
      go_enter Try.func6, Try.ntmps6
      go_wp2_with fail
      refine (wakes_any _).mono ?_
      rintro e w' ⟨rfl, hb⟩
      go_wp2_with fail
      go_ret
      exact ⟨rfl, hb⟩
    · have h3 : 7 < n := by omega
      clear h
      go_enter Try.func6, Try.ntmps6
      go_wp2_with fail
      refine (wakes_any _).mono ?_
      rintro e w' ⟨rfl, hb⟩
      go_wp2_with fail
      go_ret
      exact ⟨rfl, hb⟩
  · clear h
    go_enter Try.func6, Try.ntmps6
    go_wp2_with fail
    refine (wakes_any _).mono ?_
    rintro e w' ⟨rfl, hb⟩
    go_wp2_with fail
    go_ret
    exact ⟨rfl, hb⟩

set_option maxRecDepth 100000 in
set_option maxHeartbeats 1600000 in
theorem round_yes (id n m : Int) (w : World) (hid0 : 0 ≤ id) (h1 : id < 4) (h2 : 1 ≤ n) (h3 : n ≤ 7) (hm0 : 0 ≤ m) (hm1 : m < 256) :
    Calls Try.prog 6 #[.int .u8 id, .int .i64 n, .int .u8 m] w fun r w' => r = .returned (.bool true) ∧ Below w.heap.size w w' := by
  have hsum := u8_add id hid0 h1
  go_enter Try.func6, Try.ntmps6
  go_wp2_with fail
  refine (new_yes id n _ hid0 h1 h2 h3).mono ?_
  rintro e w1 ⟨rfl, hs1, hb1⟩
  go_wp2_with fail
  refine (get_any _).mono ?_
  rintro e w2 ⟨rfl, hb2⟩
  have hs2 : St.At w2 w.heap.size (St.new id n) := st_below hs1 hb2 (st_lt hs1)
  have hbel2 := hb1.trans (hb2.mono hb1.size)
  clear hs1 hb1 hb2
  go_wp2_with fail
  refine (invoke_go w.heap.size (St.new id n) getCmd _ hs2 (new_ok hid0 h1 h2 h3) rfl (by show (0 : Int) < 4294967295; decide) get_fits).mono ?_
  rintro e w3 ⟨hnot, hgo⟩
  clear hnot
  obtain ⟨he, hU⟩ := hgo (may_of hid0 h1)
  rw [rnd_start] at he hU
  have hs3 := hU.st
  have hbel3 := below_grown hbel2 hU.grown (Nat.le_refl _)
  subst he
  clear hgo hs2 hbel2 hU
  go_wp2_with fail
  refine (hear_any w.heap.size (rnd id n (id % n) 0) (sendOff id m) _ hs3 (rnd_ok hid0 h1 h2 h3) (sendOff_fits hm0 hm1)).mono ?_
  rintro e w4 hgo
  obtain ⟨v, a, rfl, ha0, ha1, ham, hU⟩ := hear_round h2 hm0 hgo
  have hs4 := hU.st
  have hbel4 := below_grown hbel3 hU.grown (Nat.le_refl _)
  clear hgo hs3 hbel3 hU
  have hmm := @run_makeMap Try.prog
  have o0 := World.ownsMap_made w4 Try.prog 5 (plainElem (H := Unit) Try.prog 4)
  have hlt4 := st_lt hs4
  go_upto_region 10 with (first | (refine wpList_store_row (P := Try.prog) rfl 47 (.tmp 10) (.tmp 50) rfl (w4.heap.size + 1) Letter.zero.cells rfl rfl 47 _ (heap_alloc2_new w4 _ _) (size_letter _) rfl (one_letter _ rfl rfl) ?_))
  refine code_from (fun wc => Seen wc w4.heap.size a n 0 ∧ Letter.In wc (w4.heap.size + 1) Letter.zero ∧ St.At wc w.heap.size (rnd id n a 0) ∧ Below w.heap.size w wc)
    ⟨owns_block o0 ((setRow_other _ _ _ _ (by omega)).trans (Below.heap_alloc (w4.alloc _) _ _ (by simp))), setRow_heap _ _ _ _ _ _ (heap_alloc2_new w4 _ _),
      (setRow_other _ _ _ _ (by omega)).trans ((Below.heap_alloc (w4.alloc _) _ _ (by simp; omega)).trans ((Below.heap_alloc w4 _ _ hlt4).trans hs4)),
      below_setRow ((hbel4.alloc hbel4.size _).alloc (by simp; omega) _) (by omega) _⟩ ?_
  clear o0 hs4 hbel4 hmm
  generalize w4.heap.size = b at *
  clear w4
  rintro wc ⟨hS, hL, hs, hbel⟩
  go_wp2_with fail
  go_loopw [11] (fun i wr => ∃ (k : Nat) (l : Letter), (k : Int) ≤ n ∧ i = .int .i64 (k : Int) ∧ (k ≠ 0 → l.dst = (a + (k : Int)) % n) ∧ Seen wr b a n k ∧ Letter.In wr (b + 1) l ∧ St.At wr w.heap.size (rnd id n a k) ∧ Below w.heap.size w wr)
    (fun i _ => n.toNat - (intOf i).toNat)
  case atStart => exact ⟨0, Letter.zero, by omega, rfl, fun h => absurd rfl h, hS, hL, hs, hbel⟩
  case round =>
    clear hS hL hs hbel
    obtain ⟨k, l, hk, rfl, hdst, hS, hL, hs, hbel⟩ := hrel
    by_cases hlt : (k : Int) < n
    · go_wp2_with fail
      refine (nudge_yes w.heap.size (rnd id n a k) _ hs (rnd_ok hid0 h1 h2 h3) rfl).mono ?_
      rintro e w5 ⟨he, hU⟩
      rw [rnd_next] at he hU
      replace hs := hU.st
      replace hL := letter_grown hL hU.grown (by omega)
      replace hS := owns_block hS (hU.grown.block _ (owns_lt hS) (by intro e; injection e with e; omega))
      replace hbel := below_grown hbel hU.grown (Nat.le_refl _)
      subst he
      clear hU
      go_upto_region 14 with (first | (refine wpList_store_row (P := Try.prog) rfl 47 (.tmp 12) (.tmp 59) rfl w5.heap.size (rnd id n a (k + 1)).asks.cells rfl rfl 47 _ (heap_alloc_new w5 _) (size_letter _) rfl (one_letter _ rfl rfl) ?_))
      have hlt5 := owns_lt hS
      have hlt6 := letter_lt hL
      refine code_from (fun wc => Letter.In wc w5.heap.size (rnd id n a (k + 1)).asks ∧ Seen wc b a n k ∧ Letter.In wc (b + 1) l ∧ St.At wc w.heap.size (rnd id n a (k + 1)) ∧ Below w.heap.size w wc)
        ⟨letter_new, owns_block hS (((setRow_other _ _ _ _ (by omega)).trans (Below.heap_alloc w5 _ _ hlt5))), old_letter hL _ _, old_st hs _ _, old_below hbel _ _⟩ ?_
      clear hS hL hs hbel
      generalize w5.heap.size = b5 at *
      clear w5
      rintro wd ⟨hN, hS, hL, hs, hbel⟩
      have c1 : wd.cell? ⟨b5, 1, none⟩ = some (.int .u8 ((a + ((k + 1 : Nat) : Int)) % n)) := cell_of_row wd _ 1 _ _ _ hN
      rw [turn_next] at c1
      have hne := fun j hj => turn_ne a n k j hlt hj
      have hp0 := Int.emod_nonneg (a + (k : Int) + 1) (show n ≠ 0 by omega)
      have hp1 := Int.emod_lt_of_pos (a + (k : Int) + 1) (show 0 < n by omega)
      have wfp : (Lit.int .u8 ((a + (k : Int) + 1) % n)).wf = true := by simp [Lit.wf, IntKind.min, IntKind.max, IntKind.signed, IntKind.bits]; omega
      obtain ⟨w6, hput, hS6, hgr⟩ := put_seen hS (by unfold maxLen; omega) wfp
      have hlook := look_seen hS wfp hne
      generalize (a + (k : Int) + 1) % n = q at c1 hp0 hp1 hput hlook
      clear wfp hne
      have hconv : IntKind.i64.wrap q = q := by rw [IntKind.wrap_i64]; omega
      have hN6 := letter_grown hN hgr (by omega)
      have hL6 := letter_grown hL hgr (by omega)
      have hs6 : St.At w6 w.heap.size (rnd id n a (k + 1)) := (hgr.block _ (st_lt hs) (by intro e; injection e with e; omega)).trans hs
      have hbel6 := below_grown hbel hgr (by omega)
      clear hN hS hL hs hbel hgr
      go_wp2_with (first | (refine wpList_load_row rfl 47 _ rfl b5 rfl 47 (rnd id n a (k + 1)).asks.cells (0, 0) _ hN6 Try.underlying47 rfl (size_letter _) ?_) | (refine wpList_store_row (P := Try.prog) rfl 47 (.tmp 10) (.tmp 79) rfl (b + 1) (rnd id n a (k + 1)).asks.cells rfl rfl 47 _ hL6 (size_letter Letter.zero) rfl (one_letter _ rfl rfl) ?_))
      go_roundw
      case rel => exact ⟨k + 1, (rnd id n a (k + 1)).asks, by omega, by go_num, fun _ => rfl, owns_block hS6 (setRow_other _ _ _ _ (by omega)), setRow_heap _ _ _ _ _ _ hL6, st_row hs6 (by omega) _, below_setRow hbel6 (by omega) _⟩
      case measure => simp [intOf]; omega
    · have hkn : (k : Int) = n := by omega
      have hdk : l.dst = a := by
        rw [hdst (by omega), hkn, Int.add_emod_right, Int.emod_eq_of_lt ha0 ha1]
      have c1 : wr.cell? ⟨b + 1, 1, none⟩ = some (.int .u8 l.dst) := cell_of_row wr _ 1 _ _ _ hL
      rw [hdk] at c1
      have hconv : IntKind.i64.wrap m = m := by rw [IntKind.wrap_i64]; omega
      clear hS hL hs hdst hdk hkn
      by_cases hm : m < n
      · obtain rfl := ham hm
        go_wp2_with fail
        refine (wakes_any _).mono ?_
        rintro e w' ⟨rfl, hb⟩
        go_wp2_with fail
        go_ret
        exact ⟨rfl, hbel.trans (hb.mono hbel.size)⟩
      · go_wp2_with fail
        refine (wakes_any _).mono ?_
        rintro e w' ⟨rfl, hb⟩
        go_wp2_with fail
        go_ret
        exact ⟨rfl, hbel.trans (hb.mono hbel.size)⟩
end Go.Proofs.Ytakpkedioehjbaa
