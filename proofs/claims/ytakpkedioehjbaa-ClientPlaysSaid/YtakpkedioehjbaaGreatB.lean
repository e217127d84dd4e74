/-
  THE WALK of Great, II.
-/
import Derived.Test.YtakpkedioehjbaaGreat
import Derived.Test.YtakpkedioehjbaaMix
namespace Go.Proofs.Ytakpkedioehjbaa
open Go.RowKit Go.Maps Go.BigFrame

/-- Deeds lie at an address, one behind another. -/
def DeedsAt (w : World) (a : Addr) (L : List Deed) : Prop := ∀ (i : Nat) (d : Deed), L[i]? = some d → ∀ (j : Nat) (v : Value), d.cells[j]? = some v → w.cell? (a.add (i * 28 + j)) = some v
def greatDeed (d : Deed) : Bool := texts d.x || texts d.l.cmd || decide (300 < (d.l.text.size : Int)) || decide (300 < (d.l.value.size : Int))

theorem deed_cell {w : World} {a : Addr} {k : Nat} {d : Deed} {qb qo : Nat} {qs : Option Nat} (h : ∀ (j : Nat) (v : Value), d.cells[j]? = some v → w.cell? (a.add (k * 28 + j)) = some v) (hq : a.add (k * 28) = ⟨qb, qo, qs⟩)
    {o : Nat} (j : Nat) {v : Value} (ho : o = qo + (j + 1)) (hv : d.cells[j + 1]? = some v) : w.cell? ⟨qb, o, none⟩ = some v := by
  have h1 := h (j + 1) v hv
  rw [← Go.Deep.add_add, hq] at h1
  subst ho
  simpa [Addr.add] using h1
theorem deeds_below {w wr : World} {a : Addr} {L : List Deed} (h : DeedsAt w a L) (hb : Below w.heap.size w wr) : DeedsAt wr a L := by
  intro i d hd j v hv
  have h1 := h i d hd j v hv
  rw [← h1]
  exact hb.cell (World.block_lt_of_cell? w _ h1)

theorem cmd_cells {w : World} {b o : Nat} {c : Cmd} (h0 : w.cell? ⟨b, o, none⟩ = some (.int .u8 c.client)) (h1 : w.cell? ⟨b, o + 1, none⟩ = some (.int .u32 c.seq)) (h2 : w.cell? ⟨b, o + 2, none⟩ = some (.int .u8 c.kind))
    (h3 : w.cell? ⟨b, o + 3, none⟩ = some (.string c.key)) (h4 : w.cell? ⟨b, o + 4, none⟩ = some (.string c.old)) (h5 : w.cell? ⟨b, o + 5, none⟩ = some (.string c.new)) (h6 : w.cell? ⟨b, o + 6, none⟩ = some (.int .u8 c.set)) :
    ∀ j v, c.cells[j]? = some v → w.cell? ((⟨b, o, none⟩ : Addr).add j) = some v := by
  intro j v hv
  rw [add_plain]
  have hj : j < 7 := by
    rcases Nat.lt_or_ge j 7 with h | h
    · exact h
    · rw [Array.getElem?_eq_none (by simpa [Cmd.cells] using h)] at hv; cases hv
  rcases (by omega : j = 0 ∨ j = 1 ∨ j = 2 ∨ j = 3 ∨ j = 4 ∨ j = 5 ∨ j = 6) with rfl | rfl | rfl | rfl | rfl | rfl | rfl <;> (cases hv; assumption)
theorem part5 (b0 b1 b2 b3 b4 : Bool) : b0 = true ∨ (b0 = false ∧ (b1 = true ∨ (b1 = false ∧ (b2 = true ∨ (b2 = false ∧ (b3 = true ∨ (b3 = false ∧ (b4 = true ∨ b4 = false)))))))) := by
  cases b0 <;> cases b1 <;> cases b2 <;> cases b3 <;> cases b4 <;> decide
abbrev twoCells (x y : Cmd) : Array Value := #[.int .u8 x.client, .int .u32 x.seq, .int .u8 x.kind, .string x.key, .string x.old, .string x.new, .int .u8 x.set, .int .u8 y.client, .int .u32 y.seq, .int .u8 y.kind, .string y.key, .string y.old, .string y.new, .int .u8 y.set]
theorem two_cmds (w : World) (n : Nat) (x y : Cmd) : CmdsAt ((w.drewN n).alloc (.cells (twoCells x y) 36 (0, 0))) w.heap.size [x, y] := by
  intro i c hi j v hv
  have hb : ((w.drewN n).alloc (.cells (twoCells x y) 36 (0, 0))).heap[w.heap.size]? = some (.cells (twoCells x y) 36 (0, 0)) := heap_alloc_new (w.drewN n) _
  rw [cell_of_row _ _ _ _ _ _ hb]
  have hj : j < 7 := by
    rcases Nat.lt_or_ge j 7 with h | h
    · exact h
    · rw [Array.getElem?_eq_none (by simpa [Cmd.cells] using h)] at hv; cases hv
  rcases i with _ | _ | i
  · cases hi
    rcases (by omega : j = 0 ∨ j = 1 ∨ j = 2 ∨ j = 3 ∨ j = 4 ∨ j = 5 ∨ j = 6) with rfl | rfl | rfl | rfl | rfl | rfl | rfl <;> exact hv
  · cases hi
    rcases (by omega : j = 0 ∨ j = 1 ∨ j = 2 ∨ j = 3 ∨ j = 4 ∨ j = 5 ∨ j = 6) with rfl | rfl | rfl | rfl | rfl | rfl | rfl <;> exact hv
  · cases hi

set_option maxRecDepth 100000 in
set_option maxHeartbeats 800000 in
theorem great_any (L : List Deed) (a : Addr) (cap : Nat) (w : World) (hL : DeedsAt w a L) (hn : L.length < 2 ^ 63) (hfit : ∀ d ∈ L, d.Fits) :
    Calls Try.prog 7 #[.slice (some a) L.length cap] w fun r w' => (∃ b, r = .returned (.bool b) ∧ (b = false → L.length ≤ 200)) ∧ Below w.heap.size w w' := by
  by_cases h200 : 200 < L.length
  · go_enter Try.func7, Try.ntmps7
    go_wp2_with fail
    go_ret
    exact ⟨⟨true, rfl, fun h => by cases h⟩, Below.refl _ _⟩
  · have h201 : L.length ≤ 200 := by omega
    clear hn
    go_enter Try.func7, Try.ntmps7
    go_wp2_with fail
    go_loopw [3] (fun i wr => ∃ k : Nat, k ≤ L.length ∧ i = .int .i64 (k : Int) ∧ Below w.heap.size w wr) (fun i _ => L.length - (intOf i).toNat)
    case atStart => exact ⟨0, by omega, rfl, Below.refl _ _⟩
    case round =>
      obtain ⟨k, hk, rfl, hbel⟩ := hrel
      by_cases hlt : k < L.length
      · have hd : L[k]? = some L[k] := List.getElem?_eq_getElem hlt
        have fd := hfit L[k] (List.getElem_mem hlt)
        generalize L[k] = d at hd fd
        have hD : ∀ (j : Nat) (v : Value), d.cells[j]? = some v → wr.cell? (a.add (k * 28 + j)) = some v := fun j v hv => deeds_below hL hbel k d hd j v hv
        generalize hq : a.add (k * 28) = q
        obtain ⟨qb, qo, qs⟩ := q
        obtain ⟨va, vn, vc, hv⟩ := fd.votes
        obtain ⟨ia, jn, ic, hi⟩ := fd.items
        have f0 : wr.cell? ⟨qb, qo + 1, none⟩ = some (.int .u8 d.x.client) := deed_cell hD hq 0 (by omega) rfl
        have f1 : wr.cell? ⟨qb, qo + 1 + 1, none⟩ = some (.int .u32 d.x.seq) := deed_cell hD hq 1 (by omega) rfl
        have f2 : wr.cell? ⟨qb, qo + 1 + 2, none⟩ = some (.int .u8 d.x.kind) := deed_cell hD hq 2 (by omega) rfl
        have f3 : wr.cell? ⟨qb, qo + 1 + 3, none⟩ = some (.string d.x.key) := deed_cell hD hq 3 (by omega) rfl
        have f4 : wr.cell? ⟨qb, qo + 1 + 4, none⟩ = some (.string d.x.old) := deed_cell hD hq 4 (by omega) rfl
        have f5 : wr.cell? ⟨qb, qo + 1 + 5, none⟩ = some (.string d.x.new) := deed_cell hD hq 5 (by omega) rfl
        have f6 : wr.cell? ⟨qb, qo + 1 + 6, none⟩ = some (.int .u8 d.x.set) := deed_cell hD hq 6 (by omega) rfl
        have f7 : wr.cell? ⟨qb, qo + 8 + 2 + 9, none⟩ = some (.int .u8 d.l.cmd.client) := deed_cell hD hq 18 (by omega) rfl
        have f8 : wr.cell? ⟨qb, qo + 8 + 2 + 9 + 1, none⟩ = some (.int .u32 d.l.cmd.seq) := deed_cell hD hq 19 (by omega) rfl
        have f9 : wr.cell? ⟨qb, qo + 8 + 2 + 9 + 2, none⟩ = some (.int .u8 d.l.cmd.kind) := deed_cell hD hq 20 (by omega) rfl
        have f10 : wr.cell? ⟨qb, qo + 8 + 2 + 9 + 3, none⟩ = some (.string d.l.cmd.key) := deed_cell hD hq 21 (by omega) rfl
        have f11 : wr.cell? ⟨qb, qo + 8 + 2 + 9 + 4, none⟩ = some (.string d.l.cmd.old) := deed_cell hD hq 22 (by omega) rfl
        have f12 : wr.cell? ⟨qb, qo + 8 + 2 + 9 + 5, none⟩ = some (.string d.l.cmd.new) := deed_cell hD hq 23 (by omega) rfl
        have f13 : wr.cell? ⟨qb, qo + 8 + 2 + 9 + 6, none⟩ = some (.int .u8 d.l.cmd.set) := deed_cell hD hq 24 (by omega) rfl
        have f14 : wr.cell? ⟨qb, qo + 8 + 2 + 16 + 1, none⟩ = some (.string d.l.text) := deed_cell hD hq 26 (by omega) rfl
        have f15 : wr.cell? ⟨qb, qo + 8 + 2 + 6, none⟩ = some (.string d.l.value) := deed_cell hD hq 15 (by omega) rfl
        have f16 : wr.cell? ⟨qb, qo + 8 + 2 + 7, none⟩ = some (.slice va vn vc) := deed_cell hD hq 16 (by omega) (congrArg some hv)
        have f17 : wr.cell? ⟨qb, qo + 8 + 2 + 8, none⟩ = some (.slice ia jn ic) := deed_cell hD hq 17 (by omega) (congrArg some hi)
        have fx := fd.x
        have fc := fd.cmd
        have ft := fd.text
        have fv := fd.value
        generalize d.x = x at *
        generalize d.l.cmd = y at *
        generalize d.l.text = text at *
        generalize d.l.value = value at *
        clear hD hL hv hi fd hd hfit
        unfold maxLen at ft fv
        go_upto_region 6 with fail
        refine mix_begin (by kernel_rfl) ?_
        refine mix_piece 0 12 (fun w' => ∃ n, w' = wr.drewN n) (by kernel_rfl) ⟨1, rfl⟩ ?_
        simp only [Nat.reduceSub, List.take_succ_cons, List.take_zero, List.drop_zero]
        repeat (go_big_quiet_step (fail))
        refine wpQuiet_nil ?_
        rintro _ ⟨nq, rfl⟩
        refine mix_forced 12 rfl (by kernel_rfl) (by kernel_rfl) (fun K hK => ?_)
        go_simp
        refine hK _ _ ?_
        clear hK K
        refine mix_forced 13 rfl (by kernel_rfl) (by kernel_rfl) (fun K hK => ?_)
        go_simp
        refine (great9_two wr.heap.size x y _ (two_cmds wr nq x y) fx fc).mono ?_
        rintro e w1 ⟨rfl, rfl⟩
        refine hK _ _ ?_
        clear hK K
        have hbel2 : Below wr.heap.size wr ((wr.drewN nq).alloc (.cells (twoCells x y) 36 (0, 0))) := (drawn (Below.refl _ _) nq).alloc (Nat.le_refl _) _
        replace f14 := (hbel2.cell (World.block_lt_of_cell? wr _ f14)).trans f14
        replace f15 := (hbel2.cell (World.block_lt_of_cell? wr _ f15)).trans f15
        replace f16 := (hbel2.cell (World.block_lt_of_cell? wr _ f16)).trans f16
        replace f17 := (hbel2.cell (World.block_lt_of_cell? wr _ f17)).trans f17
        replace hbel := hbel.trans (hbel2.mono hbel.size)
        clear hbel2 f0 f1 f2 f3 f4 f5 f6 f7 f8 f9 f10 f11 f12 f13
        generalize (wr.drewN nq).alloc (.cells (twoCells x y) 36 (0, 0)) = wd at *
        generalize (texts x || texts y) = b0
        clear fx fc
        have hpart := part5 b0 (decide (300 < (text.size : Int))) (decide (300 < (value.size : Int))) (decide (100 < (vn : Int))) (decide (100 < (jn : Int)))
        rcases hpart with rfl | ⟨rfl, h1 | ⟨h1, h2 | ⟨h2, h3 | ⟨h3, h4 | h4⟩⟩⟩⟩
        all_goals
          refine mix_piece 14 59 (fun w' => ∃ n, w' = wd.drewN n) (by kernel_rfl) ⟨0, rfl⟩ ?_
          simp only [Nat.reduceSub, List.take_succ_cons, List.take_zero, List.drop_succ_cons, List.drop_zero]
          repeat (go_big_quiet_step (fail))
          refine wpQuiet_nil ?_
          rintro _ ⟨nr, rfl⟩
          refine mix_end 59 rfl (by kernel_rfl) ?_
          go_wp2_with fail
          first
            | (go_ret; exact ⟨⟨true, rfl, fun h => by cases h⟩, drawn hbel nr⟩)
            | exact ⟨⟨k + 1, by omega, by go_num, drawn hbel nr⟩, by simp [intOf]; omega⟩
      · go_wp2_with fail
        go_ret
        exact ⟨⟨false, rfl, fun _ => h201⟩, hbel⟩
end Go.Proofs.Ytakpkedioehjbaa
