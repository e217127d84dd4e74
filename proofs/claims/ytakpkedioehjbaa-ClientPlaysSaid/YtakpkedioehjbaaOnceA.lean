/-
  What the walk of the law ClientOnce holds on to.
-/
import Derived.Test.YtakpkedioehjbaaGreatB
import Derived.Deep.LoopGhost
import Derived.Deep.Light
namespace Go.Proofs.Ytakpkedioehjbaa
open Go.RowKit Go.Maps

/-- What a client behind any acts is. -/
structure Good (id n : Int) (s : St) : Prop where
  ok : s.Ok
  idE : s.id = id
  nE : s.n = n
  own : s.waits = true → s.x.seq = s.seq ∧ s.x.client = s.id
/-- How many replies were taken. -/
def Took (s : St) (t : Int) : Prop := 0 ≤ t ∧ (s.waits = true → t + 1 = s.seq) ∧ (s.waits = false → t = s.seq)
theorem good_new {id n : Int} (h0 : 0 ≤ id) (h1 : id < 4) (h2 : 1 ≤ n) (h3 : n ≤ 7) : Good id n (St.new id n) :=
  ⟨⟨h0, h1, h2, h3, Int.emod_nonneg _ (by omega), Int.emod_lt_of_pos _ (by omega), by show (0 : Int) ≤ 0; decide, by show (0 : Int) < 4294967296; decide⟩, rfl, rfl, fun h => (by cases h)⟩
theorem good_nudged {id n : Int} {s : St} (h : Good id n s) : Good id n s.nudged := ⟨nudged_ok h.ok, h.idE, h.nE, h.own⟩
theorem good_invoked {id n : Int} {s : St} {x : Cmd} (h : Good id n s) (hq : s.seq < 4294967295) : Good id n (s.invoked x) := ⟨invoked_ok h.ok hq, h.idE, h.nE, fun _ => ⟨rfl, rfl⟩⟩
theorem good_moved {id n : Int} {s : St} {l : Letter} (h : Good id n s) (hl : l.Fits) (hm : s.moves l = true) : Good id n (s.heardMoved l) := by
  have hn : l.node < s.n := by simp [St.moves] at hm; exact hm.2.2
  exact ⟨moved_ok h.ok hl.node0 hn, h.idE, h.nE, h.own⟩
theorem good_reply {id n : Int} {s : St} (h : Good id n s) : Good id n s.heardReply := ⟨⟨h.ok.id0, h.ok.id1, h.ok.n0, h.ok.n1, h.ok.dst0, h.ok.dst1, h.ok.seq0, h.ok.seq1⟩, h.idE, h.nE, fun h => (by cases h)⟩

/-- What a switch's way leaves, of the state ahead of it. -/
structure Step (id n : Int) (k : Nat) (s : St) (s' : St) (t : Int) (o : Letter) (asks : Bool) : Prop where
  good : Good id n s'
  seq : s'.seq ≤ (k : Int) + 1
  took : Took s' t
  out : asks = true → o = s'.asks ∧ s'.waits = true
  same : s.waits = true → s'.waits = true → s'.x = s.x

theorem deed_letter_part {w : World} {a : Addr} {k : Nat} {d : Deed} {qb qo : Nat} {qs : Option Nat} (h : ∀ (j : Nat) (v : Value), d.cells[j]? = some v → w.cell? (a.add (k * 28 + j)) = some v) (hq : a.add (k * 28) = ⟨qb, qo, qs⟩) :
    ∀ (j : Nat) (v : Value), d.l.cells[j]? = some v → w.cell? ((⟨qb, qo + 8, none⟩ : Addr).add j) = some v := by
  intro j v hv
  have hj : j < 20 := by
    rcases Nat.lt_or_ge j 20 with h | h
    · exact h
    · rw [Array.getElem?_eq_none (by simpa [Letter.cells] using h)] at hv; cases hv
  rw [deed_letter d, Array.getElem?_extract, if_pos (by simp [Deed.cells]; omega)] at hv
  have h1 := h (8 + j) v hv
  rw [← Go.Deep.add_add, hq] at h1
  rw [add_plain, Nat.add_assoc]
  have : (⟨qb, qo, qs⟩ : Addr).add (8 + j) = ⟨qb, qo + (8 + j), none⟩ := by
    unfold Addr.add
    rw [if_neg (by omega)]
  rwa [this] at h1
theorem deed_cmd_part {w : World} {a : Addr} {k : Nat} {d : Deed} {qb qo : Nat} {qs : Option Nat} (h : ∀ (j : Nat) (v : Value), d.cells[j]? = some v → w.cell? (a.add (k * 28 + j)) = some v) (hq : a.add (k * 28) = ⟨qb, qo, qs⟩) :
    ∀ (j : Nat) (v : Value), d.x.cells[j]? = some v → w.cell? ((⟨qb, qo + 1, none⟩ : Addr).add j) = some v := by
  intro j v hv
  have hj : j < 7 := by
    rcases Nat.lt_or_ge j 7 with h | h
    · exact h
    · rw [Array.getElem?_eq_none (by simpa [Cmd.cells] using h)] at hv; cases hv
  rw [deed_cmd d, Array.getElem?_extract, if_pos (by simp [Deed.cells]; omega)] at hv
  have h1 := h (1 + j) v hv
  rw [← Go.Deep.add_add, hq] at h1
  rw [add_plain, Nat.add_assoc]
  have : (⟨qb, qo, qs⟩ : Addr).add (1 + j) = ⟨qb, qo + (1 + j), none⟩ := by
    unfold Addr.add
    rw [if_neg (by omega)]
  rwa [this] at h1
theorem cmd_old {w : World} {b : Nat} {c : Cmd} (h : Cmd.In w b c) (o : Obj) : Cmd.In (w.alloc o) b c := (Below.heap_alloc w o b (block_lt h)).trans h
theorem cmd_new {w : World} {c : Cmd} {cs : Array Value} : Cmd.In ((w.alloc (.cells cs 36 (0, 0))).setRow w.heap.size c.cells) w.heap.size c := setRow_heap _ _ _ _ _ _ (heap_alloc_new w _)
theorem letter_made {w : World} {A : Obj} {b : Nat} {cs ds : Array Value} {l : Letter} (he : ds = l.cells) : Letter.In (((w.alloc A).setRow b cs).alloc (.cells ds 47 (0, 0))) (w.heap.size + 1) l := by
  subst he
  have h := heap_alloc_new ((w.alloc A).setRow b cs) (.cells l.cells 47 (0, 0))
  rw [show ((w.alloc A).setRow b cs).heap.size = w.heap.size + 1 by simp] at h
  exact h
theorem cmd_row {w : World} {b : Nat} {c : Cmd} (h : Cmd.In w b c) (o : Obj) (cs : Array Value) : Cmd.In ((w.alloc o).setRow w.heap.size cs) b c := old_block h o cs
theorem cmd_below {w w' : World} {b B : Nat} {c : Cmd} (h : Cmd.In w b c) (hg : Below B w w') (hb : b < B) : Cmd.In w' b c := (hg.block b hb).trans h
theorem same_self (c : Cmd) : c.same c = true := by simp [Cmd.same]
theorem ne_self (c : Cmd) (w : World) : (binOp .neq 36 (.agg c.cells) (.agg c.cells)).run Try.prog w = .ok (.bool false) w := by
  rw [ne_cmd, same_self]; rfl
theorem wrap_one {q t : Int} (h : t + 1 = q) : IntKind.u32.wrap (q - t) = 1 := by
  rw [show q - t = 1 by omega]; rfl
theorem wrap_none {q t : Int} (h : t = q) : IntKind.u32.wrap (q - t) = 0 := by
  rw [show q - t = 0 by omega]; rfl
theorem waiting_no {s : St} (h : s.waits = false) : s.waiting = Cmd.zero := by simp [St.waiting, h]
theorem waiting_yes {s : St} (h : s.waits = true) : s.waiting = s.x := by simp [St.waiting, h]
/-- The command that waits, by its cells. -/
theorem good_cmd {id n : Int} {s : St} (h : Good id n s) (hw : s.waits = true) : s.x = ⟨id, s.seq, s.x.kind, s.x.key, s.x.old, s.x.new, s.x.set⟩ := by
  obtain ⟨h1, h2⟩ := h.own hw
  have h3 := h.idE
  obtain ⟨sid, sn, sq, sw, ⟨xc, xs, xk, xkey, xold, xnew, xset⟩, sd⟩ := s
  simp_all
theorem cmd_reads {w : World} {b : Nat} {c : Cmd} (h : Cmd.In w b c) : w.cell? ⟨b, 0, none⟩ = some (.int .u8 c.client) ∧ w.cell? ⟨b, 1, none⟩ = some (.int .u32 c.seq) ∧ w.cell? ⟨b, 2, none⟩ = some (.int .u8 c.kind) ∧
    w.cell? ⟨b, 3, none⟩ = some (.string c.key) ∧ w.cell? ⟨b, 4, none⟩ = some (.string c.old) ∧ w.cell? ⟨b, 5, none⟩ = some (.string c.new) ∧ w.cell? ⟨b, 6, none⟩ = some (.int .u8 c.set) :=
  ⟨cell_of_row w b 0 _ _ _ h, cell_of_row w b 1 _ _ _ h, cell_of_row w b 2 _ _ _ h, cell_of_row w b 3 _ _ _ h, cell_of_row w b 4 _ _ _ h, cell_of_row w b 5 _ _ _ h, cell_of_row w b 6 _ _ _ h⟩
theorem asked_reads {w : World} {b : Nat} {s : St} {id q : Int} {c : Cmd} (h : Letter.In w b s.asks) (hi : s.id = id) (hc : s.x = c) (hq : s.dst = q) : w.cell? ⟨b, 0, none⟩ = some (.int .u8 (16 + id)) ∧ w.cell? ⟨b, 1, none⟩ = some (.int .u8 q) ∧ w.cell? ⟨b, 2, none⟩ = some (.int .u8 1) ∧
    w.cell? ⟨b, 11, none⟩ = some (.int .u8 c.client) ∧ w.cell? ⟨b, 12, none⟩ = some (.int .u32 c.seq) ∧ w.cell? ⟨b, 13, none⟩ = some (.int .u8 c.kind) ∧
    w.cell? ⟨b, 14, none⟩ = some (.string c.key) ∧ w.cell? ⟨b, 15, none⟩ = some (.string c.old) ∧ w.cell? ⟨b, 16, none⟩ = some (.string c.new) ∧ w.cell? ⟨b, 17, none⟩ = some (.int .u8 c.set) := by
  subst hi; subst hc; subst hq
  exact ⟨cell_of_row w b 0 _ _ _ h, cell_of_row w b 1 _ _ _ h, cell_of_row w b 2 _ _ _ h, cell_of_row w b 11 _ _ _ h, cell_of_row w b 12 _ _ _ h, cell_of_row w b 13 _ _ _ h, cell_of_row w b 14 _ _ _ h, cell_of_row w b 15 _ _ _ h, cell_of_row w b 16 _ _ _ h, cell_of_row w b 17 _ _ _ h⟩
theorem step_stay {id n : Int} {k : Nat} {s : St} {t : Int} (hG : Good id n s) (hT : Took s t) (hs : s.seq ≤ (k : Int)) (o : Letter) : Step id n k s s t o false :=
  ⟨hG, by omega, hT, fun h => (by cases h), fun _ _ => rfl⟩
theorem step_invoked {id n : Int} {k : Nat} {s : St} {t : Int} {x : Cmd} (hG : Good id n s) (hT : Took s t) (hs : s.seq ≤ (k : Int)) (hk : k < 200) (hw : s.waits = false) : Step id n k s (s.invoked x) t (s.invoked x).asks true := by
  refine ⟨good_invoked hG (by omega), by show s.seq + 1 ≤ _; omega, ⟨hT.1, fun _ => ?_, fun h => (by cases h)⟩, fun _ => ⟨rfl, rfl⟩, fun h => absurd (hw.symm.trans h) (by decide)⟩
  have := hT.2.2 hw
  show t + 1 = s.seq + 1
  omega
theorem step_nudged {id n : Int} {k : Nat} {s : St} {t : Int} (hG : Good id n s) (hT : Took s t) (hs : s.seq ≤ (k : Int)) (hw : s.waits = true) : Step id n k s s.nudged t s.nudged.asks true :=
  ⟨good_nudged hG, by show s.seq ≤ _; omega, hT, fun _ => ⟨rfl, hw⟩, fun _ _ => rfl⟩
theorem moves_waits {s : St} {l : Letter} (h : s.moves l = true) : s.waits = true := by
  simp [St.moves, St.own] at h; exact h.1.1.1.1
theorem step_moved {id n : Int} {k : Nat} {s : St} {t : Int} {l : Letter} (hG : Good id n s) (hT : Took s t) (hs : s.seq ≤ (k : Int)) (hf : l.Fits) (hm : s.moves l = true) : Step id n k s (s.heardMoved l) t (s.heardMoved l).asks true :=
  ⟨good_moved hG hf hm, by show s.seq ≤ _; omega, hT, fun _ => ⟨rfl, moves_waits hm⟩, fun _ _ => rfl⟩
theorem takes_own {s : St} {l : Letter} (h : s.takes l = true) : s.waits = true ∧ l.cmd.seq = s.seq ∧ l.kind = 2 ∧ l.code ≠ 3 := by
  simp [St.takes, St.own] at h; exact ⟨h.1.1.1.1, h.1.2.2, h.2.1, h.2.2⟩
theorem step_reply {id n : Int} {k : Nat} {s : St} {t : Int} (hG : Good id n s) (hT : Took s t) (hs : s.seq ≤ (k : Int)) (hw : s.waits = true) (o : Letter) : Step id n k s s.heardReply (t + 1) o false := by
  have h0 := hT.1
  exact ⟨good_reply hG, by show s.seq ≤ _; omega, ⟨by omega, fun h => (by cases h), fun _ => hT.2.1 hw⟩, fun h => (by cases h), fun _ h => (by cases h)⟩
theorem reply_self (r : Reply) (w : World) : (binOp .neq 43 (.agg r.cells) (.agg r.cells)).run Try.prog w = .ok (.bool false) w := by
  rw [ne_reply]; simp [Reply.same]
theorem cmd_upd {w w' : World} {b g : Nat} {c : Cmd} (h : Cmd.In w b c) (hg : w.grownBy w' (some g)) (hne : b ≠ g) : Cmd.In w' b c := (hg.block b (block_lt h) (by intro e; injection e with e; exact hne e)).trans h
theorem deed_letter_fits {d : Deed} (h : d.Fits) : d.l.Fits := h.l
end Go.Proofs.Ytakpkedioehjbaa
