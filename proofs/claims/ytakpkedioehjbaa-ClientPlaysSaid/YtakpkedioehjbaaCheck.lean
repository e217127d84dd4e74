/-
  THE WALK of cmd.Check.
-/
import Derived.Test.YtakpkedioehjbaaKinds
import Derived.Deep.RegionHeld3
import Derived.Deep.DeepCutAuto
import Derived.Deep.CutBlock
import Derived.Lib.Hide
namespace Go.Proofs.Ytakpkedioehjbaa
open Go.RowKit Go.Maps

theorem old_cells {B : Nat} {w w' : World} (h : Below B w w') : (∀ b o, b < B → w'.cell? ⟨b, o, none⟩ = w.cell? ⟨b, o, none⟩) ∧ (∀ b o, b < B → w'.frozen? ⟨b, o, none⟩ = w.frozen? ⟨b, o, none⟩) :=
  ⟨fun b o hb => h.cell (p := ⟨b, o, none⟩) hb, fun b o hb => h.frozen (p := ⟨b, o, none⟩) hb⟩

theorem cut_one {w w1 : World} {A : Obj} (hb : Below (w.heap.size + 1) (w.alloc A).drew w1) (v : Value) (t : TypeId) :
    (w1.alloc (.cells #[v] t)).cell? ⟨w1.heap.size, 0, none⟩ = some v ∧ (w1.alloc (.cells #[v] t)).heap[w.heap.size]? = some A ∧ Below w.heap.size w (w1.alloc (.cells #[v] t)) := by
  have hz := hb.size
  simp only [World.size_alloc, World.size_drew] at hz
  have h0 : Below w.heap.size w (w.alloc A).drew := ((Below.refl _ _).alloc (Nat.le_refl _) A).drew
  refine ⟨by rw [World.cell?_alloc_mark]; rfl, ?_, (h0.trans (hb.mono (by omega))).alloc (by omega) _⟩
  rw [Below.heap_alloc w1 _ _ (by omega), hb.block _ (by omega)]
  exact heap_alloc_new w A
theorem cut_two {w w1 : World} {A : Obj} {x : Value} {t : TypeId} (hb : Below (w.heap.size + 1 + 1) ((w.alloc A).alloc (.cells #[x] t)).drew w1) (v : Value) :
    (w1.setCell ⟨w.heap.size + 1, 0, none⟩ v).cell? ⟨w.heap.size + 1, 0, none⟩ = some v ∧ (w1.setCell ⟨w.heap.size + 1, 0, none⟩ v).heap[w.heap.size]? = some A ∧ Below w.heap.size w (w1.setCell ⟨w.heap.size + 1, 0, none⟩ v) := by
  have h0 : Below w.heap.size w ((w.alloc A).alloc (.cells #[x] t)).drew := (((Below.refl _ _).alloc (Nat.le_refl _) A).alloc (by simp) _).drew
  have hc : w1.cell? ⟨w.heap.size + 1, 0, none⟩ = some x := by
    rw [hb.cell (p := ⟨w.heap.size + 1, 0, none⟩) (by show w.heap.size + 1 < _; omega)]
    have : ((w.alloc A).alloc (.cells #[x] t)).drew.heap[w.heap.size + 1]? = some (.cells #[x] t) := heap_alloc2_new w A _
    rw [cell_of_row _ _ 0 _ _ _ this]
    rfl
  refine ⟨World.cell?_setCell_same _ _ _ hc, ?_, (h0.trans (hb.mono (by omega))).setCell (by show w.heap.size ≤ w.heap.size + 1; omega) _⟩
  rw [Below.heap_setCell _ _ _ _ (by show w.heap.size ≠ w.heap.size + 1; omega), hb.block _ (by omega)]
  exact heap_alloc2_old w A _

/-- A command. -/
structure Cmd where
  client : Int
  seq : Int
  kind : Int
  key : ByteArray
  old : ByteArray
  new : ByteArray
  set : Int
def Cmd.cells (c : Cmd) : Array Value := #[.int .u8 c.client, .int .u32 c.seq, .int .u8 c.kind, .string c.key, .string c.old, .string c.new, .int .u8 c.set]
/-- Is a text too long, or there without its part? -/
def long (s : ByteArray) (most part has : Int) : Bool := decide (most < (s.size : Int)) || (!s.toList.isEmpty && (bits .and .i64 has part == 0))

set_option maxRecDepth 100000 in
set_option maxHeartbeats 400000 in
theorem long_any (s : ByteArray) (most part has : Int) (g : Nat) (w : World) (hc : w.cell? ⟨g, 0, none⟩ = some (.int .i64 has)) :
    Calls Try.prog 32 #[.string s, .int .i64 most, .int .i64 part, .pointer (some ⟨g, 0, none⟩)] w fun e w' => e = .returned (.bool (long s most part has)) ∧ w = w' := by
  go_enter Try.func32, Try.ntmps32
  go_wp2
  · go_ret
    have h : s.toList = [] := by assumption
    exact ⟨by simp [long, h], rfl⟩
  · go_ret
    exact ⟨rfl, rfl⟩
  · go_ret
    have h : most < (s.size : Int) := by assumption
    exact ⟨by simp [long, h], rfl⟩

/-- May a command be, as the code asks it? -/
def Cmd.mayB (c : Cmd) : Bool :=
  !(!!(parts c.kind == 0) || decide (4 ≤ c.client) || (c.seq == 0)) && !(long c.key 16 1 (parts c.kind) || long c.old 64 2 (parts c.kind) || long c.new 64 4 (parts c.kind)) &&
    !(c.key.toList.isEmpty && (bits .and .i64 (parts c.kind) 1 != 0)) && !((c.set != 0) && (bits .and .i64 (parts c.kind) 8 == 0))
/-- What the code answers: OK, or ErrArg. -/
def Cmd.code (c : Cmd) : Int := if c.mayB then 0 else 2
theorem Cmd.code_no {c : Cmd} (h : c.mayB = false) : c.code = 2 := by simp [Cmd.code, h]
theorem Cmd.code_yes {c : Cmd} (h : c.mayB = true) : c.code = 0 := by simp [Cmd.code, h]
structure Cmd.Fits (c : Cmd) : Prop where
  client : (Lit.int .u8 c.client).wf = true
  seq : (Lit.int .u32 c.seq).wf = true
  kind : (Lit.int .u8 c.kind).wf = true
  set : (Lit.int .u8 c.set).wf = true
  key : c.key.size ≤ maxLen
  old : c.old.size ≤ maxLen
  new : c.new.size ≤ maxLen

theorem ret_code {a b : Int} (h : a = b) : Ending.returned (.int .i64 a) = .returned (.int .i64 b) := by rw [h]

set_option maxRecDepth 100000 in
set_option maxHeartbeats 4000000 in
theorem check_any (c : Cmd) (w : World) (hf : c.Fits) :
    Calls Try.prog 24 #[.agg c.cells] w fun e w' => e = .returned (.int .i64 c.code) ∧ Below w.heap.size w w' := by
  obtain ⟨client, seq, kind, key, old, new, set⟩ := c
  obtain ⟨f1, f2, f3, f4, f5, f6, f7⟩ := hf
  simp only [Cmd.cells] at *
  go_enter Try.func24, Try.ntmps24
  go_upto_region 1 with fail
  go_cut [3, 4] (fun s3 s4 wc => ∃ g : Nat, s3 = .pointer (some ⟨g, 0, none⟩) ∧ s4 = .bool (!(parts kind == 0)) ∧ wc.cell? ⟨g, 0, none⟩ = some (.int .i64 (parts kind)) ∧
    wc.heap[w.heap.size]? = some (.cells #[.int .u8 client, .int .u32 seq, .int .u8 kind, .string key, .string old, .string new, .int .u8 set] 36 (0, 0)) ∧ Below w.heap.size w wc)
  case first =>
    go_region_held3 (fun w' => w'.cell? ⟨w.heap.size, 2, none⟩ = some (.int .u8 kind)) (first | go_keep | (simp (disch := (simp; omega)) [World.cell?_alloc_lt, hc9]; done) | (rw [hc9 _ _ (by omega)]; assumption))
      (first | (go_at_call 31; refine (kinds_any _).mono ?_; rintro e w1 ⟨rfl, hk, hb⟩; simp only [World.size_alloc, World.size_drew] at hk hb; have hz9 := hb.size; simp only [World.size_alloc, World.size_drew] at hz9; have hl0 := look_kinds hk kind f3; have hl1 := fun o => look_kinds (hk.alloc o) kind f3; obtain ⟨hc9, hf9⟩ := old_cells hb))
    · go_wp2_with fail
      go_meet
      case rel => exact ⟨_, rfl, rfl, cut_one hb _ _⟩
    · go_wp2_with fail
      go_meet
      case rel => exact ⟨_, rfl, rfl, cut_one hb _ _⟩
    · go_wp2_with fail
      go_meet
      case rel => exact ⟨_, rfl, rfl, cut_two hb _⟩
  case rest =>
    obtain ⟨g, rfl, rfl, hg, hrow, hbel⟩ := hcut
    have c0 : wc.cell? ⟨w.heap.size, 0, none⟩ = some (.int .u8 client) := cell_of_row wc w.heap.size 0 _ _ _ hrow
    have c1 : wc.cell? ⟨w.heap.size, 1, none⟩ = some (.int .u32 seq) := cell_of_row wc w.heap.size 1 _ _ _ hrow
    have c3 : wc.cell? ⟨w.heap.size, 3, none⟩ = some (.string key) := cell_of_row wc w.heap.size 3 _ _ _ hrow
    have c4 : wc.cell? ⟨w.heap.size, 4, none⟩ = some (.string old) := cell_of_row wc w.heap.size 4 _ _ _ hrow
    have c5 : wc.cell? ⟨w.heap.size, 5, none⟩ = some (.string new) := cell_of_row wc w.heap.size 5 _ _ _ hrow
    have c6 : wc.cell? ⟨w.heap.size, 6, none⟩ = some (.int .u8 set) := cell_of_row wc w.heap.size 6 _ _ _ hrow
    clear hrow f1 f2 f3 f4 f5 f6 f7
    have hlong := fun s most part => long_any s most part (parts kind) g wc hg
    by_cases b1 : parts kind = 0
    · have no := Lib.hid (Cmd.code_no (c := ⟨client, seq, kind, key, old, new, set⟩) (by simp [Cmd.mayB, b1]))
      have t1 : (parts kind == 0) = true := by simp [b1]
      clear b1
      go_wp2_with fail
      go_ret
      exact ⟨ret_code no.out.symm, hbel⟩
    have t1 : (parts kind == 0) = false := by simp [b1]
    by_cases b2 : 4 ≤ client
    · have no := Lib.hid (Cmd.code_no (c := ⟨client, seq, kind, key, old, new, set⟩) (by simp [Cmd.mayB, b2]))
      clear b1
      go_wp2_with fail
      go_ret
      exact ⟨ret_code no.out.symm, hbel⟩
    by_cases b3 : seq = 0
    · have no := Lib.hid (Cmd.code_no (c := ⟨client, seq, kind, key, old, new, set⟩) (by simp [Cmd.mayB, b3]))
      have t3 : (seq == 0) = true := by simp [b3]
      clear b1 b3
      go_wp2_with fail
      go_ret
      exact ⟨ret_code no.out.symm, hbel⟩
    have t3 : (seq == 0) = false := by simp [b3]
    cases l1 : long key 16 1 (parts kind) with
    | true =>
      have no := Lib.hid (Cmd.code_no (c := ⟨client, seq, kind, key, old, new, set⟩) (by simp [Cmd.mayB, l1]))
      have L1 := Lib.hid l1
      clear b1 b3 l1
      go_wp2_with fail
      refine (hlong _ _ _).mono ?_
      rintro e w' ⟨rfl, rfl⟩
      rw [L1.out]
      go_wp2_with fail
      go_ret
      exact ⟨ret_code no.out.symm, hbel⟩
    | false =>
    cases l2 : long old 64 2 (parts kind) with
    | true =>
      have no := Lib.hid (Cmd.code_no (c := ⟨client, seq, kind, key, old, new, set⟩) (by simp [Cmd.mayB, l2]))
      have L1 := Lib.hid l1
      have L2 := Lib.hid l2
      clear b1 b3 l1 l2
      go_wp2_with fail
      refine (hlong _ _ _).mono ?_
      rintro e w' ⟨rfl, rfl⟩
      rw [L1.out]
      go_wp2_with fail
      refine (hlong _ _ _).mono ?_
      rintro e w' ⟨rfl, rfl⟩
      rw [L2.out]
      go_wp2_with fail
      go_ret
      exact ⟨ret_code no.out.symm, hbel⟩
    | false =>
    cases l3 : long new 64 4 (parts kind) with
    | true =>
      have no := Lib.hid (Cmd.code_no (c := ⟨client, seq, kind, key, old, new, set⟩) (by simp [Cmd.mayB, l3]))
      have L1 := Lib.hid l1
      have L2 := Lib.hid l2
      have L3 := Lib.hid l3
      clear b1 b3 l1 l2 l3
      go_wp2_with fail
      refine (hlong _ _ _).mono ?_
      rintro e w' ⟨rfl, rfl⟩
      rw [L1.out]
      go_wp2_with fail
      refine (hlong _ _ _).mono ?_
      rintro e w' ⟨rfl, rfl⟩
      rw [L2.out]
      go_wp2_with fail
      refine (hlong _ _ _).mono ?_
      rintro e w' ⟨rfl, rfl⟩
      rw [L3.out]
      go_wp2_with fail
      go_ret
      exact ⟨ret_code no.out.symm, hbel⟩
    | false =>
      cases k1 : (key.toList.isEmpty && (bits .and .i64 (parts kind) 1 != 0)) with
      | true =>
        have no := Lib.hid (Cmd.code_no (c := ⟨client, seq, kind, key, old, new, set⟩) (by simp only [Cmd.mayB, k1]; simp))
        have k1a : key.toList.isEmpty = true := by simp at k1; simp [k1.1]
        have k1b : (bits .and .i64 (parts kind) 1 != 0) = true := by simp at k1; simp [k1.2]
        have L1 := Lib.hid l1
        have L2 := Lib.hid l2
        have L3 := Lib.hid l3
        clear b1 b3 l1 l2 l3 k1
        go_wp2_with fail
        refine (hlong _ _ _).mono ?_
        rintro e w' ⟨rfl, rfl⟩
        rw [L1.out]
        go_wp2_with fail
        refine (hlong _ _ _).mono ?_
        rintro e w' ⟨rfl, rfl⟩
        rw [L2.out]
        go_wp2_with fail
        refine (hlong _ _ _).mono ?_
        rintro e w' ⟨rfl, rfl⟩
        rw [L3.out]
        go_wp2_with fail
        go_ret
        exact ⟨ret_code no.out.symm, hbel⟩
      | false =>
        have L1 := Lib.hid l1
        have L2 := Lib.hid l2
        have L3 := Lib.hid l3
        cases k2 : ((set != 0) && (bits .and .i64 (parts kind) 8 == 0)) with
        | true =>
          have no := Lib.hid (Cmd.code_no (c := ⟨client, seq, kind, key, old, new, set⟩) (by simp only [Cmd.mayB, k2]; simp))
          have k2a : (set != 0) = true := by simp at k2; simp [k2.1]
          have k2b : (bits .and .i64 (parts kind) 8 == 0) = true := by simp at k2; simp [k2.2]
          clear b1 b3 l1 l2 l3 k2
          cases e1 : key.toList.isEmpty with
          | true =>
            have k1b : (bits .and .i64 (parts kind) 1 != 0) = false := by simpa [e1] using k1
            clear k1
            go_wp2_with fail
            refine (hlong _ _ _).mono ?_
            rintro e w' ⟨rfl, rfl⟩
            rw [L1.out]
            go_wp2_with fail
            refine (hlong _ _ _).mono ?_
            rintro e w' ⟨rfl, rfl⟩
            rw [L2.out]
            go_wp2_with fail
            refine (hlong _ _ _).mono ?_
            rintro e w' ⟨rfl, rfl⟩
            rw [L3.out]
            go_wp2_with fail
            go_ret
            exact ⟨ret_code no.out.symm, hbel⟩
          | false =>
            clear k1
            go_wp2_with fail
            refine (hlong _ _ _).mono ?_
            rintro e w' ⟨rfl, rfl⟩
            rw [L1.out]
            go_wp2_with fail
            refine (hlong _ _ _).mono ?_
            rintro e w' ⟨rfl, rfl⟩
            rw [L2.out]
            go_wp2_with fail
            refine (hlong _ _ _).mono ?_
            rintro e w' ⟨rfl, rfl⟩
            rw [L3.out]
            go_wp2_with fail
            go_ret
            exact ⟨ret_code no.out.symm, hbel⟩
        | false =>
          have yes := Lib.hid (Cmd.code_yes (c := ⟨client, seq, kind, key, old, new, set⟩) (by simp only [Cmd.mayB, k1, k2, l1, l2, l3, t1, t3]; simp; omega))
          clear b1 b3 l1 l2 l3
          cases e1 : key.toList.isEmpty with
          | true =>
            have k1b : (bits .and .i64 (parts kind) 1 != 0) = false := by simpa [e1] using k1
            clear k1
            cases e2 : (set != 0) with
            | true =>
              have k2b : (bits .and .i64 (parts kind) 8 == 0) = false := by simpa [e2] using k2
              clear k2
              go_wp2_with fail
              refine (hlong _ _ _).mono ?_
              rintro e w' ⟨rfl, rfl⟩
              rw [L1.out]
              go_wp2_with fail
              refine (hlong _ _ _).mono ?_
              rintro e w' ⟨rfl, rfl⟩
              rw [L2.out]
              go_wp2_with fail
              refine (hlong _ _ _).mono ?_
              rintro e w' ⟨rfl, rfl⟩
              rw [L3.out]
              go_wp2_with fail
              go_ret
              exact ⟨ret_code yes.out.symm, hbel⟩
            | false =>
              clear k2
              go_wp2_with fail
              refine (hlong _ _ _).mono ?_
              rintro e w' ⟨rfl, rfl⟩
              rw [L1.out]
              go_wp2_with fail
              refine (hlong _ _ _).mono ?_
              rintro e w' ⟨rfl, rfl⟩
              rw [L2.out]
              go_wp2_with fail
              refine (hlong _ _ _).mono ?_
              rintro e w' ⟨rfl, rfl⟩
              rw [L3.out]
              go_wp2_with fail
              go_ret
              exact ⟨ret_code yes.out.symm, hbel⟩
          | false =>
            clear k1
            cases e2 : (set != 0) with
            | true =>
              have k2b : (bits .and .i64 (parts kind) 8 == 0) = false := by simpa [e2] using k2
              clear k2
              go_wp2_with fail
              refine (hlong _ _ _).mono ?_
              rintro e w' ⟨rfl, rfl⟩
              rw [L1.out]
              go_wp2_with fail
              refine (hlong _ _ _).mono ?_
              rintro e w' ⟨rfl, rfl⟩
              rw [L2.out]
              go_wp2_with fail
              refine (hlong _ _ _).mono ?_
              rintro e w' ⟨rfl, rfl⟩
              rw [L3.out]
              go_wp2_with fail
              go_ret
              exact ⟨ret_code yes.out.symm, hbel⟩
            | false =>
              clear k2
              go_wp2_with fail
              refine (hlong _ _ _).mono ?_
              rintro e w' ⟨rfl, rfl⟩
              rw [L1.out]
              go_wp2_with fail
              refine (hlong _ _ _).mono ?_
              rintro e w' ⟨rfl, rfl⟩
              rw [L2.out]
              go_wp2_with fail
              refine (hlong _ _ _).mono ?_
              rintro e w' ⟨rfl, rfl⟩
              rw [L3.out]
              go_wp2_with fail
              go_ret
              exact ⟨ret_code yes.out.symm, hbel⟩
end Go.Proofs.Ytakpkedioehjbaa
