/-
  THE WALKS of a client's asks and sends.
-/
import Derived.Test.YtakpkedioehjbaaCheck
import Derived.BigRegion
import Derived.StillTailTactics
import Derived.Laws.BitsAllLaws
import Derived.Laws.CopyOwn
import Derived.Deep.QuietTactic
import Derived.BigQuiet
namespace Go.Proofs.Ytakpkedioehjbaa
open Go.RowKit Go.Maps

/-- A letter: from, to; its message's kind, ballot, base, slot, node, value, votes, items, command, reply. -/
structure Letter where
  src : Int
  dst : Int
  kind : Int
  bn : Int
  br : Int
  base : Int
  slot : Int
  node : Int
  value : ByteArray
  votes : Value
  items : Value
  cmd : Cmd
  code : Int
  text : ByteArray
def Letter.cells (l : Letter) : Array Value := #[.int .u8 l.src, .int .u8 l.dst, .int .u8 l.kind, .int .u64 l.bn, .int .u8 l.br, .int .u64 l.base, .int .u64 l.slot, .int .u8 l.node, .string l.value, l.votes, l.items,
  .int .u8 l.cmd.client, .int .u32 l.cmd.seq, .int .u8 l.cmd.kind, .string l.cmd.key, .string l.cmd.old, .string l.cmd.new, .int .u8 l.cmd.set, .int .u8 l.code, .string l.text]
def Cmd.zero : Cmd := ⟨0, 0, 0, ByteArray.empty, ByteArray.empty, ByteArray.empty, 0⟩
def Letter.zero : Letter := ⟨0, 0, 0, 0, 0, 0, 0, 0, ByteArray.empty, .slice none 0 0, .slice none 0 0, Cmd.zero, 0, ByteArray.empty⟩

/-- A client's state. -/
structure St where
  id : Int
  n : Int
  seq : Int
  waits : Bool
  x : Cmd
  dst : Int
def St.cells (s : St) : Array Value := #[.int .u8 s.id, .int .i64 s.n, .int .u32 s.seq, .bool s.waits, .int .u8 s.x.client, .int .u32 s.x.seq, .int .u8 s.x.kind, .string s.x.key, .string s.x.old, .string s.x.new, .int .u8 s.x.set, .int .u8 s.dst]
def St.At (w : World) (g : Nat) (s : St) : Prop := w.heap[g]? = some (.cells s.cells 70 (0, 0))
structure St.Ok (s : St) : Prop where
  id0 : 0 ≤ s.id
  id1 : s.id < 4
  n0 : 1 ≤ s.n
  n1 : s.n ≤ 7
  dst0 : 0 ≤ s.dst
  dst1 : s.dst < s.n
  seq0 : 0 ≤ s.seq
  seq1 : s.seq < 4294967296
/-- What a client asks by. -/
def St.asks (s : St) : Letter := { Letter.zero with src := 16 + s.id, dst := s.dst, kind := 1, cmd := s.x }
theorem st_cell {w : World} {g : Nat} {s : St} (h : St.At w g s) (i : Nat) : w.cell? ⟨g, i, none⟩ = s.cells[i]? := cell_of_row w g i _ _ _ h

theorem st_lt {w : World} {g : Nat} {s : St} (h : St.At w g s) : g < w.heap.size := by
  rcases Nat.lt_or_ge g w.heap.size with hlt | hge
  · exact hlt
  · unfold St.At at h; rw [Array.getElem?_eq_none hge] at h; cases h

/-- What holds of the world at hand is all that the rest of the walk knows of it. -/
theorem code_from {P : Program} {c : Code} {Q : Exit → Act → World → Prop} {a : Act} {W : World} (R : World → Prop) (hR : R W) (h : ∀ w, R w → Code.wp P c Q a w) : Code.wp P c Q a W := h W hR
theorem size_letter (l : Letter) : (Try.prog.info? 47).map (·.size) = some l.cells.size := by
  rw [show l.cells.size = 20 from rfl]
  kernel_rfl
theorem one_letter (l : Letter) (hv : l.votes.oneCell' = true) (hi : l.items.oneCell' = true) : l.cells.all (·.oneCell') = true := by
  rw [Array.all_eq_true_iff_forall_mem]
  intro v h
  simp only [Letter.cells, List.mem_toArray, List.mem_cons, List.not_mem_nil, or_false] at h
  rcases h with rfl | rfl | rfl | rfl | rfl | rfl | rfl | rfl | rfl | rfl | rfl | rfl | rfl | rfl | rfl | rfl | rfl | rfl | rfl | rfl <;> first | exact hv | exact hi | rfl
/-- Block b holds a letter. -/
def Letter.In (w : World) (b : Nat) (l : Letter) : Prop := w.heap[b]? = some (.cells l.cells 47 (0, 0))

theorem u8_add (id : Int) (h0 : 0 ≤ id) (h1 : id < 4) : IntKind.u8.wrap (16 + id) = 16 + id := by
  rw [IntKind.wrap_u8']
  omega

set_option maxRecDepth 100000 in
set_option maxHeartbeats 1600000 in
theorem asks_any (g : Nat) (s : St) (w : World) (hs : St.At w g s) (hok : s.Ok) :
    Calls Try.prog 26 #[.pointer (some ⟨g, 0, none⟩)] w fun e w' => e = .returned (.agg s.asks.cells) ∧ Below w.heap.size w w' := by
  have hlt := st_lt hs
  go_enter Try.func26, Try.ntmps26
  go_wp2_with fail
  refine code_from (fun wc => Letter.In wc w.heap.size Letter.zero ∧ Below w.heap.size w wc) ⟨heap_alloc_new w _, (Below.refl _ _).alloc (Nat.le_refl _) _⟩ ?_
  rintro wc ⟨hB, hbel⟩
  have hs' : St.At wc g s := (hbel.block g hlt).trans hs
  obtain ⟨id, n, seq, waits, ⟨client, cseq, kind, key, old, new, set⟩, dst⟩ := s
  have hid0 : 0 ≤ id := hok.id0
  have hid1 : id < 4 := hok.id1
  have c0 : wc.cell? ⟨g, 0, none⟩ = some (.int .u8 id) := st_cell hs' 0
  have c4 : wc.cell? ⟨g, 4, none⟩ = some (.int .u8 client) := st_cell hs' 4
  have c5 : wc.cell? ⟨g, 5, none⟩ = some (.int .u32 cseq) := st_cell hs' 5
  have c6 : wc.cell? ⟨g, 6, none⟩ = some (.int .u8 kind) := st_cell hs' 6
  have c7 : wc.cell? ⟨g, 7, none⟩ = some (.string key) := st_cell hs' 7
  have c8 : wc.cell? ⟨g, 8, none⟩ = some (.string old) := st_cell hs' 8
  have c9 : wc.cell? ⟨g, 9, none⟩ = some (.string new) := st_cell hs' 9
  have c10 : wc.cell? ⟨g, 10, none⟩ = some (.int .u8 set) := st_cell hs' 10
  have c11 : wc.cell? ⟨g, 11, none⟩ = some (.int .u8 dst) := st_cell hs' 11
  clear hs' hlt hs hok
  go_still_tail 15, (by kernel_rfl)
  change wpList _ _ _ _ _ wc.drew
  refine wpList_store_row (P := Try.prog) rfl 47 (.tmp 2) (.tmp 17) rfl w.heap.size (St.asks ⟨id, n, seq, waits, ⟨client, cseq, kind, key, old, new, set⟩, dst⟩).cells rfl (by rw [u8_add id hid0 hid1]; rfl) 47 Letter.zero.cells hB (size_letter _) rfl (one_letter _ rfl rfl) ?_
  go_wp2_with fail
  exact bodyPost_ret (results_cell_row rfl _ _ w.heap.size 47 _ (0, 0) _ rfl (setRow_heap _ _ _ _ _ _ hB) Try.underlying47 rfl (size_letter _)) rfl ⟨rfl, below_setRow hbel.drew (Nat.le_refl _) _⟩
end Go.Proofs.Ytakpkedioehjbaa
