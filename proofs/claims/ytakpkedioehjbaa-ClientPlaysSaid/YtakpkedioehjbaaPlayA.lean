/-
  THE STATE of the law ClientPlays: the client, the box of the reference's client, the two letters, the act.
-/
import Derived.Test.YtakpkedioehjbaaRefI
import Derived.Test.YtakpkedioehjbaaRefD
import Derived.Test.YtakpkedioehjbaaMix
namespace Go.Proofs.Ytakpkedioehjbaa
open Go.RowKit Go.Maps Go.BigFrame

theorem size_deed (d : Deed) : (Try.prog.info? 49).map (·.size) = some d.cells.size := by
  rw [show d.cells.size = 28 from rfl]
  kernel_rfl
theorem one_deed {d : Deed} (h : d.Fits) : d.cells.all (·.oneCell') = true := by
  obtain ⟨a, n, c, hv⟩ := h.votes
  obtain ⟨a', n', c', hi⟩ := h.items
  rw [Array.all_eq_true_iff_forall_mem]
  intro v hm
  simp only [Deed.cells, List.mem_toArray, List.mem_cons, List.not_mem_nil, or_false] at hm
  rw [hv, hi] at hm
  rcases hm with rfl | rfl | rfl | rfl | rfl | rfl | rfl | rfl | rfl | rfl | rfl | rfl | rfl | rfl | rfl | rfl | rfl | rfl | rfl | rfl | rfl | rfl | rfl | rfl | rfl | rfl | rfl | rfl <;> rfl
def DeedIn (w : World) (b : Nat) (d : Deed) : Prop := w.heap[b]? = some (.cells d.cells 49 (0, 0))

/-- A block that holds commands is no block whose second cell is no number of a command. -/
def NoSeq (w : World) (B : Nat) : Prop := ∀ q, w.cell? ⟨B, 1, none⟩ ≠ some (.int .u32 q)
theorem liesC_off {w : World} {ad : Option Addr} {l : List Cmd} (h : LiesC w ad l) {B : Nat} (hB : NoSeq w B) : ∀ (i : Nat) (x : Cmd), l[i]? = some x → ∀ q, ad = some ⟨q, 0, none⟩ → q ≠ B := by
  intro i x hx q hq e
  subst e
  have hlt : 0 < l.length := by
    have := (List.getElem?_eq_some_iff.1 hx).1
    omega
  obtain ⟨q', e', hc⟩ := h 0 l[0] (List.getElem?_eq_getElem hlt)
  have : q = q' := by rw [hq] at e'; injection e' with e'; injection e'
  subst this
  exact hB _ (hc 1 _ rfl)
theorem LiesC.blocks {w w' : World} {ad : Option Addr} {l : List Cmd} (h : LiesC w ad l) (hk : ∀ (i : Nat) (x : Cmd), l[i]? = some x → ∀ q, ad = some ⟨q, 0, none⟩ → q < w.heap.size → w'.heap[q]? = w.heap[q]?) : LiesC w' ad l := fun i x hx => by
  obtain ⟨q, e, hc⟩ := h i x hx
  have hlt : q < w.heap.size := World.block_lt_of_cell? w _ (hc 0 _ rfl)
  exact ⟨q, e, fun j v hv => (World.cell?_of_block (a := ⟨q, i * 7 + j, none⟩) (hk i x hx q e hlt)).trans (hc j v hv)⟩
theorem LiesC.grown {w w' : World} {ad : Option Addr} {l : List Cmd} {g : Nat} (h : LiesC w ad l) (hB : NoSeq w g) (hg : w.grownBy w' (some g)) : LiesC w' ad l :=
  h.blocks fun i x hx q hq hlt => hg.block q hlt (by intro e; injection e with e; exact liesC_off h hB i x hx q hq e)
theorem LiesC.row {w : World} {ad : Option Addr} {l : List Cmd} {b : Nat} (h : LiesC w ad l) (hB : NoSeq w b) (cs : Array Value) : LiesC (w.setRow b cs) ad l :=
  h.blocks fun i x hx q hq _ => setRow_other w b q cs (liesC_off h hB i x hx q hq)
theorem st_noseq {w : World} {g : Nat} {s : St} (h : St.At w g s) : NoSeq w g := fun q e => by
  have h1 : w.cell? ⟨g, 1, none⟩ = some (.int .i64 s.n) := st_cell h 1
  rw [h1] at e; injection e with e; injection e with e; cases e
theorem ref_noseq {w : World} {b : Nat} {s : St} {ad : Option Addr} {n c : Nat} (h : RefIn w b s ad n c) : NoSeq w b := fun q e => by
  rw [(ref_reads h).2.1] at e; injection e with e; injection e with e; cases e
theorem letter_noseq {w : World} {b : Nat} {l : Letter} (h : Letter.In w b l) : NoSeq w b := fun q e => by
  have h1 : w.cell? ⟨b, 1, none⟩ = some (.int .u8 l.dst) := cell_of_row w b 1 _ _ _ h
  rw [h1] at e; injection e with e; injection e with e; cases e

/-- The reference's client and the client are one. -/
structure Fine (id n : Int) (k : Nat) (s : St) (L : List Cmd) (ad : Option Addr) (cap : Nat) : Prop where
  good : Good id n s
  seq : s.seq ≤ (k : Int)
  len : (L.length : Int) = s.seq
  last : lastC L = s.x
  nil : L = [] → ad = none ∧ cap = 0
section
variable {id n : Int} {k : Nat} {s : St} {L : List Cmd} {ad : Option Addr} {cap : Nat}
theorem fine_new (h0 : 0 ≤ id) (h1 : id < 4) (h2 : 1 ≤ n) (h3 : n ≤ 7) : Fine id n 0 (St.new id n) [] none 0 := ⟨good_new h0 h1 h2 h3, by show (0 : Int) ≤ 0; decide, rfl, rfl, fun _ => ⟨rfl, rfl⟩⟩
theorem Fine.stay (h : Fine id n k s L ad cap) : Fine id n (k + 1) s L ad cap := ⟨h.good, by have := h.seq; omega, h.len, h.last, h.nil⟩
theorem Fine.nudged (h : Fine id n k s L ad cap) : Fine id n (k + 1) s.nudged L ad cap := ⟨good_nudged h.good, by have := h.seq; show s.seq ≤ _; omega, h.len, h.last, h.nil⟩
theorem Fine.moved {l : Letter} (h : Fine id n k s L ad cap) (hf : l.Fits) (hm : s.moves l = true) : Fine id n (k + 1) (s.heardMoved l) L ad cap := ⟨good_moved h.good hf hm, by have := h.seq; show s.seq ≤ _; omega, h.len, h.last, h.nil⟩
theorem Fine.reply (h : Fine id n k s L ad cap) : Fine id n (k + 1) s.heardReply L ad cap := ⟨good_reply h.good, by have := h.seq; show s.seq ≤ _; omega, h.len, h.last, h.nil⟩
theorem Fine.invoked {x : Cmd} {ad' : Option Addr} {cap' : Nat} (h : Fine id n k s L ad cap) (hk : k < 200) : Fine id n (k + 1) (s.invoked x) (L ++ [s.named x]) ad' cap' := by
  have h1 := h.seq
  have h2 := h.len
  refine ⟨good_invoked h.good (by omega), by show s.seq + 1 ≤ _; omega, ?_, lastC_snoc _ _, fun e => absurd (congrArg List.length e) (by simp)⟩
  rw [List.length_append]
  show ((L.length + 1 : Nat) : Int) = s.seq + 1
  omega
end
/-- Where the law stands behind k acts. -/
structure Playing (w : World) (g b : Nat) (id n : Int) (k : Nat) (s : St) (L : List Cmd) (ad : Option Addr) (cap : Nat) (wr : World) : Prop where
  fine : Fine id n k s L ad cap
  st : St.At wr g s
  box : RefIn wr b s ad L.length cap
  lies : LiesC wr ad L
  bel : Below w.heap.size w wr
def Played (w : World) (g b : Nat) (id n : Int) (k : Nat) (wr : World) : Prop := ∃ s L ad cap, Playing w g b id n k s L ad cap wr
theorem Playing.below {w wr wr' : World} {g b : Nat} {id n : Int} {k : Nat} {s : St} {L : List Cmd} {ad : Option Addr} {cap : Nat} (h : Playing w g b id n k s L ad cap wr) (hb : Below wr.heap.size wr wr') : Playing w g b id n k s L ad cap wr' :=
  ⟨h.fine, st_below h.st hb (st_lt h.st), (hb.block _ (block_lt h.box)).trans h.box, h.lies.below hb, h.bel.trans (hb.mono h.bel.size)⟩
/-- Behind the client's answer: the reference is to be asked. -/
structure Mid (w : World) (g b a : Nat) (s' s : St) (L : List Cmd) (ad : Option Addr) (cap : Nat) (d : Deed) (o o' : Letter) (wr : World) : Prop where
  st : St.At wr g s'
  box : RefIn wr b s ad L.length cap
  lies : LiesC wr ad L
  act : DeedIn wr a d
  got : Letter.In wr (a + 1) o
  want : Letter.In wr (a + 2) o'
  bel : Below w.heap.size w wr
section
variable {w wr wr' : World} {g b a : Nat} {s s' : St} {L : List Cmd} {ad : Option Addr} {cap : Nat} {d : Deed} {o o' : Letter}
theorem Mid.below (h : Mid w g b a s' s L ad cap d o o' wr) (hb : Below wr.heap.size wr wr') : Mid w g b a s' s L ad cap d o o' wr' :=
  ⟨st_below h.st hb (st_lt h.st), (hb.block _ (block_lt h.box)).trans h.box, h.lies.below hb, (hb.block _ (block_lt h.act)).trans h.act, (hb.block _ (letter_lt h.got)).trans h.got, (hb.block _ (letter_lt h.want)).trans h.want, h.bel.trans (hb.mono h.bel.size)⟩
theorem Mid.upd {s2 : St} (h : Mid w g b a s' s L ad cap d o o' wr) (hu : Upd wr wr' g s2) (hgb : g < b) (hba : b < a) (hg : w.heap.size ≤ g) : Mid w g b a s2 s L ad cap d o o' wr' := by
  have hg' := hu.grown
  have hk : ∀ i, i < wr.heap.size → g < i → wr'.heap[i]? = wr.heap[i]? := fun i hi hlt => hg'.block i hi (by intro e; injection e with e; omega)
  exact ⟨hu.st, (hk _ (block_lt h.box) hgb).trans h.box, h.lies.grown (st_noseq h.st) hg', (hk _ (block_lt h.act) (by omega)).trans h.act, (hk _ (letter_lt h.got) (by omega)).trans h.got, (hk _ (letter_lt h.want) (by omega)).trans h.want, below_grown h.bel hg' hg⟩
theorem Mid.got_set (h : Mid w g b a s' s L ad cap d o o' wr) (hgb : g < b) (hba : b < a) (hg : w.heap.size ≤ g) (p : Letter) : Mid w g b a s' s L ad cap d p o' (wr.setRow (a + 1) p.cells) :=
  ⟨st_row h.st (by omega) _, (setRow_other _ _ _ _ (by omega)).trans h.box, h.lies.row (letter_noseq h.got) _, (setRow_other _ _ _ _ (by omega)).trans h.act, setRow_heap _ _ _ _ _ _ h.got, (setRow_other _ _ _ _ (by omega)).trans h.want, below_setRow h.bel (by omega) _⟩
theorem Mid.box_set {L' : List Cmd} {ad' : Option Addr} {cap' : Nat} (h : Mid w g b a s' s L ad cap d o o' wr) (hl : LiesC wr ad' L') (hgb : g < b) (hba : b < a) (hg : w.heap.size ≤ g) : Mid w g b a s' s' L' ad' cap' d o o' (wr.setRow b (rcells s' ad' L'.length cap')) :=
  ⟨st_row h.st (by omega) _, setRow_heap _ _ _ _ _ _ h.box, hl.row (ref_noseq h.box) _, (setRow_other _ _ _ _ (by omega)).trans h.act, (setRow_other _ _ _ _ (by omega)).trans h.got, (setRow_other _ _ _ _ (by omega)).trans h.want, below_setRow h.bel (by omega) _⟩
theorem Mid.want_set (h : Mid w g b a s' s L ad cap d o o' wr) (hgb : g < b) (hba : b < a) (hg : w.heap.size ≤ g) (p : Letter) : Mid w g b a s' s L ad cap d o p (wr.setRow (a + 2) p.cells) :=
  ⟨st_row h.st (by omega) _, (setRow_other _ _ _ _ (by omega)).trans h.box, h.lies.row (letter_noseq h.want) _, (setRow_other _ _ _ _ (by omega)).trans h.act, (setRow_other _ _ _ _ (by omega)).trans h.got, setRow_heap _ _ _ _ _ _ h.want, below_setRow h.bel (by omega) _⟩
theorem mid_of {id n : Int} {k : Nat} (h : Playing w g b id n k s L ad cap wr) (hd : DeedIn wr a d) (h1 : Letter.In wr (a + 1) Letter.zero) (h2 : Letter.In wr (a + 2) Letter.zero) : Mid w g b a s s L ad cap d Letter.zero Letter.zero wr :=
  ⟨h.st, h.box, h.lies, hd, h1, h2, h.bel⟩
end
/-- Behind an act: both have answered alike. -/
structure Acted (w : World) (g b a : Nat) (id n : Int) (k : Nat) (wr : World) : Prop where
  all : ∃ s L ad cap d o, Mid w g b a s s L ad cap d o o wr ∧ Fine id n k s L ad cap ∧ o.votes = .slice none 0 0 ∧ o.items = .slice none 0 0
end Go.Proofs.Ytakpkedioehjbaa
