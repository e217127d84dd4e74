/-
  An act that came in: what its cells are.
-/
import Derived.Test.YtakpkedioehjbaaNil
import Derived.ProofKit
import Derived.OpenShut
namespace Go.Proofs.Ytakpkedioehjbaa
open Go.RowKit Go.Maps

section
variable {H : Type} {enc : TypeId × Value → H} {P : Program} {w : World} {base : Nat} {sp : Nat → Bool} {held : Bool}

theorem mapM_mem {α β : Type} {f : α → Option β} : ∀ {l : List α} {ys : List β}, l.mapM f = some ys → ∀ x ∈ l, ∃ y, f x = some y
  | [], _, _, x, hx => by cases hx
  | a :: l, ys, h, x, hx => by
    rw [List.mapM_cons] at h
    cases hfa : f a with
    | none => simp [hfa] at h
    | some b =>
      cases hl : l.mapM f with
      | none => simp [hfa, hl] at h
      | some bs =>
        rcases List.mem_cons.1 hx with rfl | hx
        · exact ⟨b, hfa⟩
        · exact mapM_mem hl x hx

theorem trod_struct {fuel : Nat} {t : TypeId} {cs : List Value} {x : DataW H × List MemPlace} (h : DataW.trod enc P w base sp held fuel t cs = some x) (fs : Array Field) (hu : P.underlying t = some (.struct fs)) :
    cs.length = P.cellsOf t ∧ ∀ p ∈ fs.toList.map (fun f => (f.name, f.type, f.offset)), ∃ fuel' y, DataW.trod enc P w base sp held fuel' p.2.1 ((cs.drop p.2.2).take (P.cellsOf p.2.1)) = some y := by
  cases fuel with
  | zero => simp [DataW.trod] at h
  | succ fuel =>
    unfold DataW.trod at h
    rw [hu] at h
    simp only at h
    split at h
    · rename_i hl
      refine ⟨hl, ?_⟩
      intro p hp
      obtain ⟨f, hf, rfl⟩ := List.mem_map.1 hp
      cases hm : fs.toList.mapM fun f => DataW.trod enc P w base sp held fuel f.type ((cs.drop f.offset).take (P.cellsOf f.type)) with
      | none => simp [hm] at h
      | some xs =>
        obtain ⟨y, hy⟩ := mapM_mem hm f hf
        exact ⟨fuel, y, hy⟩
    · cases h

theorem trod_int {fuel : Nat} {t : TypeId} {k : IntKind} {CS : List Value} {i : Nat} {x : DataW H × List MemPlace} (hu : P.underlying t = some (.int k)) (h : DataW.trod enc P w base sp held fuel t ((CS.drop i).take 1) = some x) :
    ∃ n, CS[i]? = some (.int k n) ∧ (Lit.int k n).wf = true := by
  cases fuel with
  | zero => simp [DataW.trod] at h
  | succ fuel =>
    unfold DataW.trod at h
    rw [hu] at h
    have hi : CS[i]? = (CS.drop i).head? := by simp
    cases hd : CS.drop i with
    | nil => simp [hd] at h
    | cons v rest =>
      rw [hd] at h hi
      simp only [List.take_succ_cons, List.take_zero] at h
      split at h <;> simp_all
theorem trod_string {fuel : Nat} {t : TypeId} {CS : List Value} {i : Nat} {x : DataW H × List MemPlace} (hu : P.underlying t = some .string) (h : DataW.trod enc P w base sp held fuel t ((CS.drop i).take 1) = some x) :
    ∃ s, CS[i]? = some (.string s) ∧ s.size ≤ maxLen := by
  cases fuel with
  | zero => simp [DataW.trod] at h
  | succ fuel =>
    unfold DataW.trod at h
    rw [hu] at h
    have hi : CS[i]? = (CS.drop i).head? := by simp
    cases hd : CS.drop i with
    | nil => simp [hd] at h
    | cons v rest =>
      rw [hd] at h hi
      simp only [List.take_succ_cons, List.take_zero] at h
      split at h <;> simp_all
theorem trod_slice {fuel : Nat} {t e : TypeId} {CS : List Value} {i : Nat} {x : DataW H × List MemPlace} (hu : P.underlying t = some (.slice e)) (h : DataW.trod enc P w base sp held fuel t ((CS.drop i).take 1) = some x) :
    ∃ a n c, CS[i]? = some (.slice a n c) := by
  cases fuel with
  | zero => simp [DataW.trod] at h
  | succ fuel =>
    unfold DataW.trod at h
    rw [hu] at h
    have hi : CS[i]? = (CS.drop i).head? := by simp
    cases hd : CS.drop i with
    | nil => simp [hd] at h
    | cons v rest =>
      rw [hd] at h hi
      simp only [List.take_succ_cons, List.take_zero] at h
      split at h <;> simp_all
end

theorem act_fields : (Try.prog.fieldsOf 49).toList.map (fun f => (f.name, f.type, f.offset)) = [("Do", 5, 0), ("X", 36, 1), ("L", 47, 8)] := by kernel_rfl
theorem act_struct : Try.prog.underlying 49 = some (.struct (Try.prog.fieldsOf 49)) := by kernel_rfl
theorem letter_fields : (Try.prog.fieldsOf 47).toList.map (fun f => (f.name, f.type, f.offset)) = [("From", 5, 0), ("To", 5, 1), ("M", 45, 2)] := by kernel_rfl
theorem letter_struct : Try.prog.underlying 47 = some (.struct (Try.prog.fieldsOf 47)) := by kernel_rfl
theorem msg_fields : (Try.prog.fieldsOf 45).toList.map (fun f => (f.name, f.type, f.offset)) = [("Kind", 5, 0), ("B", 39, 1), ("Base", 37, 3), ("Slot", 37, 4), ("Node", 5, 5), ("Value", 9, 6), ("Votes", 40, 7), ("Items", 41, 8), ("Cmd", 36, 9), ("Reply", 43, 16)] := by kernel_rfl
theorem msg_struct : Try.prog.underlying 45 = some (.struct (Try.prog.fieldsOf 45)) := by kernel_rfl
theorem ballot_fields : (Try.prog.fieldsOf 39).toList.map (fun f => (f.name, f.type, f.offset)) = [("N", 37, 0), ("R", 5, 1)] := by kernel_rfl
theorem ballot_struct : Try.prog.underlying 39 = some (.struct (Try.prog.fieldsOf 39)) := by kernel_rfl
theorem cells_act : Try.prog.cellsOf 49 = 28 := by kernel_rfl
theorem cells_cmd : Try.prog.cellsOf 36 = 7 := by kernel_rfl
theorem cells_letter : Try.prog.cellsOf 47 = 20 := by kernel_rfl
theorem cells_msg : Try.prog.cellsOf 45 = 18 := by kernel_rfl
theorem cells_ballot : Try.prog.cellsOf 39 = 2 := by kernel_rfl
theorem cells_reply : Try.prog.cellsOf 43 = 2 := by kernel_rfl
theorem cells_u8 : Try.prog.cellsOf 5 = 1 := by kernel_rfl
theorem cells_u32 : Try.prog.cellsOf 34 = 1 := by kernel_rfl
theorem cells_u64 : Try.prog.cellsOf 37 = 1 := by kernel_rfl
theorem cells_string : Try.prog.cellsOf 9 = 1 := by kernel_rfl
theorem cells_votes : Try.prog.cellsOf 40 = 1 := by kernel_rfl
theorem cells_items : Try.prog.cellsOf 41 = 1 := by kernel_rfl

theorem part_sizes : Try.prog.cellsOf 36 = 7 ∧ Try.prog.cellsOf 47 = 20 ∧ Try.prog.cellsOf 45 = 18 ∧ Try.prog.cellsOf 39 = 2 ∧ Try.prog.cellsOf 43 = 2 ∧ Try.prog.cellsOf 5 = 1 ∧ Try.prog.cellsOf 34 = 1 ∧
    Try.prog.cellsOf 37 = 1 ∧ Try.prog.cellsOf 9 = 1 ∧ Try.prog.cellsOf 40 = 1 ∧ Try.prog.cellsOf 41 = 1 :=
  ⟨cells_cmd, cells_letter, cells_msg, cells_ballot, cells_reply, cells_u8, cells_u32, cells_u64, cells_string, cells_votes, cells_items⟩
theorem part_cuts : (∀ (l : List Value) (a b : Nat), (l.take a).drop b = (l.drop b).take (a - b)) ∧ (∀ (l : List Value) (a b : Nat), (l.drop a).drop b = l.drop (a + b)) ∧ (∀ (l : List Value) (a b : Nat), (l.take a).take b = l.take (min b a)) ∧
    (∀ a b : Nat, min a b = if a ≤ b then a else b) :=
  ⟨fun l a b => by rw [List.drop_take], fun l a b => by rw [List.drop_drop], fun l a b => by rw [List.take_take], fun _ _ => rfl⟩

/-- A deed of the types' bounds. -/
structure Deed.Fits (d : Deed) : Prop where
  act : (Lit.int .u8 d.act).wf = true
  x : d.x.Fits
  l : d.l.Fits
  cmd : d.l.cmd.Fits
  dst : (Lit.int .u8 d.l.dst).wf = true
  kind : (Lit.int .u8 d.l.kind).wf = true
  bn : (Lit.int .u64 d.l.bn).wf = true
  br : (Lit.int .u8 d.l.br).wf = true
  base : (Lit.int .u64 d.l.base).wf = true
  slot : (Lit.int .u64 d.l.slot).wf = true
  value : d.l.value.size ≤ maxLen
  votes : ∃ a n c, d.l.votes = .slice a n c
  items : ∃ a n c, d.l.items = .slice a n c
  code : (Lit.int .u8 d.l.code).wf = true
  text : d.l.text.size ≤ maxLen

theorem u8_low {n : Int} (h : (Lit.int .u8 n).wf = true) : 0 ≤ n ∧ n < 256 := by
  simp [Lit.wf, IntKind.min, IntKind.max, IntKind.signed, IntKind.bits] at h
  omega

section
variable {H : Type} {enc : TypeId × Value → H} {w : World} {base : Nat} {sp : Nat → Bool} {held : Bool}

/-- The parts of a command that came in. -/
theorem open_cmd {fuel : Nat} {CS : List Value} {o : Nat} {x : DataW H × List MemPlace} (h : DataW.trod enc Try.prog w base sp held fuel 36 ((CS.drop o).take 7) = some x) :
    ∃ c : Cmd, c.Fits ∧ CS[o]? = some (.int .u8 c.client) ∧ CS[o + 1]? = some (.int .u32 c.seq) ∧ CS[o + 2]? = some (.int .u8 c.kind) ∧ CS[o + 3]? = some (.string c.key) ∧ CS[o + 4]? = some (.string c.old) ∧
      CS[o + 5]? = some (.string c.new) ∧ CS[o + 6]? = some (.int .u8 c.set) := by
  obtain ⟨_, hall⟩ := trod_struct h _ cmd_struct
  rw [cmd_fields] at hall
  obtain ⟨_, _, hclient⟩ := hall ("Client", 5, 0) (by simp)
  simp only [part_sizes, part_cuts] at hclient
  obtain ⟨client, eclient, wclient⟩ := trod_int Try.underlying5 hclient
  obtain ⟨_, _, hseq⟩ := hall ("Seq", 34, 1) (by simp)
  simp only [part_sizes, part_cuts] at hseq
  obtain ⟨seq, eseq, wseq⟩ := trod_int Try.underlying34 hseq
  obtain ⟨_, _, hkind⟩ := hall ("Kind", 5, 2) (by simp)
  simp only [part_sizes, part_cuts] at hkind
  obtain ⟨kind, ekind, wkind⟩ := trod_int Try.underlying5 hkind
  obtain ⟨_, _, hkey⟩ := hall ("Key", 9, 3) (by simp)
  simp only [part_sizes, part_cuts] at hkey
  obtain ⟨key, ekey, wkey⟩ := trod_string Try.underlying9 hkey
  obtain ⟨_, _, hold⟩ := hall ("Old", 9, 4) (by simp)
  simp only [part_sizes, part_cuts] at hold
  obtain ⟨old, eold, wold⟩ := trod_string Try.underlying9 hold
  obtain ⟨_, _, hnew⟩ := hall ("New", 9, 5) (by simp)
  simp only [part_sizes, part_cuts] at hnew
  obtain ⟨new, enew, wnew⟩ := trod_string Try.underlying9 hnew
  obtain ⟨_, _, hset⟩ := hall ("Set", 5, 6) (by simp)
  simp only [part_sizes, part_cuts] at hset
  obtain ⟨set, eset, wset⟩ := trod_int Try.underlying5 hset
  exact ⟨⟨client, seq, kind, key, old, new, set⟩, ⟨wclient, wseq, wkind, wset, wkey, wold, wnew⟩, eclient, eseq, ekind, ekey, eold, enew, eset⟩

theorem open_reply {fuel : Nat} {CS : List Value} {o : Nat} {x : DataW H × List MemPlace} (h : DataW.trod enc Try.prog w base sp held fuel 43 ((CS.drop o).take 2) = some x) :
    ∃ c : Reply, (Lit.int .u8 c.code).wf = true ∧ c.text.size ≤ maxLen ∧ CS[o]? = some (.int .u8 c.code) ∧ CS[o + 1]? = some (.string c.text) := by
  obtain ⟨_, hall⟩ := trod_struct h _ reply_struct
  rw [reply_fields] at hall
  obtain ⟨_, _, hcode⟩ := hall ("Code", 5, 0) (by simp)
  simp only [part_sizes, part_cuts] at hcode
  obtain ⟨code, ecode, wcode⟩ := trod_int Try.underlying5 hcode
  obtain ⟨_, _, htext⟩ := hall ("Text", 9, 1) (by simp)
  simp only [part_sizes, part_cuts] at htext
  obtain ⟨text, etext, wtext⟩ := trod_string Try.underlying9 htext
  exact ⟨⟨code, text⟩, wcode, wtext, ecode, etext⟩

theorem open_ballot {fuel : Nat} {CS : List Value} {o : Nat} {x : DataW H × List MemPlace} (h : DataW.trod enc Try.prog w base sp held fuel 39 ((CS.drop o).take 2) = some x) :
    ∃ a b : Int, (Lit.int .u64 a).wf = true ∧ (Lit.int .u8 b).wf = true ∧ CS[o]? = some (.int .u64 a) ∧ CS[o + 1]? = some (.int .u8 b) := by
  obtain ⟨_, hall⟩ := trod_struct h _ ballot_struct
  rw [ballot_fields] at hall
  obtain ⟨_, _, hn⟩ := hall ("N", 37, 0) (by simp)
  simp only [part_sizes, part_cuts] at hn
  obtain ⟨n, en, wn⟩ := trod_int Try.underlying37 hn
  obtain ⟨_, _, hr⟩ := hall ("R", 5, 1) (by simp)
  simp only [part_sizes, part_cuts] at hr
  obtain ⟨r, er, wr⟩ := trod_int Try.underlying5 hr
  exact ⟨n, r, wn, wr, en, er⟩

/-- An act that came in is a deed. -/
theorem open_act {fuel : Nat} {CS : List Value} {x : DataW H × List MemPlace} (h : DataW.trod enc Try.prog w base sp held fuel 49 CS = some x) : ∃ d : Deed, d.Fits ∧ CS = d.cells.toList := by
  obtain ⟨hlen, hall⟩ := trod_struct h _ act_struct
  rw [act_fields] at hall
  rw [cells_act] at hlen
  obtain ⟨_, _, hact⟩ := hall ("Do", 5, 0) (by simp)
  simp only [part_sizes] at hact
  obtain ⟨act, eact, wact⟩ := trod_int Try.underlying5 hact
  obtain ⟨_, _, hx⟩ := hall ("X", 36, 1) (by simp)
  simp only [part_sizes] at hx
  obtain ⟨x, fx, x0, x1, x2, x3, x4, x5, x6⟩ := open_cmd hx
  obtain ⟨_, _, hl⟩ := hall ("L", 47, 8) (by simp)
  simp only [part_sizes] at hl
  obtain ⟨_, hlet⟩ := trod_struct hl _ letter_struct
  rw [letter_fields] at hlet
  obtain ⟨_, _, hsrc⟩ := hlet ("From", 5, 0) (by simp)
  simp only [part_sizes, part_cuts] at hsrc
  obtain ⟨src, esrc, wsrc⟩ := trod_int Try.underlying5 hsrc
  obtain ⟨_, _, hto⟩ := hlet ("To", 5, 1) (by simp)
  simp only [part_sizes, part_cuts] at hto
  obtain ⟨dst, eto, wto⟩ := trod_int Try.underlying5 hto
  obtain ⟨_, _, hm⟩ := hlet ("M", 45, 2) (by simp)
  simp only [part_sizes, part_cuts] at hm
  obtain ⟨_, hmsg⟩ := trod_struct hm _ msg_struct
  rw [msg_fields] at hmsg
  obtain ⟨_, _, hkind⟩ := hmsg ("Kind", 5, 0) (by simp)
  simp only [part_sizes, part_cuts] at hkind
  obtain ⟨kind, ekind, wkind⟩ := trod_int Try.underlying5 hkind
  obtain ⟨_, _, hb⟩ := hmsg ("B", 39, 1) (by simp)
  simp only [part_sizes, part_cuts] at hb
  obtain ⟨bn, br, wbn, wbr, ebn, ebr⟩ := open_ballot hb
  obtain ⟨_, _, hbas⟩ := hmsg ("Base", 37, 3) (by simp)
  simp only [part_sizes, part_cuts] at hbas
  obtain ⟨bas, ebas, wbas⟩ := trod_int Try.underlying37 hbas
  obtain ⟨_, _, hslot⟩ := hmsg ("Slot", 37, 4) (by simp)
  simp only [part_sizes, part_cuts] at hslot
  obtain ⟨slot, eslot, wslot⟩ := trod_int Try.underlying37 hslot
  obtain ⟨_, _, hnode⟩ := hmsg ("Node", 5, 5) (by simp)
  simp only [part_sizes, part_cuts] at hnode
  obtain ⟨node, enode, wnode⟩ := trod_int Try.underlying5 hnode
  obtain ⟨_, _, hvalue⟩ := hmsg ("Value", 9, 6) (by simp)
  simp only [part_sizes, part_cuts] at hvalue
  obtain ⟨value, evalue, wvalue⟩ := trod_string Try.underlying9 hvalue
  obtain ⟨_, _, hvotes⟩ := hmsg ("Votes", 40, 7) (by simp)
  simp only [part_sizes, part_cuts] at hvotes
  obtain ⟨votesa, votesn, votesc, evotes⟩ := trod_slice Try.underlying40 hvotes
  obtain ⟨_, _, hitems⟩ := hmsg ("Items", 41, 8) (by simp)
  simp only [part_sizes, part_cuts] at hitems
  obtain ⟨itemsa, itemsn, itemsc, eitems⟩ := trod_slice Try.underlying41 hitems
  obtain ⟨_, _, hc⟩ := hmsg ("Cmd", 36, 9) (by simp)
  simp only [part_sizes, part_cuts] at hc
  obtain ⟨c, fc, c0, c1, c2, c3, c4, c5, c6⟩ := open_cmd hc
  obtain ⟨_, _, hr⟩ := hmsg ("Reply", 43, 16) (by simp)
  simp only [part_sizes, part_cuts] at hr
  obtain ⟨r, wrc, wrt, r0, r1⟩ := open_reply hr
  refine ⟨⟨act, x, ⟨src, dst, kind, bn, br, bas, slot, node, value, .slice votesa votesn votesc, .slice itemsa itemsn itemsc, c, r.code, r.text⟩⟩,
    ⟨wact, fx, ⟨(u8_low wsrc).1, (u8_low wsrc).2, (u8_low wnode).1, (u8_low wnode).2, rfl, rfl⟩, fc, wto, wkind, wbn, wbr, wbas, wslot, wvalue, ⟨_, _, _, rfl⟩, ⟨_, _, _, rfl⟩, wrc, wrt⟩, ?_⟩
  apply List.ext_getElem?
  intro i
  rcases i with _|_|_|_|_|_|_|_|_|_|_|_|_|_|_|_|_|_|_|_|_|_|_|_|_|_|_|_|i
  all_goals (try (simp [Deed.cells]; first | assumption | omega))
end
end Go.Proofs.Ytakpkedioehjbaa
