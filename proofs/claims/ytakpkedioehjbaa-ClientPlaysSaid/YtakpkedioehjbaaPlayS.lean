/-
  WHAT BOTH ANSWER, client and reference, as functions of the state; the contracts in those words.
-/
import Derived.Test.YtakpkedioehjbaaPlayA
namespace Go.Proofs.Ytakpkedioehjbaa
open Go.RowKit Go.Maps Go.BigFrame

def invS (s : St) (x : Cmd) : St := if s.waits then s else if (s.named x).mayB then s.invoked x else s
def invO (s : St) (x : Cmd) : Letter := if s.waits then Letter.zero else if (s.named x).mayB then (s.invoked x).asks else Letter.zero
def invC (s : St) (x : Cmd) : Int := if s.waits then 13 else if (s.named x).mayB then 0 else 2
def invL (s : St) (x : Cmd) (L : List Cmd) : List Cmd := if s.waits then L else if (s.named x).mayB then L ++ [s.named x] else L
def nudS (s : St) : St := if s.waits then s.nudged else s
def nudO (s : St) : Letter := if s.waits then s.nudged.asks else Letter.zero
def nudC (s : St) : Int := if s.waits then 0 else 13
def hearS (s : St) (l : Letter) : St := if s.moves l then s.heardMoved l else if s.takes l then s.heardReply else s
def hearO (s : St) (l : Letter) : Letter := if s.moves l then (s.heardMoved l).asks else Letter.zero
def hearIs (s : St) (l : Letter) : Bool := s.moves l
def hearY (s : St) (l : Letter) : Reply := if s.moves l then Reply.zero else if s.takes l then l.reply else Reply.zero
def hearTk (s : St) (l : Letter) : Bool := if s.moves l then false else s.takes l

theorem upd_below {w w' : World} {g : Nat} {s : St} (hs : St.At w g s) (hb : Below w.heap.size w w') : Upd w w' g s := ⟨st_below hs hb (st_lt hs), grown_below hb (Nat.le_refl _)⟩
section
variable {id n : Int} {k : Nat} {s : St} {L : List Cmd} {ad : Option Addr} {cap g : Nat} {w : World}
theorem invO_nil (s : St) (x : Cmd) : (invO s x).votes = .slice none 0 0 ∧ (invO s x).items = .slice none 0 0 := by
  unfold invO
  split
  · exact ⟨rfl, rfl⟩
  · split <;> exact ⟨rfl, rfl⟩
theorem nudO_nil (s : St) : (nudO s).votes = .slice none 0 0 ∧ (nudO s).items = .slice none 0 0 := by
  unfold nudO
  split <;> exact ⟨rfl, rfl⟩
theorem hearO_nil (s : St) (l : Letter) : (hearO s l).votes = .slice none 0 0 ∧ (hearO s l).items = .slice none 0 0 := by
  unfold hearO
  split <;> exact ⟨rfl, rfl⟩

theorem real_invoke (x : Cmd) (hf : Fine id n k s L ad cap) (hk : k < 200) (hs : St.At w g s) (hx : x.Fits) :
    Calls Try.prog 12 #[.pointer (some ⟨g, 0, none⟩), .agg x.cells] w fun r w' => r = .returned (.tuple #[.agg (invO s x).cells, .int .i64 (invC s x)]) ∧ Upd w w' g (invS s x) := by
  cases hw : s.waits with
  | true =>
    refine (invoke_waits g s x w hs hw).mono ?_
    rintro r w' ⟨rfl, hb⟩
    refine ⟨by simp [invO, invC, hw], ?_⟩
    rw [show invS s x = s by simp [invS, hw]]
    exact upd_below hs hb
  | false =>
    have h1 := hf.seq
    refine (invoke_go g s x w hs hf.good.ok hw (by omega) hx).mono ?_
    rintro r w' ⟨hno, hyes⟩
    cases hm : (s.named x).mayB with
    | false =>
      obtain ⟨rfl, hu⟩ := hno hm
      refine ⟨by simp [invO, invC, hw, hm], ?_⟩
      rw [show invS s x = s by simp [invS, hw, hm]]
      exact hu
    | true =>
      obtain ⟨rfl, hu⟩ := hyes hm
      refine ⟨by simp [invO, invC, hw, hm], ?_⟩
      rw [show invS s x = s.invoked x by simp [invS, hw, hm]]
      exact hu
theorem ref_invoke (x : Cmd) (hf : Fine id n k s L ad cap) (hk : k < 200) (hl : LiesC w ad L) :
    Calls Try.prog 13 #[.agg (rcells s ad L.length cap), .agg x.cells] w fun r w' => (∃ ad' cap', r = .returned (.tuple #[.agg (rcells (invS s x) ad' (invL s x L).length cap'), .agg (invO s x).cells, .int .i64 (invC s x)]) ∧
      LiesC w' ad' (invL s x L) ∧ Fine id n (k + 1) (invS s x) (invL s x L) ad' cap') ∧ Below w.heap.size w w' := by
  cases hw : s.waits with
  | true =>
    refine (refInvoke_waits s ad cap L.length x w hw).mono ?_
    rintro r w' ⟨rfl, hb⟩
    refine ⟨⟨ad, cap, by simp [invO, invC, invS, invL, hw], ?_, ?_⟩, hb⟩
    · rw [show invL s x L = L by simp [invL, hw]]
      exact hl.below hb
    · rw [show invL s x L = L by simp [invL, hw], show invS s x = s by simp [invS, hw]]
      exact hf.stay
  | false =>
    have h1 := hf.seq
    have h2 := hf.len
    refine (refInvoke_go s ad cap L x w hw hf.good.ok hl hf.len (by omega) hf.nil).mono ?_
    rintro r w' ⟨hno, hyes, hb⟩
    cases hm : (s.named x).mayB with
    | false =>
      obtain rfl := hno hm
      refine ⟨⟨ad, cap, by simp [invO, invC, invS, invL, hw, hm], ?_, ?_⟩, hb⟩
      · rw [show invL s x L = L by simp [invL, hw, hm]]
        exact hl.below hb
      · rw [show invL s x L = L by simp [invL, hw, hm], show invS s x = s by simp [invS, hw, hm]]
        exact hf.stay
    | true =>
      obtain ⟨ad', cap', rfl, hl'⟩ := hyes hm
      refine ⟨⟨ad', cap', by simp [invO, invC, invS, invL, hw, hm], ?_, ?_⟩, hb⟩
      · rw [show invL s x L = L ++ [s.named x] by simp [invL, hw, hm]]
        exact hl'
      · rw [show invL s x L = L ++ [s.named x] by simp [invL, hw, hm], show invS s x = s.invoked x by simp [invS, hw, hm]]
        exact hf.invoked hk
theorem real_nudge (hf : Fine id n k s L ad cap) (hs : St.At w g s) :
    Calls Try.prog 14 #[.pointer (some ⟨g, 0, none⟩)] w fun r w' => r = .returned (.tuple #[.agg (nudO s).cells, .int .i64 (nudC s)]) ∧ Upd w w' g (nudS s) := by
  cases hw : s.waits with
  | true =>
    refine (nudge_yes g s w hs hf.good.ok hw).mono ?_
    rintro r w' ⟨rfl, hu⟩
    refine ⟨by simp [nudO, nudC, hw], ?_⟩
    rw [show nudS s = s.nudged by simp [nudS, hw]]
    exact hu
  | false =>
    refine (nudge_no g s w hs hw).mono ?_
    rintro r w' ⟨rfl, hb⟩
    refine ⟨by simp [nudO, nudC, hw], ?_⟩
    rw [show nudS s = s by simp [nudS, hw]]
    exact upd_below hs hb
theorem ref_nudge (hf : Fine id n k s L ad cap) (hk : k < 200) (hl : LiesC w ad L) :
    Calls Try.prog 15 #[.agg (rcells s ad L.length cap)] w fun r w' => r = .returned (.tuple #[.agg (rcells (nudS s) ad L.length cap), .agg (nudO s).cells, .int .i64 (nudC s)]) ∧ Fine id n (k + 1) (nudS s) L ad cap ∧ Below w.heap.size w w' := by
  cases hw : s.waits with
  | true =>
    have h1 := hf.seq
    have h2 := hf.len
    refine (refNudge_yes s ad cap L w hw hf.good.ok hl (by omega) hf.last).mono ?_
    rintro r w' ⟨rfl, hb⟩
    refine ⟨by simp [nudO, nudC, nudS, hw], ?_, hb⟩
    rw [show nudS s = s.nudged by simp [nudS, hw]]
    exact hf.nudged
  | false =>
    refine (refNudge_no s ad cap L.length w hw).mono ?_
    rintro r w' ⟨rfl, hb⟩
    refine ⟨by simp [nudO, nudC, nudS, hw], ?_, hb⟩
    rw [show nudS s = s by simp [nudS, hw]]
    exact hf.stay
theorem real_hear (l : Letter) (hf : Fine id n k s L ad cap) (hs : St.At w g s) (hl : l.Fits) :
    Calls Try.prog 16 #[.pointer (some ⟨g, 0, none⟩), .agg l.cells] w fun r w' => r = .returned (.tuple #[.agg (hearO s l).cells, .bool (hearIs s l), .agg (hearY s l).cells, .bool (hearTk s l)]) ∧ Upd w w' g (hearS s l) := by
  refine (hear_any g s l w hs hf.good.ok hl).mono ?_
  rintro r w' ⟨h1, h2, h3⟩
  cases hm : s.moves l with
  | true =>
    obtain ⟨rfl, hu⟩ := h1 hm
    exact ⟨by simp [hearO, hearIs, hearY, hearTk, hm], by rw [show hearS s l = s.heardMoved l by simp [hearS, hm]]; exact hu⟩
  | false =>
    cases ht : s.takes l with
    | true =>
      obtain ⟨rfl, hu⟩ := h2 hm ht
      exact ⟨by simp [hearO, hearIs, hearY, hearTk, hm, ht], by rw [show hearS s l = s.heardReply by simp [hearS, hm, ht]]; exact hu⟩
    | false =>
      obtain ⟨rfl, hu⟩ := h3 hm ht
      exact ⟨by simp [hearO, hearIs, hearY, hearTk, hm, ht], by rw [show hearS s l = s by simp [hearS, hm, ht]]; exact hu⟩
theorem ref_hear (l : Letter) (hf : Fine id n k s L ad cap) (hk : k < 200) (hlz : LiesC w ad L) (hl : l.Fits) :
    Calls Try.prog 17 #[.agg (rcells s ad L.length cap), .agg l.cells] w fun r w' => r = .returned (.tuple #[.agg (rcells (hearS s l) ad L.length cap), .agg (hearO s l).cells, .bool (hearIs s l), .agg (hearY s l).cells, .bool (hearTk s l)]) ∧
      Fine id n (k + 1) (hearS s l) L ad cap ∧ Below w.heap.size w w' := by
  have e1 := hf.seq
  have e2 := hf.len
  refine (refHear_any s ad cap L l w hf.good.ok hlz (by omega) hf.last hf.good.own hl).mono ?_
  rintro r w' ⟨h1, h2, h3, hb⟩
  cases hm : s.moves l with
  | true =>
    obtain rfl := h1 hm
    exact ⟨by simp [hearO, hearIs, hearY, hearTk, hearS, hm], by rw [show hearS s l = s.heardMoved l by simp [hearS, hm]]; exact hf.moved hl hm, hb⟩
  | false =>
    cases ht : s.takes l with
    | true =>
      obtain rfl := h2 hm ht
      exact ⟨by simp [hearO, hearIs, hearY, hearTk, hearS, hm, ht], by rw [show hearS s l = s.heardReply by simp [hearS, hm, ht]]; exact hf.reply, hb⟩
    | false =>
      obtain rfl := h3 hm ht
      exact ⟨by simp [hearO, hearIs, hearY, hearTk, hearS, hm, ht], by rw [show hearS s l = s by simp [hearS, hm, ht]]; exact hf.stay, hb⟩
end
end Go.Proofs.Ytakpkedioehjbaa
