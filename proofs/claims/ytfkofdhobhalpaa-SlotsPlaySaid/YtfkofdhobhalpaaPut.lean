/-
  THE WALKS of a row's Put.
-/
import Derived.Test.YtfkofdhobhalpaaJump
namespace Go.Proofs.Ytfkofdhobhalpaa
open Go.RowKit Go.Maps Go.BigFrame

/-- The greatest slot. -/
abbrev far : Int := 4611686018427387904
/-- What Put answers. -/
def putCode (base : Int) (M : Vals) (k : Int) (v : ByteArray) : Int :=
  if 1 ≤ k ∧ k ≤ far then (if k ≤ base then 0 else match M k with | some old => if old = v then 0 else 14 | none => 0) else 2
/-- What it leaves. -/
def putVals (base : Int) (M : Vals) (k : Int) (v : ByteArray) : Vals :=
  if (1 ≤ k ∧ k ≤ far) ∧ base < k ∧ (M k = none ∨ M k = some v) then M.put k v else M
theorem RowAt.mono {w : World} {g m : Nat} {base top : Int} {n : Nat} {M : Vals} (h : RowAt w g m base top n M) {n' : Nat} (hn : n ≤ n') : RowAt w g m base top n' M := by
  obtain ⟨D, hD, hM⟩ := h.map
  exact ⟨h.row, ⟨D, hD.mono hn, hM⟩, h.ne⟩
theorem only_upd {w w' : World} {g m : Nat} (h : w.grownBy w' (some m)) : Only w w' g m := only_grown h

theorem text_inj {s t : ByteArray} (h : s.toList = t.toList) : s = t := by
  rw [ByteArray.toList_eq, ByteArray.toList_eq] at h
  exact ByteArray.ext (Array.toList_inj.1 h)

section
variable {w : World} {g m : Nat} {base top : Int} {n : Nat} {M : Vals}
def PutLeft (g m : Nat) (base top : Int) (n : Nat) (M : Vals) (w : World) (k : Int) (v : ByteArray) (c : Int) (w' : World) : Prop :=
  c = putCode base M k v ∧ RowAt w' g m base top (n + 1) (putVals base M k v) ∧ Only w w' g m

theorem ret_int {a b : Int} (h : a = b) : Ending.returned (.int .i64 a) = .returned (.int .i64 b) := by rw [h]

set_option maxRecDepth 100000 in
set_option maxHeartbeats 1600000 in
theorem put1_any (k : Int) (v : ByteArray) (bs br bv : Nat) (h : RowAt w g m base top n M) (hs : w.cell? ⟨bs, 0, none⟩ = some (.int .u64 k)) (hr : w.cell? ⟨br, 0, none⟩ = some (.pointer (some ⟨g, 0, none⟩))) (hv : w.cell? ⟨bv, 0, none⟩ = some (.string v))
    (h1 : 1 ≤ k) (h2 : k ≤ 4611686018427387904) (hvs : v.size ≤ maxLen) (hn : n < maxLen) :
    Calls Try.prog 30 #[.pointer (some ⟨bs, 0, none⟩), .pointer (some ⟨br, 0, none⟩), .pointer (some ⟨bv, 0, none⟩)] w (Gives (PutLeft g m base top n M w k v)) := by
  have c0 := h.cell0
  have c2 := h.cell2
  have hk : U k := u_iff.2 ⟨by omega, by omega⟩
  have Hh := Lib.hid h
  have Hk := Lib.hid hk
  clear h hk
  by_cases hb : k ≤ base
  · have t0 : decide (k ≤ base) = true := by simpa using hb
    have Hb := Lib.hid hb
    clear hb
    go_enter Try.func30, Try.ntmps30
    go_upto_region 1 with fail
    go_quiet (fail)
    go_wp2_with fail
    go_ret
    have hb := Hb.out
    refine ⟨0, rfl, by simp [putCode, h1, h2, hb], ?_, only_drewN (Only.refl w g m) _⟩
    rw [show putVals base M k v = M by unfold putVals; rw [if_neg (by omega)]]
    exact (Hh.out.drew _).mono (by omega)
  · have t0 : decide (k ≤ base) = false := by simpa using hb
    have Hb := Lib.hid hb
    clear hb
    have hl := fun j => (Hh.out.drew j).look Hk.out
    cases hM : M k with
    | none =>
      rw [hM] at hl
      simp only [Option.getD_none, Option.isSome_none] at hl
      have HM := Lib.hid hM
      clear hM
      go_enter Try.func30, Try.ntmps30
      go_upto_region 1 with fail
      go_quiet (fail)
      go_upto_region 3 with fail
      go_quiet (fail)
      go_upto_region 6 with fail
      refine code_from (fun wd => RowAt wd g m base top n M ∧ wd.cell? ⟨bs, 0, none⟩ = some (.int .u64 k) ∧ wd.cell? ⟨br, 0, none⟩ = some (.pointer (some ⟨g, 0, none⟩)) ∧ wd.cell? ⟨bv, 0, none⟩ = some (.string v) ∧ Only w wd g m)
        ⟨Hh.out.drew _, hs, hr, hv, only_drewN (Only.refl _ _ _) _⟩ ?_
      clear hs hr hv c0 c2 hl
      rintro wd ⟨hrow, hs, hr, hv, ho⟩
      have c2 := hrow.cell2
      have Hrow := Lib.hid hrow
      clear hrow
      refine mix_begin (by kernel_rfl) ?_
      refine mix_piece 0 6 (fun w' => ∃ n, w' = wd.drewN n) (by kernel_rfl) ⟨1, rfl⟩ ?_
      simp only [Nat.reduceSub, List.take_succ_cons, List.take_zero, List.drop_zero]
      repeat (go_big_quiet_step (fail))
      refine wpQuiet_nil ?_
      rintro _ ⟨nr, rfl⟩
      obtain ⟨w', hrun, hst, hgr⟩ := (Hrow.out.drew nr).store Hk.out hvs hn
      have Hst := Lib.hid hst
      have Hgr := Lib.hid hgr
      clear hst hgr
      refine mix_forced 6 rfl (by kernel_rfl) (by kernel_rfl) (fun K hK => ?_)
      go_simp
      refine hK _ _ ?_
      clear hK K hrun
      refine mix_end 7 rfl (by kernel_rfl) ?_
      go_wp2_with fail
      go_ret
      have hb := Hb.out
      have hM := HM.out
      refine ⟨0, rfl, by simp [putCode, h1, h2, hM], ?_, (only_drewN ho nr).trans (only_grown Hgr.out)⟩
      rw [show putVals base M k v = M.put k v by unfold putVals; rw [if_pos ⟨⟨h1, h2⟩, by omega, Or.inl hM⟩]]
      exact Hst.out
    | some old =>
      rw [hM] at hl
      simp only [Option.getD_some, Option.isSome_some] at hl
      have HM := Lib.hid hM
      clear hM
      by_cases hov : old = v
      · have t1 : (old.toList == v.toList) = true := by simp [hov]
        have Hov := Lib.hid hov
        clear hov
        go_enter Try.func30, Try.ntmps30
        go_upto_region 1 with fail
        go_quiet (fail)
        go_upto_region 3 with fail
        go_quiet (fail)
        go_upto_region 6 with fail
        refine code_from (fun wd => RowAt wd g m base top n M ∧ wd.cell? ⟨bs, 0, none⟩ = some (.int .u64 k) ∧ wd.cell? ⟨br, 0, none⟩ = some (.pointer (some ⟨g, 0, none⟩)) ∧ wd.cell? ⟨bv, 0, none⟩ = some (.string v) ∧ Only w wd g m)
          ⟨Hh.out.drew _, hs, hr, hv, only_drewN (Only.refl _ _ _) _⟩ ?_
        clear hs hr hv c0 c2 hl
        rintro wd ⟨hrow, hs, hr, hv, ho⟩
        have c2 := hrow.cell2
        have Hrow := Lib.hid hrow
        clear hrow
        refine mix_begin (by kernel_rfl) ?_
        refine mix_piece 0 6 (fun w' => ∃ n, w' = wd.drewN n) (by kernel_rfl) ⟨1, rfl⟩ ?_
        simp only [Nat.reduceSub, List.take_succ_cons, List.take_zero, List.drop_zero]
        repeat (go_big_quiet_step (fail))
        refine wpQuiet_nil ?_
        rintro _ ⟨nr, rfl⟩
        obtain ⟨w', hrun, hst, hgr⟩ := (Hrow.out.drew nr).store Hk.out hvs hn
        have Hst := Lib.hid hst
        have Hgr := Lib.hid hgr
        clear hst hgr
        refine mix_forced 6 rfl (by kernel_rfl) (by kernel_rfl) (fun K hK => ?_)
        go_simp
        refine hK _ _ ?_
        clear hK K hrun
        refine mix_end 7 rfl (by kernel_rfl) ?_
        go_wp2_with fail
        go_ret
        have hb := Hb.out
        have hM := HM.out
        have hov := Hov.out
        subst hov
        refine ⟨0, rfl, by simp [putCode, h1, h2, hM], ?_, (only_drewN ho nr).trans (only_grown Hgr.out)⟩
        rw [show putVals base M k old = M.put k old by unfold putVals; rw [if_pos ⟨⟨h1, h2⟩, by omega, Or.inr hM⟩]]
        exact Hst.out
      · have t1 : (old.toList == v.toList) = false := by
          rw [beq_eq_false_iff_ne]
          exact fun e => hov (text_inj e)
        have Hov := Lib.hid hov
        clear hov
        go_enter Try.func30, Try.ntmps30
        go_upto_region 1 with fail
        go_quiet (fail)
        go_upto_region 3 with fail
        go_quiet (fail)
        go_wp2_with fail
        go_ret
        have hb := Hb.out
        have hM := HM.out
        have hov := Hov.out
        refine ⟨14, rfl, by simp [putCode, h1, h2, hb, hM, hov], ?_, only_drewN (Only.refl w g m) _⟩
        rw [show putVals base M k v = M by
          unfold putVals
          rw [if_neg]
          rintro ⟨_, _, h | h⟩
          · rw [hM] at h; cases h
          · rw [hM] at h; exact hov (Option.some.inj h)]
        exact (Hh.out.drew _).mono (by omega)

theorem eg_put : ∀ args w, (callFunc 30 args).run Try.prog w = .ok (.enter 30 args) w := enters_of Try.func30 (by kernel_rfl) rfl

def PutGoes (g m : Nat) (base top : Int) (n : Nat) (M : Vals) (w : World) (k : Int) (v : ByteArray) (r : Ending) (w' : World) : Prop :=
  r = .returned (.int .i64 (putCode base M k v)) ∧ RowAt w' g m base top (n + 1) (putVals base M k v) ∧ Only w w' g m

theorem new3_0 (w : World) (A B C : Obj) : (((w.alloc A).alloc B).alloc C).heap[w.heap.size]? = some A := (Below.heap_alloc ((w.alloc A).alloc B) C w.heap.size (by simp; omega)).trans (heap_alloc2_old w A B)
theorem new3_1 (w : World) (A B C : Obj) : (((w.alloc A).alloc B).alloc C).heap[w.heap.size + 1]? = some B := (Below.heap_alloc ((w.alloc A).alloc B) C (w.heap.size + 1) (by simp)).trans (heap_alloc2_new w A B)
theorem new3_2 (w : World) (A B C : Obj) : (((w.alloc A).alloc B).alloc C).heap[w.heap.size + 2]? = some C := by
  have h := heap_alloc_new ((w.alloc A).alloc B) C
  rw [show ((w.alloc A).alloc B).heap.size = w.heap.size + 2 by simp] at h
  exact h

set_option maxRecDepth 100000 in
set_option maxHeartbeats 1600000 in
theorem put_any (k : Int) (v : ByteArray) (h : RowAt w g m base top n M) (hk0 : 0 ≤ k) (hvs : v.size ≤ maxLen) (hn : n < maxLen) :
    Calls Try.prog 12 #[.pointer (some ⟨g, 0, none⟩), .int .u64 k, .string v] w (PutGoes g m base top n M w k v) := by
  have hlt := h.lt
  have hmt := h.mlt
  go_enter Try.func12, Try.ntmps12
  go_upto_region 1 with fail
  refine code_from (fun wd => wd.cell? ⟨w.heap.size, 0, none⟩ = some (.pointer (some ⟨g, 0, none⟩)) ∧ wd.cell? ⟨w.heap.size + 1, 0, none⟩ = some (.int .u64 k) ∧ wd.cell? ⟨w.heap.size + 2, 0, none⟩ = some (.string v) ∧ RowAt wd g m base top n M ∧ Only w wd g m)
    ⟨cell_of_row _ _ 0 _ _ _ (new3_0 w _ _ _), cell_of_row _ _ 0 _ _ _ (new3_1 w _ _ _), cell_of_row _ _ 0 _ _ _ (new3_2 w _ _ _), ((h.alloc _).alloc _).alloc _, only_alloc (only_alloc (only_alloc (Only.refl _ _ _) _) _) _⟩ ?_
  rintro wd ⟨hp, hs, hv, hr, ho⟩
  have Hr := Lib.hid hr
  have Ho := Lib.hid ho
  clear h hr ho
  by_cases hk1 : k = 0
  · have t0 : (k == 0) = true := by simpa using hk1
    have Hk := Lib.hid hk1
    clear hk1
    go_wp2_with fail
    refine (with_bad ⟨g, 0, none⟩ k _ _).mono ?_
    rintro e w1 ⟨rfl, rfl⟩
    go_wp2_with fail
    go_ret
    have hk1 := Hk.out
    refine ⟨ret_int (by simp [putCode, hk1]), ?_, Ho.out⟩
    rw [show putVals base M k v = M by unfold putVals; rw [if_neg (by omega)]]
    exact Hr.out.mono (by omega)
  · have t0 : (k == 0) = false := by simpa using hk1
    have hk2 : 1 ≤ k := by omega
    clear hk1
    by_cases hf : k ≤ 4611686018427387904
    · go_wp2_with fail
      refine (with_run ⟨g, 0, none⟩ k _ _ _ _ hf eg_put (put1_any k v (w.heap.size + 1) w.heap.size (w.heap.size + 2) Hr.out hs hp hv hk2 hf hvs hn)).mono ?_
      rintro e w1 ⟨c, rfl, rfl, hr, ho⟩
      have Hr1 := Lib.hid hr
      have Ho1 := Lib.hid ho
      clear hr ho
      go_wp2_with fail
      go_ret
      exact ⟨rfl, Hr1.out, Ho.out.trans Ho1.out⟩
    · go_wp2_with fail
      refine (with_far ⟨g, 0, none⟩ k _ _ _ (by omega)).mono ?_
      rintro e w1 ⟨rfl, rfl⟩
      go_wp2_with fail
      go_ret
      refine ⟨ret_int (by unfold putCode; rw [if_neg (by unfold far; omega)]), ?_, Ho.out⟩
      rw [show putVals base M k v = M by unfold putVals; rw [if_neg (by unfold far; omega)]]
      exact Hr.out.mono (by omega)
end
end Go.Proofs.Ytfkofdhobhalpaa
