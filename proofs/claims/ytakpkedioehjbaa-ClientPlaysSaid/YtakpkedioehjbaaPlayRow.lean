/-
  ClientPlays: whatever a client is asked, it answers, and waits, as the reference does; the call answers true.
-/
import Derived.Test.YtakpkedioehjbaaPlayB
import Derived.Test.YtakpkedioehjbaaOnceNo
namespace Go.Proofs.Ytakpkedioehjbaa
open Go.ChangeShapes Go.WideShapes Go.ChangeAt Go.RowKit

set_option maxRecDepth 100000 in
set_option maxHeartbeats 1600000 in
theorem plays_no (id n : Int) (v : Value) (D : List Deed) (w : World) (hv : Deeds w v D) (h : ¬ (id < 4 ∧ 1 ≤ n ∧ n ≤ 7)) :
    Calls Try.prog 3 #[.int .u8 id, .int .i64 n, v] w fun r w' => r = .returned (.bool true) ∧ Below w.heap.size w w' := by
  have hg := great_deeds hv
  have Hg := Lib.hid hg
  clear hg hv
  have hd : decide (id < 4 ∧ 1 ≤ n ∧ n ≤ 7) = false := decide_eq_false h
  have Hd := Lib.hid hd
  have Hn := Lib.hid h
  clear hd h
  go_enter Try.func3, Try.ntmps3
  go_wp2_with fail
  refine Hg.out.mono ?_
  rintro e w1 ⟨⟨b, rfl, hb⟩, hbel⟩
  clear hb
  cases b with
  | true =>
    go_wp2_with fail
    refine (wakes_any _).mono ?_
    rintro e w' ⟨rfl, hb⟩
    go_wp2_with fail
    go_ret
    exact ⟨rfl, hbel.trans (hb.mono hbel.size)⟩
  | false =>
    go_wp2_with fail
    refine (new_no id n _ Hn.out).mono ?_
    rintro e w2 ⟨rfl, rfl⟩
    go_wp2_with fail
    refine (refMay_any id n _).mono ?_
    rintro e w3 ⟨rfl, rfl⟩
    rw [Hd.out]
    go_wp2_with fail
    refine (wakes_any _).mono ?_
    rintro e w' ⟨rfl, hb⟩
    go_wp2_with fail
    go_ret
    exact ⟨rfl, hbel.trans (hb.mono hbel.size)⟩

set_option maxRecDepth 100000 in
set_option maxHeartbeats 1600000 in
theorem plays_none (id n : Int) (w : World) (hid0 : 0 ≤ id) (h1 : id < 4) (h2 : 1 ≤ n) (h3 : n ≤ 7) :
    Calls Try.prog 3 #[.int .u8 id, .int .i64 n, .slice none 0 0] w fun r w' => r = .returned (.bool true) ∧ Below w.heap.size w w' := by
  go_enter Try.func3, Try.ntmps3
  go_wp2_with fail
  refine (great_none _).mono ?_
  rintro e w1 ⟨rfl, rfl⟩
  go_wp2_with fail
  refine (new_yes id n _ hid0 h1 h2 h3).mono ?_
  rintro e w2 ⟨rfl, hs2, hb2⟩
  clear hs2
  go_wp2_with fail
  refine (refMay_any id n _).mono ?_
  rintro e w3 ⟨rfl, rfl⟩
  rw [decide_eq_true (show id < 4 ∧ 1 ≤ n ∧ n ≤ 7 from ⟨h1, h2, h3⟩)]
  go_wp2_with fail
  refine (refNew_any id n _ hid0 h1 h2 h3).mono ?_
  rintro e w4 ⟨rfl, hb4⟩
  have hbel4 := hb2.trans (hb4.mono hb2.size)
  clear hb4 hb2
  go_upto_region 9 with (refine wpList_store_row (P := Try.prog) rfl 32 (.tmp 9) (.tmp 57) rfl w4.heap.size (rcells (St.new id n) none 0 0) rfl rfl 32 _ (heap_alloc_new w4 _) (size_ref _ _ _ _) rfl (one_ref _ _ _ _) ?_)
  refine code_from (fun wd => Below w.heap.size w wd) (old_below hbel4 _ _) ?_
  clear hbel4
  rintro wd hbel
  go_wp2_with fail
  go_loopg [10] 0 (fun z s10 wr => s10 = .int .i64 0 ∧ Below w.heap.size w wr)
  case atStart => exact ⟨rfl, hbel⟩
  case round =>
    clear hbel
    obtain ⟨rfl, hbel⟩ := hrel
    go_wp2_with fail
    refine (wakes_any _).mono ?_
    rintro e w' ⟨rfl, hb⟩
    go_wp2_with fail
    go_ret
    exact ⟨rfl, hbel.trans (hb.mono hbel.size)⟩

theorem plays_any (id n : Int) (v : Value) (D : List Deed) (w : World) (hi : (Lit.int .u8 id).wf = true) (hv : Deeds w v D) :
    Calls Try.prog 3 #[.int .u8 id, .int .i64 n, v] w fun r w' => r = .returned (.bool true) ∧ Below w.heap.size w w' := by
  by_cases h : id < 4 ∧ 1 ≤ n ∧ n ≤ 7
  · cases hv with
    | none => exact plays_none id n w (u8_low hi).1 h.1 h.2.1 h.2.2
    | some a D cap hL hf hn => exact plays_go id n D a cap w hL hn hf (u8_low hi).1 h.1 h.2.1 h.2.2
  · exact plays_no id n v D w hv h

set_option maxRecDepth 100000 in
theorem plays_lifted (os : Os) (started : os.Started) (H : Type) (enc : TypeId × Value → H) :
    ReturnsInHanded {} Try.checked os 3 .any (Rows.clientPlaysSpec.pre6 enc Try.prog Try.f3 Rows.clientPlaysRow.domain false) (Rows.clientPlaysSpec.post enc Try.prog Try.f3 false true false false) := by
  refine returnsInHanded_of_change (C := Try.checked) Try.own started (by kernel_rfl) Try.func3
    (ChangeSpec.witness6 (enc := enc) (C := Try.checked) false ⟨#[], #[.int .u8 0, .int .i64 0, .slice none 0 0], []⟩ 8 (by kernel_rfl) (by kernel_rfl) (by kernel_rfl) (by kernel_rfl)) ?_
  intro W base args ds gs before hval0 hW hcnd _
  have hval : ∀ (j : Nat) t v, Try.f3.params[j]? = some t → args[j]? = some v → Value.okWide Try.prog W .any base t v := hval0
  have hW' := hW
  obtain ⟨p, q, hA0, hV, rfl, hfz, hnd⟩ := hW
  have hA : DataW.TrodAll enc Try.prog W 0 (fun _ => true) true Try.f3.params.toList args.toList ds p := hA0
  rw [Try.params3] at hA hval
  obtain ⟨v0, v1, v2, d0, d1, d2, p0, p1, p2, rfl, rfl, rfl, h0, h1, h2⟩ := trodAll_three hA
  obtain ⟨a, rfl, rfl, rfl, wa⟩ := open_int Try.underlying5 (hval 0 5 v0 rfl rfl) h0
  obtain ⟨n, rfl, rfl, rfl, wn⟩ := open_int Try.underlying3 (hval 1 3 v1 rfl rfl) h1
  obtain ⟨L, hL⟩ := open_deeds (hval 2 22 v2 rfl rfl) h2
  refine (plays_any a n v2 L W wa hL).mono fun e W' ⟨he, hw⟩ => ?_
  subst he
  exact ⟨_, rfl, law_post Try.laidOut Try.underlying4 (by kernel_rfl) (by kernel_rfl) rfl hW' rfl hw⟩

theorem plays_holds : Rows.ClientPlaysSaid :=
  OpenClaim.holds_of_wide 3 Try.f3 rfl rfl rfl rfl rfl rfl rfl ⟨rfl, rfl, rfl, rfl, rfl⟩ rfl rfl rfl rfl rfl (by kernel_rfl) Try.func3 (by kernel_rfl)
    (of_decide_eq_true (by kernel_rfl)) (by unfold Func.isWrapper; rw [if_neg (of_decide_eq_false (by kernel_rfl))]; exact ⟨rfl, rfl⟩)
    (fun os started H enc _ => plays_lifted os started H enc)
#print axioms plays_holds
end Go.Proofs.Ytakpkedioehjbaa
