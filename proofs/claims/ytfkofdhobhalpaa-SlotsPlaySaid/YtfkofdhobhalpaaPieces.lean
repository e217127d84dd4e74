/-
  THE WALK of the law SlotsRows.
-/
import Derived.Test.YtfkofdhobhalpaaActs
namespace Go.Proofs.Ytfkofdhobhalpaa
open Go.RowKit Go.Maps Go.BigFrame

/-- A row behind k acts. -/
def Behind (w : World) (g m : Nat) (k : Nat) (wr : World) : Prop := ∃ (base top : Int) (n : Nat) (M : Vals), Inv base top n k M ∧ RowAt wr g m base top n M ∧ Below w.heap.size w wr
theorem behind_next {w w1 w2 : World} {g m k : Nat} {base top : Int} {n : Nat} {M : Vals} {r : Ending} (hI : Inv base top n k M) (hb : Below w.heap.size w w1) (hg : w.heap.size ≤ g) (hm : w.heap.size ≤ m) (h : NextGoes g m base top n M w1 r w2) :
    (∃ v, r = .returned v) ∧ Behind w g m (k + 1) w2 := by
  obtain ⟨hno, hyes, ho⟩ := h
  have hb2 := below_only hb ho hg hm
  cases hM : M (top + 1) with
  | none =>
    obtain ⟨he, hr⟩ := hno hM
    exact ⟨⟨_, he⟩, base, top, n, M, hI.more, hr, hb2⟩
  | some v =>
    obtain ⟨he, hr⟩ := hyes v hM
    exact ⟨⟨_, he⟩, base, top + 1, n, M, inv_next hI hM, hr, hb2⟩
theorem behind_keep {w w1 w2 : World} {g m k : Nat} {base top : Int} {n : Nat} {M : Vals} {u c : Int} (hI : Inv base top n k M) (hb : Below w.heap.size w w1) (hg : w.heap.size ≤ g) (hm : w.heap.size ≤ m) (h : KeepGoes g m base top n M w1 u c w2) :
    Behind w g m (k + 1) w2 := by
  obtain ⟨hno, hyes, ho⟩ := h
  have hb2 := below_only hb ho hg hm
  by_cases h1 : u ≤ 4611686018427387904 ∧ u ≤ top
  · obtain ⟨_, ha, hc⟩ := hyes h1.1 h1.2
    by_cases h2 : base < u
    · exact ⟨u, top, n, _, inv_keep hI h1.2 h2, ha h2, hb2⟩
    · exact ⟨base, top, n, M, hI.more, hc (by omega), hb2⟩
  · obtain ⟨_, hr⟩ := hno h1
    exact ⟨base, top, n, M, hI.more, hr, hb2⟩

theorem behind_put {w w1 w2 : World} {g m k : Nat} {base top : Int} {n : Nat} {M : Vals} {s : Int} {v : ByteArray} {r : Ending} (hI : Inv base top n k M) (hb : Below w.heap.size w w1) (hg : w.heap.size ≤ g) (hm : w.heap.size ≤ m) (h : PutGoes g m base top n M w1 s v r w2) :
    Behind w g m (k + 1) w2 := ⟨base, top, n + 1, _, inv_put hI, h.2.1, below_only hb h.2.2 hg hm⟩

theorem add_plain (b i j : Nat) : (⟨b, i, none⟩ : Addr).add j = ⟨b, i + j, none⟩ := by unfold Addr.add; split <;> simp_all
/-- Items lie in a slice's row. -/
def Lies (w : World) (ad : Option Addr) (l : List Item) : Prop := ∀ (i : Nat) (x : Item), l[i]? = some x → ∃ g, ad = some ⟨g, 0, none⟩ ∧ w.cell? ⟨g, i * 2, none⟩ = some (.int .u64 x.1) ∧ w.cell? ⟨g, i * 2 + 1, none⟩ = some (.string x.2)
theorem cellsOf_get : ∀ (l : List Item) (i : Nat) (x : Item), l[i]? = some x → (cellsOf l)[i * 2]? = some (.int .u64 x.1) ∧ (cellsOf l)[i * 2 + 1]? = some (.string x.2)
  | [], i, x, h => by cases h
  | y :: l, 0, x, h => by cases h; exact ⟨rfl, rfl⟩
  | y :: l, i + 1, x, h => by
    have h2 := cellsOf_get l i x h
    have e : cellsOf (y :: l) = .int .u64 y.1 :: .string y.2 :: cellsOf l := rfl
    rw [e, show (i + 1) * 2 = i * 2 + 2 by omega]
    exact h2
theorem rows_lies {w : World} {B : Nat} {v : Value} {l : List Item} (h : Rows' w B v l) : ∃ ad cap, v = .slice ad l.length cap ∧ Lies w ad l := by
  have hc := fun g hg => World.ownsRow.cells h (g := g) hg
  obtain ⟨hlen, h2⟩ := h
  rcases h2 with ⟨rfl, hn⟩ | ⟨g, cap, cur, rfl, hrest⟩
  · rw [hn]
    refine ⟨none, 0, rfl, fun i x hx => ?_⟩
    have : l = [] := List.length_eq_zero_iff.1 hn
    subst this
    cases hx
  · refine ⟨_, cap, rfl, fun i x hx => ⟨g, rfl, ?_, ?_⟩⟩
    · have h1 := hc g rfl (i * 2) _ (cellsOf_get l i x hx).1
      rwa [add_plain, Nat.zero_add] at h1
    · have h1 := hc g rfl (i * 2 + 1) _ (cellsOf_get l i x hx).2
      rwa [add_plain, Nat.zero_add] at h1
theorem Lies.below {w w' : World} {ad : Option Addr} {l : List Item} (h : Lies w ad l) (hb : Below w.heap.size w w') : Lies w' ad l := fun i x hx => by
  obtain ⟨g, e, c0, c1⟩ := h i x hx
  exact ⟨g, e, (hb.cell (World.block_lt_of_cell? w _ c0)).trans c0, (hb.cell (World.block_lt_of_cell? w _ c1)).trans c1⟩
theorem Lies.drew {w : World} {ad : Option Addr} {l : List Item} (h : Lies w ad l) (k : Nat) : Lies (w.drewN k) ad l := h
theorem itemsFrom_get (M : Vals) (s : Int) (c i : Nat) (h : i < c) : (itemsFrom M s c)[i]? = some (s + (i : Int), (M (s + (i : Int))).getD ByteArray.empty) := by
  simp [itemsFrom, h]
theorem drawn {B : Nat} {a w : World} (h : Below B a w) (n : Nat) : Below B a (w.drewN n) := ⟨h.os, h.tape, h.output, h.size, h.block⟩

set_option maxRecDepth 100000 in
set_option maxHeartbeats 3200000 in
theorem rows_go (v : Value) (L : List Deed) (p : Int) (w : World) (hv : Deeds w v L) (hp0 : 0 ≤ p) (hp1 : p < 256) :
    Calls Try.prog 3 #[v, .int .u8 p] w fun r w' => r = .returned (.bool true) ∧ Below w.heap.size w w' := by
  have HG := Lib.hid (great_deeds hv)
  obtain ⟨a0, cap, rfl, hL, hfit, hn⟩ := deeds_form hv
  have HL := Lib.hid hL
  have HF := Lib.hid hfit
  clear hv hL hfit
  go_enter Try.func3, Try.ntmps3
  go_wp2_with fail
  refine HG.out.mono ?_
  rintro e w1 ⟨⟨b, rfl, hb⟩, rfl⟩
  cases b with
  | true =>
    clear hb
    go_wp2_with fail
    refine (wakes_any _).mono ?_
    rintro e w' ⟨rfl, hb⟩
    go_wp2_with fail
    go_ret
    exact ⟨rfl, hb⟩
  | false =>
    have h200 := hb rfl
    clear hb hn
    go_wp2_with fail
    refine (new_yes 0 _ (by decide)).mono ?_
    rintro e w2 ⟨rfl, hr2, hb2⟩
    generalize hg : w.heap.size + 1 = g at *
    generalize hm : w.heap.size = m at hr2
    have hg0 : w.heap.size ≤ g := by omega
    have hm0 : w.heap.size ≤ m := by omega
    have hgm : m + 1 = g := by omega
    clear hg hm
    have hB : Behind w g m 0 w2 := ⟨0, 0, 0, _, inv_start (by decide) (by decide), hr2, hb2⟩
    clear hr2 hb2
    go_wp2_with fail
    go_loopg [7] L.length (fun z s7 wr => ∃ k : Nat, k ≤ L.length ∧ z = L.length - k ∧ s7 = .int .i64 (k : Int) ∧ Behind w g m k wr)
    case atStart => exact ⟨0, by omega, by omega, rfl, hB⟩
    case round =>
      clear hB w2
      obtain ⟨k, hk, rfl, rfl, hB⟩ := hrel
      by_cases hlt : k < L.length
      · obtain ⟨base, top, n, M, hI, hr, hbel⟩ := hB
        obtain ⟨a, rfl, hLa⟩ := HL.out k hlt
        have hd : L[k]? = some L[k] := List.getElem?_eq_getElem hlt
        have fd := HF.out L[k] (List.getElem_mem hlt)
        generalize L[k] = d at hd fd
        have hD := deeds_below hLa hbel k d hd
        generalize hq : a.add (k * 3) = q
        obtain ⟨qb, qo, qs⟩ := q
        have d0 := deed_head hD hq
        have d1 : wr.cell? ⟨qb, qo + 1, none⟩ = some (.int .u64 d.slot) := deed_cell hD hq 0 (by omega) rfl
        have d2 : wr.cell? ⟨qb, qo + 2, none⟩ = some (.string d.value) := deed_cell hD hq 1 (by omega) rfl
        clear hd hD hLa
        have hI0 := hI.b0
        have hI1 := hI.bt
        have hI2 := hI.t1
        have hI3 := hI.nk
        have HI := Lib.hid hI
        have Hfd := Lib.hid fd
        clear hI fd
        by_cases ha0 : d.act = 0
        · have t0 : (d.act == 0) = true := by simp [ha0]
          clear ha0
          go_wp2_with fail
          refine (next_any g m base top n M _ hr (by omega) hI2).mono ?_
          intro e w3 hgo
          obtain ⟨⟨v, rfl⟩, hB⟩ := behind_next HI.out hbel hg0 hm0 hgo
          clear hgo hr hbel d0 d1 d2
          go_wp2_with fail
          go_roundg (L.length - (k + 1))
          case measure => omega
          case rel => exact ⟨k + 1, by omega, rfl, by go_num, hB⟩
        · have t0 : (d.act == 0) = false := by simp [ha0]
          clear ha0
          by_cases ha1 : d.act = 1
          · have t1 : (d.act == 1) = true := by simp [ha1]
            clear ha1
            go_wp2_with fail
            refine (keep_any d.slot hr).mono ?_
            rintro e w3 ⟨c, rfl, hgo⟩
            have hB := behind_keep HI.out hbel hg0 hm0 hgo
            clear hgo hr hbel d0 d1 d2
            go_wp2_with fail
            go_roundg (L.length - (k + 1))
            case measure => omega
            case rel => exact ⟨k + 1, by omega, rfl, by go_num, hB⟩
          · have t1 : (d.act == 1) = false := by simp [ha1]
            clear ha1
            go_upto_region 10 with fail
            have hv := Hfd.out.value
            have hs0 := (u_iff.1 Hfd.out.slot).1
            have Hr := Lib.hid hr
            clear hr
            refine mix_begin (by kernel_rfl) ?_
            refine mix_piece 0 11 (fun w' => ∃ n, w' = wr.drewN n) (by kernel_rfl) ⟨1, rfl⟩ ?_
            simp only [Nat.reduceSub, List.take_succ_cons, List.take_zero, List.drop_zero]
            repeat (go_big_quiet_step (fail))
            refine wpQuiet_nil ?_
            rintro _ ⟨nq, rfl⟩
            refine mix_forced 11 rfl (by kernel_rfl) (by kernel_rfl) (fun K hK => ?_)
            go_simp
            refine (put_any d.slot d.value (Hr.out.drew nq) hs0 hv (by unfold maxLen; omega)).mono ?_
            intro e w3 hgo
            have hB := behind_put HI.out (drawn hbel nq) hg0 hm0 hgo
            obtain ⟨rfl, _⟩ := hgo
            clear hbel d0 d1 d2 Hr
            refine hK _ _ ?_
            clear hK K
            refine mix_end 12 rfl (by kernel_rfl) ?_
            go_wp2_with fail
            go_roundg (L.length - (k + 1))
            case measure => omega
            case rel => exact ⟨k + 1, by omega, rfl, by go_num, hB⟩
      · obtain ⟨base, top, n, M, hI, hr, hbel⟩ := hB
        have hI0 := hI.b0
        have hI1 := hI.bt
        have hI2 := hI.t1
        have hI3 := hI.tk
        clear hI
        go_wp2_with fail
        refine (items_any 0 1000 hr hI0 hI1 hI2 (by omega) (by decide) (by decide)).mono ?_
        rintro e w3 ⟨⟨v, rfl, hv⟩, hb2⟩
        obtain ⟨ad, cp, rfl, hl⟩ := rows_lies hv
        obtain ⟨N, hN⟩ : ∃ N : Nat, (N : Int) = top - base := ⟨(top - base).toNat, by omega⟩
        rw [itemsFrom_len, show howMany base top 0 1000 = N by unfold howMany; omega]
        rw [show howMany base top 0 1000 = N by unfold howMany; omega, show max (0 : Int) (base + 1) = base + 1 by omega] at hl
        replace hr := hr.below hb2 (Nat.le_refl _)
        replace hbel := hbel.trans (hb2.mono hbel.size)
        clear hb2 hv wr
        go_wp2_with fail
        refine (top_any hr).mono ?_
        rintro e w4 ⟨rfl, rfl⟩
        go_wp2_with fail
        refine (base_any hr).mono ?_
        rintro e w4 ⟨rfl, rfl⟩
        have tN : ((N : Int) != top - base) = false := by simp [hN]
        go_wp2_with fail
        refine (base_any hr).mono ?_
        rintro e w4 ⟨rfl, rfl⟩
        go_wp2_with fail
        have hp2 : 1 ≤ 1 + p % 7 := by omega
        have hp3 : 1 + p % 7 ≤ 7 := by omega
        go_loopg [10, 11] N (fun z s10 s11 wr => ∃ t : Nat, t ≤ N ∧ z = N - t ∧ s10 = .int .i64 (t : Int) ∧ s11 = .int .u64 (base + 1 + (t : Int)) ∧ RowAt wr g m base top n M ∧ Lies wr ad (itemsFrom M (base + 1) N) ∧ Below w.heap.size w wr)
        case atStart => exact ⟨0, by omega, by omega, rfl, by simp, hr, hl, hbel⟩
        case round =>
          clear hr hl hbel
          obtain ⟨t, ht, rfl, rfl, rfl, hr, hl, hbel⟩ := hrel
          by_cases hlt2 : t < N
          · go_wp2_with fail
            refine (top_any hr).mono ?_
            rintro e w4 ⟨rfl, rfl⟩
            go_wp2_with fail
            refine (items_any (base + 1 + (t : Int)) (1 + p % 7) hr hI0 hI1 hI2 (by omega) (by omega) (by omega)).mono ?_
            rintro e w5 ⟨⟨v, rfl, hv⟩, hb2⟩
            obtain ⟨ad2, cp2, rfl, hl2⟩ := rows_lies hv
            obtain ⟨c, hc⟩ : ∃ c : Nat, (c : Int) = min (top + 1 - (base + 1 + (t : Int))) (1 + p % 7) := ⟨(min (top + 1 - (base + 1 + (t : Int))) (1 + p % 7)).toNat, by omega⟩
            rw [itemsFrom_len, show howMany base top (base + 1 + (t : Int)) (1 + p % 7) = c by unfold howMany; omega]
            rw [show howMany base top (base + 1 + (t : Int)) (1 + p % 7) = c by unfold howMany; omega, show max (base + 1 + (t : Int)) (base + 1) = base + 1 + (t : Int) by omega] at hl2
            have hc1 : 1 ≤ c := by omega
            have hc2 : (c : Int) ≤ 1 + p % 7 := by omega
            have hc3 : t + c ≤ N := by omega
            replace hr := hr.below hb2 (Nat.le_refl _)
            replace hl := hl.below hb2
            replace hbel := hbel.trans (hb2.mono hbel.size)
            clear hb2 hv hc
            have tc : ((c : Int) == 0) = false := by rw [beq_eq_false_iff_ne]; omega
            go_wp2_with fail
            go_loopg [10, 11, 13] c (fun z s10 s11 s13 wx => ∃ i : Nat, i ≤ c ∧ z = c - i ∧ s10 = .int .i64 ((t : Int) + (i : Int)) ∧ s11 = .int .u64 (base + 1 + (t : Int) + (i : Int)) ∧ s13 = .int .i64 (i : Int) ∧ RowAt wx g m base top n M ∧ Lies wx ad (itemsFrom M (base + 1) N) ∧
              Lies wx ad2 (itemsFrom M (base + 1 + (t : Int)) c) ∧ Below w.heap.size w wx)
            case atStart => exact ⟨0, by omega, by omega, by simp, by simp, rfl, hr, hl, hl2, hbel⟩
            case round =>
              clear hr hl hl2 hbel
              obtain ⟨i, hi, rfl, rfl, rfl, rfl, hr, hl, hl2, hbel⟩ := hrel
              by_cases hlt3 : i < c
              · obtain ⟨gA, hadA, a0, a1⟩ := hl (t + i) _ (itemsFrom_get M (base + 1) N (t + i) (by omega))
                obtain ⟨gS, hadS, s0, s1⟩ := hl2 i _ (itemsFrom_get M (base + 1 + (t : Int)) c i hlt3)
                subst hadA hadS
                have e1 : base + 1 + ((t + i : Nat) : Int) = base + 1 + (t : Int) + (i : Int) := by push_cast; omega
                rw [e1] at a0 a1
                dsimp only at a0 a1 s0 s1
                generalize (M (base + 1 + (t : Int) + (i : Int))).getD ByteArray.empty = u at a0 a1 s0 s1
                clear e1
                have Hr := Lib.hid hr
                have Hl := Lib.hid hl
                have Hl2 := Lib.hid hl2
                clear hr hl hl2
                have hgi := guard_item
                have hne : ∀ wx, (binOp .neq 33 (.agg #[.int .u64 (base + 1 + (t : Int) + (i : Int)), .string u]) (.agg #[.int .u64 (base + 1 + (t : Int) + (i : Int)), .string u])).run Try.prog wx = .ok (.bool false) wx := fun wx => by rw [ne_item, same_self]; rfl
                go_upto_region 28 with fail
                have tg : decide (top - base ≤ (t : Int) + (i : Int)) = false := by simp; omega
                go_quiet (fail)
                go_wp2_with fail
                go_roundg (c - (i + 1))
                case measure => omega
                case rel => exact ⟨i + 1, by omega, rfl, by go_num, by go_num, by go_num, Hr.out.drew _, Hl.out.drew _, Hl2.out.drew _, drawn hbel _⟩
              · have hic : i = c := by omega
                subst hic
                go_wp2_with fail
                go_roundg (N - (t + i))
                case measure => omega
                case rel => exact ⟨t + i, by omega, rfl, by go_num, by go_num, hr, hl, hbel⟩
          · have htN : t = N := by omega
            subst htN
            have tt : ((t : Int) == (t : Int)) = true := by simp
            go_wp2_with fail
            refine (top_any hr).mono ?_
            rintro e w4 ⟨rfl, rfl⟩
            go_wp2_with fail
            refine (top_any hr).mono ?_
            rintro e w4 ⟨rfl, rfl⟩
            go_wp2_with fail
            refine (items_any (top + 1) 9 hr hI0 hI1 hI2 (by omega) (by omega) (by omega)).mono ?_
            rintro e w5 ⟨⟨v, rfl, hv⟩, hb2⟩
            obtain ⟨ad2, cp2, rfl, hl2⟩ := rows_lies hv
            rw [itemsFrom_len, show howMany base top (top + 1) 9 = 0 by unfold howMany; omega]
            replace hbel := hbel.trans (hb2.mono hbel.size)
            clear hb2 hv hl2
            go_wp2_with fail
            refine (wakes_any _).mono ?_
            rintro e w' ⟨rfl, hb⟩
            go_wp2_with fail
            go_ret
            exact ⟨rfl, hbel.trans (hb.mono hbel.size)⟩
end Go.Proofs.Ytfkofdhobhalpaa
