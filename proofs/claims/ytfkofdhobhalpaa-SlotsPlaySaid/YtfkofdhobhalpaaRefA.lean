/-
  THE WALKS of the reference row's May, Get, Last, and of Same.
-/
import Derived.Test.YtfkofdhobhalpaaFirst
import Derived.Test.YtfkofdhobhalpaaMixL
namespace Go.Proofs.Ytfkofdhobhalpaa
open Go.RowKit Go.Maps Go.BigFrame

/-- The reference's row, by value. -/
abbrev refCells (base top : Int) (ad : Option Addr) (n cap : Nat) : Array Value := #[.int .u64 base, .int .u64 top, .slice ad n cap]
/-- The value of a slot among items. -/
def refGet (l : List Item) (k : Int) : Option ByteArray := (l.find? fun x => x.1 == k).map (·.2)
theorem refGet_hit {l : List Item} {k : Int} {x : Item} {j : Nat} (hx : l[j]? = some x) (h : (x.1 == k) = true) : refGet (l.drop j) k = some x.2 := by
  have hd : l.drop j = x :: l.drop (j + 1) := by
    obtain ⟨hlt, he⟩ := List.getElem?_eq_some_iff.1 hx
    rw [List.drop_eq_getElem_cons hlt, he]
  unfold refGet
  rw [hd]
  simp only [List.find?_cons, h, Option.map_some]
theorem refGet_miss {l : List Item} {k : Int} {x : Item} {j : Nat} (hx : l[j]? = some x) (h : (x.1 == k) = false) : refGet (l.drop j) k = refGet (l.drop (j + 1)) k := by
  have hd : l.drop j = x :: l.drop (j + 1) := by
    obtain ⟨hlt, he⟩ := List.getElem?_eq_some_iff.1 hx
    rw [List.drop_eq_getElem_cons hlt, he]
  unfold refGet
  rw [hd]
  simp only [List.find?_cons, h]

theorem ret_u64 {a b : Int} (h : a = b) : Ending.returned (.int .u64 a) = .returned (.int .u64 b) := by rw [h]
/-- What Get says. -/
def GetSays (l : List Item) (k : Int) (r : Ending) : Prop := r = .returned (.tuple #[.string ((refGet l k).getD ByteArray.empty), .bool (refGet l k).isSome])

set_option maxRecDepth 100000 in
set_option maxHeartbeats 800000 in
theorem refMay_any (k : Int) (w : World) (h0 : 0 ≤ k) : Calls Try.prog 33 #[.int .u64 k] w fun r w' => r = .returned (.bool (decide (1 ≤ k ∧ k ≤ far))) ∧ w = w' := by
  by_cases h1 : 1 ≤ k
  · by_cases h2 : k ≤ 4611686018427387904
    · go_enter Try.func33, Try.ntmps33
      go_wp2_with fail
      go_ret
      exact ⟨by simp [far, h1, h2], rfl⟩
    · go_enter Try.func33, Try.ntmps33
      go_wp2_with fail
      go_ret
      exact ⟨by simp [far]; omega, rfl⟩
  · go_enter Try.func33, Try.ntmps33
    go_wp2_with fail
    go_ret
    exact ⟨by simp; omega, rfl⟩

set_option maxRecDepth 100000 in
set_option maxHeartbeats 800000 in
theorem refGet_any (base top : Int) (ad : Option Addr) (cap : Nat) (l : List Item) (k : Int) (w : World) (hl : Lies w ad l) (hn : l.length ≤ 1000) :
    Calls Try.prog 22 #[.agg (refCells base top ad l.length cap), .int .u64 k] w fun r w' => GetSays l k r ∧ Below w.heap.size w w' := by
  have hb : Below w.heap.size w (w.alloc (.cells (refCells base top ad l.length cap) 43 (0, 0))) := (Below.refl _ _).alloc (Nat.le_refl _) _
  have Hl := Lib.hid (hl.below hb)
  have c2 : (w.alloc (.cells (refCells base top ad l.length cap) 43 (0, 0))).cell? ⟨w.heap.size, 2, none⟩ = some (.slice ad l.length cap) := cell_of_row _ _ 2 _ _ _ (heap_alloc_new w _)
  have Hb := Lib.hid hb
  clear hl hb
  go_enter Try.func22, Try.ntmps22
  go_wp2_with fail
  generalize w.alloc (.cells (refCells base top ad l.length cap) 43 (0, 0)) = wd at *
  go_loop [6] (fun i => ∃ j : Nat, j ≤ l.length ∧ i = .int .i64 (j : Int) ∧ Hid (refGet l k = refGet (l.drop j) k)) (fun i => l.length - (intOf i).toNat)
  case atStart => exact ⟨0, by omega, rfl, Lib.hid rfl⟩
  case round =>
    obtain ⟨j, hj, rfl, hg⟩ := hrel
    by_cases hlt : j < l.length
    · have hx : l[j]? = some l[j] := List.getElem?_eq_getElem hlt
      generalize l[j] = x at hx
      obtain ⟨g, rfl, x0, x1⟩ := Hl.out j x hx
      have Hx := Lib.hid hx
      clear hx
      cases he : (x.1 == k) with
      | true =>
        have He := Lib.hid he
        go_wp2_with fail
        go_ret2
        exact ⟨by unfold GetSays; rw [hg.out, refGet_hit Hx.out He.out]; rfl, Hb.out⟩
      | false =>
        have He := Lib.hid he
        go_wp2_with fail
        go_round
        case rel => exact ⟨j + 1, by omega, by go_num, Lib.hid (hg.out.trans (refGet_miss Hx.out He.out))⟩
        case measure => simp [intOf]; omega
    · have hjl : j = l.length := by omega
      subst hjl
      go_wp2_with fail
      go_ret2
      exact ⟨by unfold GetSays; rw [hg.out]; simp [refGet]; rfl, Hb.out⟩

/-- What Last says of the last item. -/
def refLast (top : Int) (l : List Item) : Int := match l.getLast? with | some x => if top < x.1 then x.1 else top | none => top

set_option maxRecDepth 100000 in
set_option maxHeartbeats 800000 in
theorem refLast_any (base top : Int) (ad : Option Addr) (cap : Nat) (l : List Item) (w : World) (hl : Lies w ad l) (hn : l.length ≤ 1000) :
    Calls Try.prog 24 #[.agg (refCells base top ad l.length cap)] w fun r w' => r = .returned (.int .u64 (refLast top l)) ∧ Below w.heap.size w w' := by
  have hb : Below w.heap.size w (w.alloc (.cells (refCells base top ad l.length cap) 43 (0, 0))) := (Below.refl _ _).alloc (Nat.le_refl _) _
  have Hl := Lib.hid (hl.below hb)
  have c1 : (w.alloc (.cells (refCells base top ad l.length cap) 43 (0, 0))).cell? ⟨w.heap.size, 1, none⟩ = some (.int .u64 top) := cell_of_row _ _ 1 _ _ _ (heap_alloc_new w _)
  have c2 : (w.alloc (.cells (refCells base top ad l.length cap) 43 (0, 0))).cell? ⟨w.heap.size, 2, none⟩ = some (.slice ad l.length cap) := cell_of_row _ _ 2 _ _ _ (heap_alloc_new w _)
  have Hb := Lib.hid hb
  clear hl hb
  go_enter Try.func24, Try.ntmps24
  go_upto_region 1 with fail
  generalize w.alloc (.cells (refCells base top ad l.length cap) 43 (0, 0)) = wd at *
  by_cases h0 : 0 < l.length
  · have hx : l[l.length - 1]? = some l[l.length - 1] := List.getElem?_eq_getElem (by omega)
    have hlast : refLast top l = if top < l[l.length - 1].1 then l[l.length - 1].1 else top := by
      unfold refLast
      rw [List.getLast?_eq_getElem?, hx]
    generalize l[l.length - 1] = x at hx hlast
    obtain ⟨g, rfl, x0, x1⟩ := Hl.out (l.length - 1) x hx
    have Hlast := Lib.hid hlast
    clear hx hlast
    generalize l.length = n at *
    have tn : decide (0 < (n : Int)) = true := by simp; omega
    by_cases hg : top < x.1
    · have tg : decide (top < x.1) = true := by simpa using hg
      go_quiet (fail)
      go_wp2_with fail
      go_ret
      exact ⟨ret_u64 (by rw [Hlast.out, if_pos hg]), drawn Hb.out _⟩
    · have tg : decide (top < x.1) = false := by simpa using hg
      go_quiet (fail)
      go_wp2_with fail
      go_ret
      exact ⟨ret_u64 (by rw [Hlast.out, if_neg (by omega)]), drawn Hb.out _⟩
  · have hl0 : l = [] := List.length_eq_zero_iff.1 (by omega)
    subst hl0
    go_quiet (fail)
    go_wp2_with fail
    go_ret
    exact ⟨rfl, drawn Hb.out _⟩

set_option maxRecDepth 100000 in
set_option maxHeartbeats 800000 in
theorem refSame_any (ad bd : Option Addr) (cap cbp : Nat) (l : List Item) (w : World) (hl : Lies w ad l) (hm : Lies w bd l) (hn : l.length ≤ 1000) :
    Calls Try.prog 25 #[.slice ad l.length cap, .slice bd l.length cbp] w fun r w' => r = .returned (.bool true) ∧ Below w.heap.size w w' := by
  have Hl := Lib.hid hl
  have Hm := Lib.hid hm
  clear hl hm
  have tn : ((l.length : Int) != (l.length : Int)) = false := by simp
  go_enter Try.func25, Try.ntmps25
  go_wp2_with fail
  go_loopg [5] l.length (fun z i wr => ∃ j : Nat, j ≤ l.length ∧ z = l.length - j ∧ i = .int .i64 (j : Int) ∧ Lies wr ad l ∧ Lies wr bd l ∧ Below w.heap.size w wr)
  case atStart => exact ⟨0, by omega, by omega, rfl, Hl.out, Hm.out, Below.refl _ _⟩
  case round =>
    clear Hl Hm
    obtain ⟨j, hj, rfl, rfl, hl, hm, hbel⟩ := hrel
    by_cases hlt : j < l.length
    · have hx : l[j]? = some l[j] := List.getElem?_eq_getElem hlt
      generalize l[j] = x at hx
      obtain ⟨g, rfl, x0, x1⟩ := hl j x hx
      obtain ⟨g2, rfl, y0, y1⟩ := hm j x hx
      have Hl := Lib.hid hl
      have Hm := Lib.hid hm
      have Hbel := Lib.hid hbel
      clear hl hm hbel hx
      have hgi := guard_item
      have hne : ∀ wx, (binOp .neq 33 (.agg #[.int .u64 x.1, .string x.2]) (.agg #[.int .u64 x.1, .string x.2])).run Try.prog wx = .ok (.bool false) wx := fun wx => by rw [ne_item, same_self]; rfl
      go_upto_region 6 with fail
      go_quiet (fail)
      go_wp2_with fail
      go_roundg (l.length - (j + 1))
      case measure => omega
      case rel => exact ⟨j + 1, by omega, rfl, by go_num, Hl.out.drew _, Hm.out.drew _, drawn Hbel.out _⟩
    · go_wp2_with fail
      go_ret
      exact ⟨rfl, hbel⟩
end Go.Proofs.Ytfkofdhobhalpaa
