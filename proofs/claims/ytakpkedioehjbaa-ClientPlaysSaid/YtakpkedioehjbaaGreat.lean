/-
  THE WALK of Great.
-/
import Derived.Test.YtakpkedioehjbaaDeed
import Derived.Deep.Slices
import Derived.Deep.DeepCutAuto
import Derived.Deep.CutBlock
import Derived.Deep.RegionHeld3
namespace Go.Proofs.Ytakpkedioehjbaa
open Go.RowKit Go.Maps

/-- A row of commands lies at an address. -/
def CmdsAt (w : World) (b : Nat) (l : List Cmd) : Prop := ∀ i c, l[i]? = some c → ∀ j v, c.cells[j]? = some v → w.cell? ⟨b, i * 7 + j, none⟩ = some v
def texts (c : Cmd) : Bool := decide (300 < (c.key.size : Int)) || decide (300 < (c.old.size : Int)) || decide (300 < (c.new.size : Int))

set_option maxRecDepth 100000 in
set_option maxHeartbeats 1600000 in
theorem great9_two (b : Nat) (x y : Cmd) (w : World) (hl : CmdsAt w b [x, y]) (hx : x.Fits) (hy : y.Fits) :
    Calls Try.prog 22 #[.slice (some ⟨b, 0, none⟩) 2 2] w fun r w' => r = .returned (.bool (texts x || texts y)) ∧ w = w' := by
  have k0 : w.cell? ⟨b, 3, none⟩ = some (.string x.key) := hl 0 x rfl 3 _ rfl
  have o0 : w.cell? ⟨b, 4, none⟩ = some (.string x.old) := hl 0 x rfl 4 _ rfl
  have n0 : w.cell? ⟨b, 5, none⟩ = some (.string x.new) := hl 0 x rfl 5 _ rfl
  have k1 : w.cell? ⟨b, 10, none⟩ = some (.string y.key) := hl 1 y rfl 3 _ rfl
  have o1 : w.cell? ⟨b, 11, none⟩ = some (.string y.old) := hl 1 y rfl 4 _ rfl
  have n1 : w.cell? ⟨b, 12, none⟩ = some (.string y.new) := hl 1 y rfl 5 _ rfl
  have z0 := hx.key
  have z1 := hx.old
  have z2 := hx.new
  have z3 := hy.key
  have z4 := hy.old
  have z5 := hy.new
  unfold maxLen at z0 z1 z2 z3 z4 z5
  clear hl hx hy
  go_enter Try.func22, Try.ntmps22
  go_wp2_with fail
  go_loop [3] (fun i => (i = .int .i64 0 ∨ (i = .int .i64 1 ∧ texts x = false)) ∨ (i = .int .i64 2 ∧ texts x = false ∧ texts y = false)) (fun i => 2 - (intOf i).toNat)
  case atStart => exact Or.inl (Or.inl rfl)
  case round =>
    rcases hrel with (rfl | ⟨rfl, hx⟩) | ⟨rfl, hx, hy⟩
    · go_wp2_with fail
      all_goals first
        | (go_ret; exact ⟨ret_bool (by simp [texts]; omega), rfl⟩)
        | (refine ⟨Or.inl (Or.inr ⟨rfl, ?_⟩), by simp [intOf]⟩; simp [texts]; omega)
    · have Hx := Lib.hid hx
      clear hx
      go_wp2_with fail
      all_goals first
        | (go_ret; exact ⟨ret_bool (by simp [texts]; omega), rfl⟩)
        | (refine ⟨Or.inr ⟨rfl, Hx.out, ?_⟩, by simp [intOf]⟩; simp [texts]; omega)
    · have Hx := Lib.hid hx
      have Hy := Lib.hid hy
      clear hx hy
      go_wp2_with fail
      go_ret
      exact ⟨ret_bool (by rw [Hx.out, Hy.out]; rfl), rfl⟩
end Go.Proofs.Ytakpkedioehjbaa
