/-
  CrcFinds: for every input a text with bits turned has another checksum just where something was turned, and texts over one another have checksums over one another. No condition.
-/
import Derived.Test.YtcopannnaejbpaaRows
import Derived.Test.YtcopannnaejbpaaWalkB
import Derived.Test.YtcopannnaejbpaaLaw
import Derived.OpenShut
import Derived.Deep.DeepCutAuto
import Derived.Deep.CutBlock
import Derived.BigRegion
import Derived.Deep.QuietTactic
import Derived.BigQuiet
namespace Go.Proofs.Ytcopannnaejbpaa
open Go.ChangeShapes Go.WideShapes Go.ChangeAt Go.RowKit
open Go.ChangeMaps (open_string shut_string)

/-- Block g holds the bytes l at its beginning, and they may be written. -/
def Bytes (w : World) (g : Nat) (l : List UInt8) : Prop :=
  g < w.heap.size ∧ ∀ j (h : j < l.length), w.cell? ⟨g, j, none⟩ = some (.int .u8 (l[j].toNat : Int)) ∧ w.frozen? ⟨g, j, none⟩ = false

theorem Bytes.drew {w : World} {g : Nat} {l : List UInt8} (h : Bytes w g l) : Bytes w.drew g l := h
theorem Bytes.drewN {w : World} {g : Nat} {l : List UInt8} (h : Bytes w g l) (n : Nat) : Bytes (w.drewN n) g l := h
theorem Bytes.new (w : World) (s : ByteArray) (e : TypeId) (c n : Nat) (hn : s.size ≤ n) : Bytes (w.alloc (.cells (bytesRow s c) e (n, n + 1))) w.heap.size s.data.toList := by
  refine ⟨by simp, fun j h => ⟨?_, ?_⟩⟩
  · have hj : j < s.data.size := by simpa using h
    rw [World.cell?_alloc_mark, bytesRow, Array.getElem?_append_left (by simpa using hj)]
    simp only [Array.getElem?_map, Array.getElem?_eq_getElem hj, Option.map_some]
    rfl
  · have hj : j < s.size := by simpa using h
    rw [World.frozen?_alloc_mark]
    simp
    omega
theorem bytesRow_size (s : ByteArray) (c : Nat) : s.size ≤ (bytesRow s c).size := by
  unfold bytesRow
  rw [Array.size_append, Array.size_map]
  exact Nat.le_add_right _ _
theorem Bytes.set {w : World} {g : Nat} {l : List UInt8} (h : Bytes w g l) (i : Nat) (hi : i < l.length) (c : UInt8) : Bytes (w.setCell ⟨g, i, none⟩ (.int .u8 (c.toNat : Int))) g (l.set i c) := by
  obtain ⟨hg, hc⟩ := h
  refine ⟨by simpa [World.setCell] using hg, fun j hj => ?_⟩
  have hj' : j < l.length := by simpa using hj
  obtain ⟨h1, h2⟩ := hc j hj'
  refine ⟨?_, by rw [World.frozen?_setCell]; exact h2⟩
  by_cases e : j = i
  · subst e
    rw [World.cell?_setCell_same _ _ _ h1]
    simp
  · rw [World.cell?_setCell_other _ _ _ _ (by intro h; injection h with _ h2; exact e h2.symm), h1, List.getElem_set_ne (Ne.symm e)]

theorem Bytes.back {P : Program} {w : World} {g : Nat} {l : List UInt8} (h : Bytes w g l) (src dst e : TypeId) (n cap : Nat) (hn : l.length = n) (hs : P.underlying src = some (.slice e)) (he : P.underlying e = some (.int .u8)) (hd : P.underlying dst = some .string) :
    (convert src dst (.slice (some ⟨g, 0, none⟩) n cap)).run P w = .ok (.string ⟨l.toArray⟩) w := by
  subst hn
  refine run_convert_bytes_back w src dst e ⟨g, 0, none⟩ cap l hs he hd fun j hj => ?_
  have := (h.2 j hj).1
  have e : (⟨g, 0, none⟩ : Addr).add j = ⟨g, j, none⟩ := by
    unfold Addr.add
    by_cases h0 : j = 0
    · subst h0; rfl
    · simp [h0]
  rw [e]
  exact this

theorem u8_flip (c : UInt8) (k : Nat) (hk : k < 8) : bits .xor .u8 (c.toNat : Int) (2 ^ k % 256) = ((c ^^^ UInt8.ofNat (2 ^ k)).toNat : Int) := by
  have h2 : (2 : Nat) ^ k < 256 := Nat.lt_of_lt_of_le (Nat.pow_lt_pow_right (by decide) hk) (by decide)
  have e : ((2 : Int) ^ k % 256) = ((2 ^ k : Nat) : Int) := by
    have : ((2 ^ k : Nat) : Int) = (2 : Int) ^ k := by simp
    rw [← this]
    exact Int.emod_eq_of_lt (Int.natCast_nonneg _) (by omega)
  have hc := c.toNat_lt
  rw [e, u8_xor_nat _ _ (by omega) h2, UInt8.toNat_xor]
  congr 2
  exact (Nat.mod_eq_of_lt h2).symm

/-- What holds at the head of the first loop: n bits were looked at; those of m are turned. -/
def Turned (s : ByteArray) (bit g : Nat) (w0 : World) (n : Nat) (m : BitVec 64) (l : List UInt8) (b : Bool) (wr : World) : Prop :=
  b = decide (m ≠ 0#64) ∧ l.length = s.size ∧ Bytes wr g l ∧ Crc.run (~~~0#64) l = Crc.run (~~~0#64) s.data.toList ^^^ Crc.steps (8 * s.size - bit) m ∧ (∀ j, n ≤ j → m.getLsbD j = false) ∧ Below g w0 wr
theorem turned_no {s : ByteArray} {bit g n : Nat} {w0 wr : World} {m : BitVec 64} {l : List UInt8} {b : Bool} (h : Turned s bit g w0 n m l b wr) : Turned s bit g w0 (n + 1) m l b wr :=
  ⟨h.1, h.2.1, h.2.2.1, h.2.2.2.1, fun j hj => h.2.2.2.2.1 j (by omega), h.2.2.2.2.2⟩
theorem turned_yes {s : ByteArray} {bit g n : Nat} {w0 wr : World} {m : BitVec 64} {l : List UInt8} {b : Bool} (h : Turned s bit g w0 n m l b wr) (hn : n < 64) (hin : bit + n < 8 * s.size) (hj : (bit + n) / 8 < l.length) :
    Turned s bit g w0 (n + 1) (m ^^^ (1#64 <<< n)) (Crc.flip l (bit + n)) true (wr.setCell ⟨g, (bit + n) / 8, none⟩ (.int .u8 (bits .xor .u8 (l[(bit + n) / 8].toNat : Int) (2 ^ ((bit + n) % 8) % 256)))).drew := by
  obtain ⟨_, hl, hB, hr, hm, hbel⟩ := h
  have hbit : (m ^^^ (1#64 <<< n)).getLsbD n = true := by
    rw [BitVec.getLsbD_xor, hm n (Nat.le_refl _)]
    simp [hn]
  refine ⟨?_, by rw [Crc.flip_length, hl], ?_, ?_, ?_, ?_⟩
  · symm
    rw [decide_eq_true_eq]
    intro e
    rw [e] at hbit
    simp at hbit
  · rw [u8_flip _ _ (by omega)]
    have := hB.set _ hj (l[(bit + n) / 8] ^^^ UInt8.ofNat (2 ^ ((bit + n) % 8)))
    unfold Crc.flip
    rw [show l.getD ((bit + n) / 8) 0 = l[(bit + n) / 8] by simp [hj]]
    exact this.drew
  · rw [Crc.run_flip _ _ _ (by omega), hr, hl, BitVec.xor_assoc, Crc.steps_xor, Crc.steps_bit _ n hn (by omega), Nat.sub_sub]
  · intro j hj
    rw [BitVec.getLsbD_xor, hm j (by omega)]
    have : (1#64 <<< n).getLsbD j = false := by
      simp
      omega
    rw [this]
    rfl
  · exact (hbel.setCell (Nat.le_refl _) _).drew

theorem turned_end {s : ByteArray} {bit g n : Nat} {w0 wr : World} {m : BitVec 64} {l : List UInt8} {b : Bool} (h : Turned s bit g w0 n m l b wr) (hn : n ≤ 64) : Turned s bit g w0 64 m l b wr :=
  ⟨h.1, h.2.1, h.2.2.1, h.2.2.2.1, fun j hj => h.2.2.2.2.1 j (by omega), h.2.2.2.2.2⟩

/-- The texts differ just where something was turned. -/
theorem turned_test {s : ByteArray} {bit g : Nat} {w0 wr : World} {m : BitVec 64} {l : List UInt8} {b : Bool} (h : Turned s bit g w0 64 m l b wr) :
    (!(((Crc.sum l).toNat : Int) != ((Crc.sum s.data.toList).toNat : Int)) == b) = false := by
  obtain ⟨hb, _, _, hr, _, _⟩ := h
  have e : (((Crc.sum l).toNat : Int) != ((Crc.sum s.data.toList).toNat : Int)) = b := by
    rw [hb]
    by_cases hm : m = 0#64
    · subst hm
      rw [Crc.steps_zero, BitVec.xor_zero] at hr
      rw [show Crc.sum l = Crc.sum s.data.toList by unfold Crc.sum Crc.more; rw [hr]]
      simp
    · have hne : Crc.sum l ≠ Crc.sum s.data.toList := by
        intro he
        simp only [Crc.sum, Crc.more, hr] at he
        have he2 := congrArg (fun x => ~~~x) he
        simp only [BitVec.not_not] at he2
        exact hm (Crc.steps_eq_zero _ _ (Crc.xor_eq_self _ _ he2))
      have hne2 : ((Crc.sum l).toNat : Int) ≠ ((Crc.sum s.data.toList).toNat : Int) := by
        intro he
        exact hne (BitVec.eq_of_toNat_eq (by omega))
      simp [hm, hne2]
  rw [e]
  cases b <;> rfl

theorem small_max (s : ByteArray) (h : s.size ≤ 5000) : s.size ≤ maxLen := by
  unfold maxLen
  omega

/-- The least of two lengths. -/
structure Least (a b n : Nat) : Prop where
  left : n ≤ a
  right : n ≤ b
  eq : n = min a b

/-- The texts over one another, up to k; noughts behind. -/
def over (s t : ByteArray) (n k : Nat) : List UInt8 := (List.range n).map fun i => if i < k then s.data.toList.getD i 0 ^^^ t.data.toList.getD i 0 else 0
theorem over_length (s t : ByteArray) (n k : Nat) : (over s t n k).length = n := by simp [over]
theorem drawn {B : Nat} {a w : World} (h : Below B a w) (n : Nat) : Below B a (w.drewN n) := ⟨h.os, h.tape, h.output, h.size, h.block⟩
/-- Noughts. -/
def zeros (n : Nat) : List UInt8 := List.replicate n 0
theorem zeros_length (n : Nat) : (zeros n).length = n := by simp [zeros]
theorem over_zero (s t : ByteArray) (n : Nat) : over s t n 0 = zeros n := by
  apply List.ext_getElem (by simp [over, zeros])
  intro i h1 h2
  simp [over, zeros]
theorem over_set (s t : ByteArray) (n k : Nat) (hs : k < s.size) (ht : k < t.size) : (over s t n k).set k (s[k] ^^^ t[k]) = over s t n (k + 1) := by
  apply List.ext_getElem (by simp [over])
  intro i h1 h2
  have hs' : k < s.data.size := hs
  have ht' : k < t.data.size := ht
  rw [List.getElem_set]
  by_cases h : k = i
  · subst h
    simp only [over, List.getElem_map, List.getElem_range, if_true]
    rw [if_pos (by omega)]
    simp only [List.getD_eq_getElem?_getD, Array.getElem?_toList, Array.getElem?_eq_getElem hs', Array.getElem?_eq_getElem ht', Option.getD_some]
    rfl
  · simp only [over, List.getElem_map, List.getElem_range, if_neg h]
    by_cases h3 : i < k
    · rw [if_pos h3, if_pos (by omega)]
    · rw [if_neg h3, if_neg (by omega)]
theorem over_all (s t : ByteArray) (n : Nat) (hs : n ≤ s.size) (ht : n ≤ t.size) : over s t n n = List.zipWith (· ^^^ ·) (s.data.toList.take n) (t.data.toList.take n) := by
  have hs' : n ≤ s.data.size := hs
  have ht' : n ≤ t.data.size := ht
  apply List.ext_getElem (by simp [over]; omega)
  intro i h1 h2
  have hi : i < n := by simpa [over] using h1
  have e1 : s.data.toList.getD i 0 = s.data[i] := by simp [Array.getElem?_eq_getElem (show i < s.data.size by omega)]
  have e2 : t.data.toList.getD i 0 = t.data[i] := by simp [Array.getElem?_eq_getElem (show i < t.data.size by omega)]
  simp only [over, List.getElem_map, List.getElem_range, if_pos hi, List.getElem_zipWith, List.getElem_take, Array.getElem_toList, e1, e2]

/-- The cells of 'make([]byte, n)'. -/
def noughts (n : Nat) : Array Value := madeCells #[.int .u8 0] n
theorem u8_info : (Try.prog.info? 5).map (fun i => (i.zero, i.size, i.bytes)) = some (some (.int .u8 0), 1, 1) := by kernel_rfl
theorem run_noughts (n : Nat) (hn : n ≤ 5000) (w : World) :
    (Instr.makeSlice 28 (.int .i64 (n : Int)) (.int .i64 (n : Int))).run Try.prog w = .ok (.slice (some ⟨w.heap.size, 0, none⟩) n n) (w.alloc (.cells (noughts n) 5)) := by
  obtain ⟨i0, hi, hz0, hz1, hz2⟩ := info_parts u8_info
  have hr := run_make (P := Try.prog) w 28 5 i0 _ Try.underlying28 hi hz0 .i64 .i64 (n : Int) (n : Int) (by omega) (by omega) (by rw [hz2]; omega) (by omega)
  rw [hz1] at hr
  rw [show (Value.int .u8 0).cells = #[.int .u8 0] from rfl, Nat.mul_one, Int.toNat_natCast] at hr
  exact hr
theorem Bytes.noughts (w : World) (n : Nat) (e : TypeId) : Bytes (w.alloc (.cells (noughts n) e)) w.heap.size (zeros n) := by
  refine ⟨by simp, fun j h => ⟨?_, ?_⟩⟩
  · have hj : j < n := by simpa [zeros] using h
    rw [World.cell?_alloc_mark]
    simp [zeros, Go.Proofs.Ytcopannnaejbpaa.noughts, madeCells, hj, Nat.mod_one]
  · rw [World.frozen?_alloc_mark]
    simp
theorem Bytes.alloc {w : World} {g : Nat} {l : List UInt8} (h : Bytes w g l) (o : Obj) : Bytes (w.alloc o) g l := by
  refine ⟨by have := h.1; simp; omega, fun j hj => ?_⟩
  rw [World.cell?_alloc_lt w o _ h.1, World.frozen?_alloc_old _ _ _ (by have := h.1; simp; omega)]
  exact h.2 j hj
theorem Bytes.far {w : World} {g : Nat} {l : List UInt8} (h : Bytes w g l) {p : Addr} (hp : g ≠ p.block) (u : Value) : Bytes (w.setCell p u) g l := by
  refine ⟨by simpa [World.setCell] using h.1, fun j hj => ?_⟩
  rw [World.frozen?_setCell, World.cell?_setCell_other _ _ _ _ (by intro e; exact hp (by rw [e]))]
  exact h.2 j hj

theorem over_next (s t : ByteArray) (n k : Nat) (hs : k < s.size) (ht : k < t.size) {wr : World} {g : Nat} (hB : Bytes wr g (over s t n k)) (hk : k < (over s t n k).length) :
    Bytes (wr.setCell ⟨g, k, none⟩ (.int .u8 (bits .xor .u8 (s[k].toNat : Int) (t[k].toNat : Int)))).drew g (over s t n (k + 1)) := by
  have h1 := s[k].toNat_lt
  have h2 := t[k].toNat_lt
  rw [u8_xor_nat _ _ (by omega) (by omega), ← UInt8.toNat_xor, ← over_set s t n k hs ht]
  exact (hB.set k hk _).drew

theorem over_law (s t : ByteArray) (n : Nat) (hs : n ≤ s.size) (ht : n ≤ t.size) :
    (bits .xor .u64 (bits .xor .u64 ((Crc.sum (s.data.toList.take n)).toNat : Int) ((Crc.sum (t.data.toList.take n)).toNat : Int)) ((Crc.sum (zeros n)).toNat : Int) == ((Crc.sum (over s t n n)).toNat : Int)) = true := by
  have hs' : n ≤ s.data.size := hs
  have ht' : n ≤ t.data.size := ht
  have h := Crc.sum_over (s.data.toList.take n) (t.data.toList.take n) (by simp; omega)
  rw [show (s.data.toList.take n).length = n by simp; omega] at h
  rw [int_xor, int_xor, over_all s t n hs ht, zeros, h]
  simp

set_option maxRecDepth 100000 in
set_option maxHeartbeats 400000 in
theorem finds_small (s t : ByteArray) (k : Nat) (mask : BitVec 64) (w : World) (hk : k < 65536) (hs : s.size ≤ 5000) (ht : t.size ≤ 5000) :
    Calls Try.prog 4 #[.string s, .string t, .int .u16 (k : Int), .int .u64 (mask.toNat : Int)] w fun e w' => e = .returned (.bool true) ∧ Below w.heap.size w w' := by
  have hcv := fun w => run_bytes_of_string (P := Try.prog) w 9 28 5 s Try.underlying9 Try.underlying28 Try.underlying5
  go_enter Try.func4, Try.ntmps4
  go_upto_if 30 with fail
  go_cut [9, 10] (fun x b wc => ∃ cap bit : Nat, x = .slice (some ⟨w.heap.size, 0, none⟩) s.size cap ∧ b = .int .i64 (bit : Int) ∧ (bit < 8 * s.size ∨ (bit = 0 ∧ s.size = 0)) ∧ Bytes wc w.heap.size s.data.toList ∧ Below w.heap.size w wc)
  case first =>
    all_goals go_wp2_with fail
    all_goals go_meet
    · case rel => exact ⟨_, k % (8 * s.size), rfl, by simp, .inl (Nat.mod_lt _ (by omega)), (Bytes.new w s 5 _ _ (bytesRow_size s _)).drew, ((Below.refl _ _).alloc (Nat.le_refl _) _).drew⟩
    · case rel => exact ⟨_, 0, rfl, rfl, .inr ⟨rfl, by omega⟩, (Bytes.new w s 5 _ _ (bytesRow_size s _)).drew, ((Below.refl _ _).alloc (Nat.le_refl _) _).drew⟩
  case rest =>
    obtain ⟨cap, bit, rfl, rfl, hbit, hB, hbel⟩ := hcut
    clear hcv
    go_upto_block 0 with fail
    go_cut [11] (fun c wr => ∃ (m : BitVec 64) (l : List UInt8) (b : Bool), c = .bool b ∧ Turned s bit w.heap.size w 64 m l b wr)
    case first =>
      go_wp2_with fail
      go_loopw [11, 12] (fun c i wr => ∃ (n : Nat) (m : BitVec 64) (l : List UInt8) (b : Bool), n ≤ 64 ∧ i = .int .i64 (n : Int) ∧ c = .bool b ∧ Turned s bit w.heap.size w n m l b wr)
        (fun _ i _ => 64 - (intOf i).toNat)
      case atStart => exact ⟨0, 0#64, s.data.toList, false, by omega, rfl, rfl, by decide, by simp, hB, by rw [Crc.steps_zero]; simp, fun j _ => by simp, hbel⟩
      case round =>
        obtain ⟨n, m, l, b, hn, rfl, rfl, hT⟩ := hrel
        have hl := hT.2.1
        have hB' := hT.2.2.1
        by_cases h64 : n < 64
        · by_cases hin : bit + n < 8 * s.size
          · have hj : (bit + n) / 8 < l.length := by rw [hl]; omega
            obtain ⟨hcell, hfz⟩ := hB'.2 _ hj
            have hj0 : (0 : Int) ≤ ((bit : Int) + (n : Int)) / 8 := by omega
            have hj1 : ((bit : Int) + (n : Int)) / 8 < (s.size : Int) := by omega
            have hyes := Lib.hid (turned_yes hT h64 hin hj)
            clear hl hB hB'
            go_wp2_with fail
            · go_region
              go_wp2_with fail
              go_roundw
              case rel => exact ⟨n + 1, _, _, true, by omega, by go_num, rfl, hyes.out⟩
              case measure => simp [intOf]; omega
            · go_roundw
              case rel => exact ⟨n + 1, m, l, b, by omega, by go_num, rfl, turned_no hT⟩
              case measure => simp [intOf]; omega
          · clear hl hB hB'
            go_wp2_with fail
            go_meet
            case rel => exact ⟨m, l, b, rfl, turned_end hT hn⟩
        · clear hl hB hB'
          go_wp2_with fail
          go_meet
          case rel => exact ⟨m, l, b, rfl, turned_end hT hn⟩
    case rest =>
      clear hB hbel
      obtain ⟨m, l, b, rfl, hT⟩ := hcut
      have ht' := turned_test hT
      obtain ⟨-, hl, hB, -, -, hbel⟩ := hT
      have hback := hB.back (P := Try.prog) 28 9 5 s.size cap hl Try.underlying28 Try.underlying5 Try.underlying9
      have hsl := Lib.hid (small_max ⟨l.toArray⟩ (by simp [ByteArray.size]; omega))
      have hss := Lib.hid (small_max s hs)
      clear hl
      go_wp2_with fail
      refine (sum_any _ _ hsl.out).mono ?_
      rintro e w' ⟨rfl, rfl⟩
      go_wp2_with fail
      refine (sum_any _ _ hss.out).mono ?_
      rintro e w' ⟨rfl, rfl⟩
      go_upto_region 16 with fail
      clear hback ht' hB hsl
      go_cut [13] (fun v wr => ∃ n : Nat, v = .int .i64 (n : Int) ∧ Least s.size t.size n ∧ Below w.heap.size w wr)
      case first =>
        go_wp2_with fail
        · go_meet
          case rel => exact ⟨t.size, rfl, ⟨by omega, by omega, by omega⟩, hbel⟩
        · go_meet
          case rel => exact ⟨s.size, rfl, ⟨by omega, by omega, by omega⟩, hbel⟩
      case rest =>
        obtain ⟨n, rfl, hn, hbel⟩ := hcut
        have hn5 : n ≤ 5000 := by have := hn.left; omega
        have hmk := run_noughts n hn5
        go_wp2_with fail
        go_cut [14, 15] (fun x y wr => ∃ g1 g2 : Nat, x = .slice (some ⟨g1, 0, none⟩) n n ∧ y = .slice (some ⟨g2, 0, none⟩) n n ∧ g1 ≠ g2 ∧ w.heap.size ≤ g1 ∧ w.heap.size ≤ g2 ∧
          Bytes wr g1 (zeros n) ∧ Bytes wr g2 (zeros n) ∧ Below w.heap.size w wr)
        case first =>
          go_region
          · go_wp2_with fail
            go_meet
            case rel => exact ⟨wc.heap.size, wc.heap.size + 1, rfl, rfl, by omega, hbel.size, by have := hbel.size; omega, (((Bytes.noughts wc n 5).alloc _)).drew, by have := Bytes.noughts (wc.alloc (.cells (noughts n) 5)) n 5; simp only [World.size_alloc] at this; exact this.drew, ((hbel.alloc hbel.size _).alloc (by have := hbel.size; simp; omega) _).drew⟩
          · go_wp2_with fail
            go_meet
            case rel => exact ⟨wc.heap.size + 1, wc.heap.size, rfl, rfl, by omega, by have := hbel.size; omega, hbel.size, by have := Bytes.noughts (wc.alloc (.cells (noughts n) 5)) n 5; simp only [World.size_alloc] at this; exact this.drew, (((Bytes.noughts wc n 5).alloc _)).drew, ((hbel.alloc hbel.size _).alloc (by have := hbel.size; simp; omega) _).drew⟩
        case rest =>
          clear hmk hbel
          obtain ⟨g1, g2, rfl, rfl, hg, hg1, hg2, hB1, hB2, hbel⟩ := hcut
          go_wp2_with fail
          go_loopw [16] (fun i wr => ∃ j : Nat, j ≤ n ∧ i = .int .i64 (j : Int) ∧ Bytes wr g1 (over s t n j) ∧ Bytes wr g2 (zeros n) ∧ Below w.heap.size w wr) (fun i _ => n - (intOf i).toNat)
          case atStart => exact ⟨0, by omega, rfl, by rw [over_zero]; exact hB1, hB2, hbel⟩
          case round =>
            clear hB1 hB2 hbel
            obtain ⟨j, hj, rfl, hB1, hB2, hbel⟩ := hrel
            have hns := hn.left
            have hnt := hn.right
            by_cases hlt : j < n
            · have hjs : j < s.size := by omega
              have hjt : j < t.size := by omega
              obtain ⟨hcell, hfz⟩ := hB1.2 j (by rw [over_length]; exact hlt)
              go_wp2_with fail
              have hx := Lib.hid (over_next s t n j hjs hjt hB1 (by rw [over_length]; exact hlt))
              go_region
              go_wp2_with fail
              go_roundw
              case rel => exact ⟨j + 1, by omega, by go_num, hx.out, (hB2.far (Ne.symm hg) _).drew, (hbel.setCell hg1 _).drew⟩
              case measure => simp [intOf]; omega
            · obtain rfl : j = n := by omega
              have hb1 := fun nq => (hB1.drewN nq).back (P := Try.prog) 28 9 5 j j (over_length s t j j) Try.underlying28 Try.underlying5 Try.underlying9
              have hb2 := fun nq => (hB2.drewN nq).back (P := Try.prog) 28 9 5 j j (zeros_length j) Try.underlying28 Try.underlying5 Try.underlying9
              have hns0 : (j : Int) ≤ (s.size : Int) := by omega
              have hnt0 : (j : Int) ≤ (t.size : Int) := by omega
              have m1 := Lib.hid (small_max (s.extract 0 j) (by simp [ByteArray.size_extract]; omega))
              have m2 := Lib.hid (small_max (t.extract 0 j) (by simp [ByteArray.size_extract]; omega))
              have m3 := Lib.hid (small_max ⟨(zeros j).toArray⟩ (by simp [ByteArray.size, zeros_length]; omega))
              have m4 := Lib.hid (small_max ⟨(over s t j j).toArray⟩ (by simp [ByteArray.size, over_length]; omega))
              have hgd := over_law s t j hns hnt
              clear hB1 hB2
              go_wp2_with fail
              go_quiet ((first | (go_at_call 6; exact Calls.quiet_of_same ((sum_any _ _ (by first | exact m1.out | exact m2.out | exact m3.out | exact m4.out)).mono fun _ _ h => ⟨h.1, h.2.symm⟩)) | (go_at_call 5; exact Calls.quiet_of_same ((wakes_any _).mono fun _ _ h => ⟨h.1, h.2.symm⟩))))
              go_wp2_with fail
              go_ret
              exact ⟨rfl, drawn hbel _⟩

set_option maxRecDepth 100000 in
set_option maxHeartbeats 400000 in
theorem finds_great (s t : ByteArray) (k : Nat) (mask : BitVec 64) (w : World) (hs : s.size ≤ maxLen) (ht : t.size ≤ maxLen) (h : ¬ (s.size ≤ 5000 ∧ t.size ≤ 5000)) :
    Calls Try.prog 4 #[.string s, .string t, .int .u16 (k : Int), .int .u64 (mask.toNat : Int)] w fun e w' => e = .returned (.bool true) ∧ w = w' := by
  unfold maxLen at hs ht
  by_cases h1 : s.size ≤ 5000
  · have h2 : ¬ t.size ≤ 5000 := fun h2 => h ⟨h1, h2⟩
    clear h
    go_enter Try.func4, Try.ntmps4
    go_wp2_with fail
    refine (wakes_any _).mono ?_
    rintro e w' ⟨rfl, rfl⟩
    go_wp2_with fail
    go_ret
    exact ⟨rfl, rfl⟩
  · clear h
    go_enter Try.func4, Try.ntmps4
    go_wp2_with fail
    refine (wakes_any _).mono ?_
    rintro e w' ⟨rfl, rfl⟩
    go_wp2_with fail
    go_ret
    exact ⟨rfl, rfl⟩

/-- An integer of 64 bits is that of a row of 64 bits. -/
theorem bv_of {n : Int} (h : (Lit.int .u64 n).wf = true) : ∃ x : BitVec 64, n = (x.toNat : Int) := by
  obtain ⟨h0, h1⟩ := bounds_u64 h
  refine ⟨BitVec.ofNat 64 n.toNat, ?_⟩
  rw [BitVec.toNat_ofNat]
  omega
theorem u16_of {n : Int} (h : (Lit.int .u16 n).wf = true) : ∃ k : Nat, n = (k : Int) ∧ k < 65536 := by
  obtain ⟨h0, h1⟩ := bounds_u16 h
  exact ⟨n.toNat, by omega, by omega⟩

set_option maxRecDepth 100000 in
theorem finds_lifted (os : Os) (started : os.Started) (H : Type) (enc : TypeId × Value → H) :
    ReturnsInHanded {} Try.checked os 4 .any (Rows.crcFindsSpec.pre6 enc Try.prog Try.f4 Rows.crcFindsRow.domain false) (Rows.crcFindsSpec.post enc Try.prog Try.f4 false true false false) := by
  refine returnsInHanded_of_change (C := Try.checked) Try.own started (by kernel_rfl) Try.func4
    (ChangeSpec.witness6 (enc := enc) (C := Try.checked) false ⟨#[], #[.string ByteArray.empty, .string ByteArray.empty, .int .u16 0, .int .u64 0], []⟩ 8 (by kernel_rfl) (by kernel_rfl) (by kernel_rfl) (by kernel_rfl)) ?_
  intro W base args ds gs before hval0 hW hcnd _
  have hval : ∀ (j : Nat) t v, Try.f4.params[j]? = some t → args[j]? = some v → Value.okWide Try.prog W .any base t v := hval0
  have hW' := hW
  obtain ⟨p, q, hA0, hV, rfl, hfz, hnd⟩ := hW
  have hA : DataW.TrodAll enc Try.prog W 0 (fun _ => true) true Try.f4.params.toList args.toList ds p := hA0
  rw [Try.params4] at hA hval
  obtain ⟨v0, v1, v2, v3, d0, d1, d2, d3, p0, p1, p2, p3, rfl, rfl, rfl, h0, h1, h2, h3⟩ := trodAll_four hA
  obtain ⟨s, rfl, rfl, rfl, ws⟩ := open_string Try.underlying9 (hval 0 9 v0 rfl rfl) h0
  obtain ⟨t, rfl, rfl, rfl, wt⟩ := open_string Try.underlying9 (hval 1 9 v1 rfl rfl) h1
  obtain ⟨n, rfl, rfl, rfl, wn⟩ := open_int Try.underlying27 (hval 2 27 v2 rfl rfl) h2
  obtain ⟨m, rfl, rfl, rfl, wm⟩ := open_int Try.underlying22 (hval 3 22 v3 rfl rfl) h3
  obtain ⟨x, rfl⟩ := bv_of wm
  obtain ⟨k, rfl, hk⟩ := u16_of wn
  by_cases hc : s.size ≤ 5000 ∧ t.size ≤ 5000
  · refine (finds_small s t k x W hk hc.1 hc.2).mono fun e W' ⟨he, hw⟩ => ?_
    subst he
    exact ⟨_, rfl, law_post Try.laidOut Try.underlying4 (by kernel_rfl) (by kernel_rfl) rfl hW' rfl hw⟩
  · refine (finds_great s t k x W ws wt hc).mono fun e W' ⟨he, hw⟩ => ?_
    subst he; subst hw
    exact ⟨_, rfl, law_post Try.laidOut Try.underlying4 (by kernel_rfl) (by kernel_rfl) rfl hW' rfl (Below.refl _ _)⟩

theorem finds_holds : Rows.CrcFindsSaid :=
  OpenClaim.holds_of_wide 4 Try.f4 rfl rfl rfl rfl rfl rfl rfl ⟨rfl, rfl, rfl, rfl, rfl⟩ rfl rfl rfl rfl rfl (by kernel_rfl) Try.func4 (by kernel_rfl)
    (of_decide_eq_true (by kernel_rfl)) (by unfold Func.isWrapper; rw [if_neg (of_decide_eq_false (by kernel_rfl))]; exact ⟨rfl, rfl⟩)
    (fun os started H enc _ => finds_lifted os started H enc)
#print axioms finds_holds
end Go.Proofs.Ytcopannnaejbpaa
