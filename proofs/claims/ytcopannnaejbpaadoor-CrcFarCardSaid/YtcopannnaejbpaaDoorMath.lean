/-
  PLAIN LAWS of the checksum: steps on 64 bits are linear and can be undone. No program in sight.
-/
namespace Go.Proofs.YtcopannnaejbpaaDoor.Crc
def poly : BitVec 64 := 14514072000185962306#64
def step (x : BitVec 64) : BitVec 64 := (x >>> 1) ^^^ (if x.getLsbD 0 then poly else 0#64)
def steps : Nat → BitVec 64 → BitVec 64
  | 0, x => x
  | n + 1, x => steps n (step x)
def byte (c : UInt8) : BitVec 64 := BitVec.ofNat 64 c.toNat
def run (x : BitVec 64) : List UInt8 → BitVec 64
  | [] => x
  | c :: l => run (steps 8 (x ^^^ byte c)) l
def more (s : BitVec 64) (l : List UInt8) : BitVec 64 := ~~~(run (~~~s) l)
def sum (l : List UInt8) : BitVec 64 := more 0#64 l
def join (a b : BitVec 64) (n : Nat) : BitVec 64 := steps (8 * n) a ^^^ b

theorem xlc (x y z : BitVec 64) : x ^^^ (y ^^^ z) = y ^^^ (x ^^^ z) := by
  rw [← BitVec.xor_assoc, BitVec.xor_comm x y, BitVec.xor_assoc]
theorem xss (x y : BitVec 64) : x ^^^ (x ^^^ y) = y := by
  rw [← BitVec.xor_assoc, BitVec.xor_self, BitVec.zero_xor]
theorem step_xor (x y : BitVec 64) : step (x ^^^ y) = step x ^^^ step y := by
  unfold step
  rw [BitVec.ushiftRight_xor_distrib, BitVec.getLsbD_xor]
  cases x.getLsbD 0 <;> cases y.getLsbD 0
  · simp
  · simp [BitVec.xor_assoc]
  · simp only [Bool.xor_false, if_true, Bool.false_eq_true, if_false, BitVec.xor_zero, BitVec.xor_assoc]
    rw [BitVec.xor_comm poly]
  · simp only [Bool.xor_self, if_true, Bool.false_eq_true, if_false, BitVec.xor_zero, BitVec.xor_assoc]
    rw [xlc poly, BitVec.xor_self, BitVec.xor_zero]
theorem step_zero : step 0#64 = 0#64 := by decide
theorem steps_succ' (n : Nat) (x : BitVec 64) : steps (n + 1) x = step (steps n x) := by
  induction n generalizing x with
  | zero => rfl
  | succ n ih => rw [steps, ih]; rfl
theorem steps_add (m n : Nat) (x : BitVec 64) : steps (m + n) x = steps n (steps m x) := by
  induction m generalizing x with
  | zero => simp [steps]
  | succ m ih => rw [Nat.succ_add, steps, ih]; rfl
theorem steps_xor (n : Nat) (x y : BitVec 64) : steps n (x ^^^ y) = steps n x ^^^ steps n y := by
  induction n generalizing x y with
  | zero => rfl
  | succ n ih => simp only [steps, step_xor, ih]
theorem steps_zero (n : Nat) : steps n 0#64 = 0#64 := by
  induction n with
  | zero => rfl
  | succ n ih => simp only [steps, step_zero, ih]
theorem run_append (x : BitVec 64) (l m : List UInt8) : run x (l ++ m) = run (run x l) m := by
  induction l generalizing x with
  | nil => rfl
  | cons c l ih => exact ih _
/-- run of a text from two registers over one another. -/
theorem run_xor (x y : BitVec 64) (l : List UInt8) : run (x ^^^ y) l = run x l ^^^ steps (8 * l.length) y := by
  induction l generalizing x y with
  | nil => rfl
  | cons c l ih =>
    rw [run, run, BitVec.xor_assoc, BitVec.xor_comm y, ← BitVec.xor_assoc, steps_xor, ih, ← steps_add]
    congr 2
    simp [List.length_cons]; omega
theorem bnot (x : BitVec 64) : ~~~x = x ^^^ BitVec.allOnes 64 := by
  rw [BitVec.xor_allOnes]
theorem more_append (s : BitVec 64) (l m : List UInt8) : more s (l ++ m) = more (more s l) m := by
  simp [more, run_append]
theorem more_eq (s : BitVec 64) (m : List UInt8) : more s m = steps (8 * m.length) s ^^^ sum m := by
  unfold sum more
  rw [bnot s, BitVec.xor_comm s, run_xor]
  have : ~~~(0#64) = BitVec.allOnes 64 := rfl
  rw [this, bnot, bnot]
  rw [BitVec.xor_comm (run _ _) (steps _ _), BitVec.xor_assoc]
theorem sum_append (l m : List UInt8) : sum (l ++ m) = join (sum l) (sum m) m.length := by
  unfold join
  rw [← more_eq, sum, more_append]
  rfl
theorem join_assoc (x y z : BitVec 64) (m n : Nat) : join (join x y m) z n = join x (join y z n) (m + n) := by
  unfold join
  rw [steps_xor, BitVec.xor_assoc, ← steps_add]
  congr 2
  omega

/-! a step can be undone -/
theorem step_eq_zero (z : BitVec 64) (h : step z = 0#64) : z = 0#64 := by
  unfold step at h
  cases hb : z.getLsbD 0 with
  | false =>
    rw [hb] at h
    simp only [Bool.false_eq_true, if_false, BitVec.xor_zero] at h
    apply BitVec.eq_of_getLsbD_eq
    intro i hi
    cases i with
    | zero => simpa using hb
    | succ i =>
      have := congrArg (fun v => BitVec.getLsbD v i) h
      simp only [BitVec.getLsbD_ushiftRight, BitVec.getLsbD_zero] at this
      rw [Nat.add_comm] at this
      simpa using this
  | true =>
    rw [hb] at h
    have := congrArg (fun v => BitVec.getLsbD v 63) h
    simp [poly] at this
theorem steps_eq_zero (n : Nat) (z : BitVec 64) (h : steps n z = 0#64) : z = 0#64 := by
  induction n generalizing z with
  | zero => exact h
  | succ n ih => exact step_eq_zero _ (ih _ h)
theorem xor_eq_self (x y : BitVec 64) (h : x ^^^ y = x) : y = 0#64 := by
  have := congrArg (x ^^^ ·) h
  simpa [xss] using this
theorem step_shl_all : ∀ i : Fin 63, step (1#64 <<< (i.val + 1)) = 1#64 <<< i.val := by decide +kernel
theorem step_shl (i : Nat) (hi : i < 63) : step (1#64 <<< (i + 1)) = 1#64 <<< i := step_shl_all ⟨i, hi⟩
theorem steps_shl (i : Nat) (hi : i < 64) : steps i (1#64 <<< i) = 1#64 := by
  induction i with
  | zero => rfl
  | succ i ih => rw [steps, step_shl i (by omega), ih (by omega)]
/-- a bit at place i goes as many steps less -/
theorem steps_bit (n i : Nat) (hi : i < 64) (hn : i ≤ n) : steps n (1#64 <<< i) = steps (n - i) 1#64 := by
  have : n = i + (n - i) := by omega
  rw [this, steps_add, steps_shl i hi]
  congr 1
  omega

/-! texts, one bit turned -/
def flip (l : List UInt8) (p : Nat) : List UInt8 := l.set (p / 8) (l.getD (p / 8) 0 ^^^ UInt8.ofNat (2 ^ (p % 8)))
theorem flip_length (l : List UInt8) (p : Nat) : (flip l p).length = l.length := by simp [flip]
theorem byte_xor (c d : UInt8) : byte (c ^^^ d) = byte c ^^^ byte d := by
  unfold byte
  apply BitVec.eq_of_toNat_eq
  simp only [BitVec.toNat_xor, BitVec.toNat_ofNat, UInt8.toNat_xor]
  have h1 := c.toNat_lt
  have h2 := d.toNat_lt
  rw [Nat.mod_eq_of_lt (a := c.toNat) (by omega), Nat.mod_eq_of_lt (a := d.toNat) (by omega)]
  apply Nat.mod_eq_of_lt
  exact Nat.lt_of_lt_of_le (Nat.xor_lt_two_pow (n := 8) (by omega) (by omega)) (by decide)
theorem byte_bit (k : Nat) (hk : k < 8) : byte (UInt8.ofNat (2 ^ k)) = 1#64 <<< k := by
  match k, hk with
  | 0, _ => decide
  | 1, _ => decide
  | 2, _ => decide
  | 3, _ => decide
  | 4, _ => decide
  | 5, _ => decide
  | 6, _ => decide
  | 7, _ => decide
theorem run_flip (l : List UInt8) (p : Nat) (r : BitVec 64) (hp : p < 8 * l.length) : run r (flip l p) = run r l ^^^ steps (8 * l.length - p) 1#64 := by
  induction l generalizing p r with
  | nil => simp at hp
  | cons c l ih =>
    by_cases h : p < 8
    · have e : p / 8 = 0 := by omega
      have e2 : p % 8 = p := by omega
      have : flip (c :: l) p = (c ^^^ UInt8.ofNat (2 ^ p)) :: l := by simp [flip, e, e2]
      rw [this, run, run, byte_xor, byte_bit p h, ← BitVec.xor_assoc, steps_xor, run_xor, ← steps_add]
      congr 1
      rw [steps_bit _ _ (by omega) (by simp [List.length_cons] at *; omega)]
      congr 1
      simp [List.length_cons]; omega
    · have e : p / 8 = (p - 8) / 8 + 1 := by omega
      have e2 : p % 8 = (p - 8) % 8 := by omega
      have : flip (c :: l) p = c :: flip l (p - 8) := by simp [flip, e, e2]
      rw [this, run, run, ih (p - 8) _ (by simp [List.length_cons] at hp; omega)]
      congr 2
      simp [List.length_cons]; omega

/-! texts over one another -/
theorem run_zip (a b : List UInt8) (r s : BitVec 64) (h : a.length = b.length) : run (r ^^^ s) (List.zipWith (· ^^^ ·) a b) = run r a ^^^ run s b := by
  induction a generalizing b r s with
  | nil =>
    match b, h with
    | [], _ => rfl
  | cons c a ih =>
    match b, h with
    | d :: b, h =>
      rw [List.zipWith_cons_cons, run, run, run, byte_xor]
      rw [show r ^^^ s ^^^ (byte c ^^^ byte d) = (r ^^^ byte c) ^^^ (s ^^^ byte d) by simp only [BitVec.xor_assoc, xlc s]]
      rw [steps_xor, ih _ _ _ (by simpa using h)]
theorem zip_zero (a : List UInt8) : List.zipWith (· ^^^ ·) a (List.replicate a.length 0) = a := by
  induction a with
  | nil => rfl
  | cons c a ih =>
    rw [List.length_cons, List.replicate_succ, List.zipWith_cons_cons, ih]
    simp
theorem sum_over (a b : List UInt8) (h : a.length = b.length) : sum a ^^^ sum b ^^^ sum (List.replicate a.length 0) = sum (List.zipWith (· ^^^ ·) a b) := by
  unfold sum more
  have hl : (List.zipWith (· ^^^ ·) a b).length = a.length := by simp [← h]
  have e := run_zip (List.zipWith (· ^^^ ·) a b) (List.replicate a.length 0) (~~~0#64 ^^^ ~~~0#64) (~~~0#64) (by simp [hl])
  rw [run_zip a b _ _ h] at e
  have z := zip_zero (List.zipWith (· ^^^ ·) a b)
  rw [hl] at z
  rw [z] at e
  rw [show (~~~0#64 ^^^ ~~~0#64 ^^^ ~~~0#64 : BitVec 64) = ~~~0#64 by decide] at e
  rw [e]
  generalize run (~~~0#64) a = A
  generalize run (~~~0#64) b = B
  generalize run (~~~0#64) (List.replicate a.length 0) = C
  rw [bnot, bnot, bnot, bnot]
  generalize BitVec.allOnes 64 = o
  simp only [BitVec.xor_assoc]
  rw [xlc o, xlc o C, BitVec.xor_self, BitVec.xor_zero]
  rw [BitVec.xor_comm o C]

/-! what a matrix of steps makes of a number: the lowest bit apart -/
theorem steps_low (n k : Nat) (x : BitVec 64) : steps n x = steps n (1#64 <<< k) ^^^ steps n (x ^^^ (1#64 <<< k)) := by
  rw [← steps_xor, BitVec.xor_comm x, xss]
end Go.Proofs.YtcopannnaejbpaaDoor.Crc
