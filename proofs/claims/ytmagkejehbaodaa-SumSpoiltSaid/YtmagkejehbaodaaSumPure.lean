/- CRC-32 over numbers and lists alone: the register's steps are linear, and none loses anything. -/
import Derived.Test.YtmagkejehbaodaaProg
namespace Go.Proofs.Ytmagkejehbaodaa

/-- One step of the register. -/
def stp (r : Nat) : Nat := if r % 2 = 1 then (r / 2) ^^^ 0xedb88320 else r / 2
def stpN : Nat → Nat → Nat
  | 0, r => r
  | n + 1, r => stp (stpN n r)
theorem xor_div2 (a b : Nat) : (a ^^^ b) / 2 = a / 2 ^^^ b / 2 := by
  have := Nat.shiftRight_xor_distrib (a := a) (b := b) (i := 1)
  simpa [Nat.shiftRight_eq_div_pow] using this
theorem xor_mod2 (a b : Nat) : (a ^^^ b) % 2 = (a + b) % 2 := by
  have h := Nat.testBit_xor a b 0
  simp only [Nat.testBit_zero] at h
  have ha := Nat.mod_two_eq_zero_or_one a
  have hb := Nat.mod_two_eq_zero_or_one b
  have hc := Nat.mod_two_eq_zero_or_one (a ^^^ b)
  by_cases ea : a % 2 = 1 <;> by_cases eb : b % 2 = 1 <;> by_cases ec : (a ^^^ b) % 2 = 1 <;> simp only [ea, eb, ec, decide_true, decide_false, Bool.xor_true, Bool.xor_false, Bool.not_true, Bool.not_false] at h <;> first | contradiction | omega
theorem stp_xor (a b : Nat) : stp (a ^^^ b) = stp a ^^^ stp b := by
  unfold stp
  rw [xor_mod2, xor_div2]
  rcases Nat.mod_two_eq_zero_or_one a with ha | ha <;> rcases Nat.mod_two_eq_zero_or_one b with hb | hb
  · rw [if_neg (by omega), if_neg (by omega), if_neg (by omega)]
  · rw [if_pos (by omega), if_neg (by omega), if_pos (by omega), Nat.xor_assoc]
  · rw [if_pos (by omega), if_pos (by omega), if_neg (by omega), Nat.xor_assoc, Nat.xor_assoc, Nat.xor_comm (b / 2)]
  · rw [if_neg (by omega), if_pos (by omega), if_pos (by omega)]
    rw [Nat.xor_assoc, ← Nat.xor_assoc 3988292384, Nat.xor_comm 3988292384, Nat.xor_assoc (b / 2), Nat.xor_self, Nat.xor_zero]
theorem stpN_xor (n a b : Nat) : stpN n (a ^^^ b) = stpN n a ^^^ stpN n b := by
  induction n with
  | zero => rfl
  | succ n ih => simp only [stpN, ih, stp_xor]
theorem stpN_add (n m r : Nat) : stpN (n + m) r = stpN n (stpN m r) := by
  induction n with
  | zero => simp [stpN]
  | succ n ih => rw [Nat.succ_add]; simp only [stpN, ih]
theorem stp_lt {r : Nat} (h : r < 4294967296) : stp r < 4294967296 := by
  unfold stp
  split
  · exact Nat.xor_lt_two_pow (n := 32) (by omega) (by decide)
  · omega
theorem stpN_lt {n r : Nat} (h : r < 4294967296) : stpN n r < 4294967296 := by
  induction n with
  | zero => exact h
  | succ n ih => exact stp_lt ih
/-- Shifted bits come down as they are. -/
theorem stpN_shl (n x : Nat) : stpN n (2 ^ n * x) = x := by
  induction n generalizing x with
  | zero => simp [stpN]
  | succ n ih =>
    rw [stpN_add n 1 , show stpN 1 (2 ^ (n + 1) * x) = 2 ^ n * x from ?_]
    · exact ih x
    · simp only [stpN, stp]
      rw [show 2 ^ (n + 1) * x = 2 * (2 ^ n * x) by rw [Nat.pow_succ, Nat.mul_comm (2 ^ n) 2, Nat.mul_assoc]]
      generalize 2 ^ n * x = y
      show (if 2 * y % 2 = 1 then 2 * y / 2 ^^^ 3988292384 else 2 * y / 2) = y
      rw [if_neg (by omega)]
      omega
theorem xor_split (n r : Nat) : r = (r % 2 ^ n) ^^^ (2 ^ n * (r / 2 ^ n)) := by
  apply Nat.eq_of_testBit_eq
  intro i
  rw [Nat.testBit_xor, Nat.testBit_mod_two_pow, Nat.testBit_two_pow_mul, Nat.testBit_div_two_pow]
  by_cases h : i < n
  · simp [h, show ¬ n ≤ i by omega]
  · simp [h, show n ≤ i by omega]
/-- A table's step: the lowest n bits through the table, the others shifted. -/
theorem stpN_split (n r : Nat) : stpN n r = stpN n (r % 2 ^ n) ^^^ r / 2 ^ n := by
  conv => lhs; rw [xor_split n r]
  rw [stpN_xor, stpN_shl]
theorem stpN4 (r : Nat) : stpN 4 (r % 16) ^^^ r / 16 = stpN 4 r := (stpN_split 4 r).symm

/-- The register goes through bytes. -/
def regs (r : Nat) (l : List UInt8) : Nat := l.foldl (fun r x => stpN 8 (r ^^^ x.toNat)) r
@[simp] theorem regs_nil (r : Nat) : regs r [] = r := rfl
theorem regs_cons (r : Nat) (x : UInt8) (l : List UInt8) : regs r (x :: l) = regs (stpN 8 (r ^^^ x.toNat)) l := by simp only [regs, List.foldl_cons]
theorem regs_append (r : Nat) (l k : List UInt8) : regs r (l ++ k) = regs (regs r l) k := by simp [regs]
theorem regs_snoc (r : Nat) (l : List UInt8) (x : UInt8) : regs r (l ++ [x]) = stpN 8 (regs r l ^^^ x.toNat) := by simp [regs]
theorem xor_byte_lt {r : Nat} (h : r < 4294967296) (x : UInt8) : r ^^^ x.toNat < 4294967296 := Nat.xor_lt_two_pow (n := 32) (by omega) (by have := x.toNat_lt; omega)
theorem regs_lt {r : Nat} (h : r < 4294967296) (l : List UInt8) : regs r l < 4294967296 := by
  induction l generalizing r with
  | nil => rw [regs_nil]; exact h
  | cons x l ih => rw [regs_cons]; exact ih (stpN_lt (xor_byte_lt h x))
/-- More: from the sum s on. -/
def more (s : Nat) (l : List UInt8) : Nat := regs (s ^^^ 4294967295) l ^^^ 4294967295
theorem more_lt {s : Nat} (h : s < 4294967296) (l : List UInt8) : more s l < 4294967296 :=
  by
  have h1 : s ^^^ 4294967295 < 4294967296 := Nat.xor_lt_two_pow (n := 32) (by omega) (by decide)
  have h2 := regs_lt h1 l
  exact Nat.xor_lt_two_pow (n := 32) (by omega) (by decide)
/-- a number's four bytes, the lowest first -/
def four (n : Nat) : List UInt8 := [UInt8.ofNat n, UInt8.ofNat (n / 256), UInt8.ofNat (n / 65536), UInt8.ofNat (n / 16777216)]
def sealed (l : List UInt8) : List UInt8 := l ++ four (more 0 l)
theorem more_append (s : Nat) (l k : List UInt8) : more s (l ++ k) = more (more s l) k := by
  unfold more
  rw [regs_append, Nat.xor_assoc, Nat.xor_self, Nat.xor_zero]
theorem more_nil (s : Nat) : more s [] = s := by
  unfold more
  rw [regs_nil, Nat.xor_assoc, Nat.xor_self, Nat.xor_zero]
end Go.Proofs.Ytmagkejehbaodaa
