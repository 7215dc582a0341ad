/- Bits turned over within 32 that follow one another change the sum: over numbers and lists alone. -/
import Derived.Test.YtmagkejehbaodaaSumPure
namespace Go.Proofs.Ytmagkejehbaodaa

theorem mul_pow_xor (k a b : Nat) : 2 ^ k * (a ^^^ b) = 2 ^ k * a ^^^ 2 ^ k * b := by
  apply Nat.eq_of_testBit_eq
  intro i
  rw [Nat.testBit_xor, Nat.testBit_two_pow_mul, Nat.testBit_two_pow_mul, Nat.testBit_two_pow_mul, Nat.testBit_xor]
  by_cases h : k ≤ i <;> simp [h]
/-- bytes as one number, the first byte the lowest -/
def num : List UInt8 → Nat
  | [] => 0
  | x :: l => x.toNat ^^^ 2 ^ 8 * num l
theorem regs_num (r : Nat) (l : List UInt8) : regs r l = stpN (8 * l.length) (r ^^^ num l) := by
  induction l generalizing r with
  | nil => simp [num, stpN]
  | cons x l ih =>
    rw [regs_cons, ih, List.length_cons, show 8 * (l.length + 1) = 8 * l.length + 8 by omega, stpN_add, num, ← Nat.xor_assoc, stpN_xor 8 (r ^^^ x.toNat) (2 ^ 8 * num l), stpN_shl]
theorem num_set (l : List UInt8) (i : Nat) (hi : i < l.length) (x : UInt8) : num (l.set i (l[i] ^^^ x)) = num l ^^^ 2 ^ (8 * i) * x.toNat := by
  induction l generalizing i with
  | nil => simp at hi
  | cons z l ih =>
    cases i with
    | zero =>
      simp only [List.set_cons_zero, List.getElem_cons_zero, num, UInt8.toNat_xor, Nat.mul_zero, Nat.pow_zero, Nat.one_mul]
      ac_rfl
    | succ i =>
      simp only [List.length_cons, Nat.add_lt_add_iff_right] at hi
      simp only [List.set_cons_succ, List.getElem_cons_succ, num]
      rw [ih i hi, mul_pow_xor, ← Nat.mul_assoc, ← Nat.pow_add, show 8 + 8 * i = 8 * (i + 1) by omega, Nat.xor_assoc]
theorem stp_zero {r : Nat} (h : r < 4294967296) (h0 : stp r = 0) : r = 0 := by
  unfold stp at h0
  split at h0
  · have h1 : r / 2 = 3988292384 := by
      have := congrArg (· ^^^ 3988292384) h0
      simp only [Nat.xor_assoc, Nat.xor_self, Nat.xor_zero, Nat.zero_xor] at this
      exact this
    omega
  · omega
theorem stpN_ne {n r : Nat} (h : r < 4294967296) (h0 : r ≠ 0) : stpN n r ≠ 0 := by
  induction n with
  | zero => exact h0
  | succ n ih => exact fun e => ih (stp_zero (stpN_lt h) e)
theorem stpN_zero (n : Nat) : stpN n 0 = 0 := by
  have := stpN_shl n 0
  simpa using this
theorem num_four (n : Nat) (h : n < 4294967296) : num (four n) = n := by
  apply Nat.eq_of_testBit_eq
  intro i
  simp only [num, four, UInt8.toNat_ofNat', Nat.mul_zero, Nat.xor_zero, Nat.testBit_xor, Nat.testBit_two_pow_mul]
  have e1 : n / 256 = n / 2 ^ 8 := rfl
  have e2 : n / 65536 = n / 2 ^ 16 := rfl
  have e3 : n / 16777216 = n / 2 ^ 24 := rfl
  rw [e1, e2, e3]
  simp only [Nat.testBit_mod_two_pow, Nat.testBit_div_two_pow]
  by_cases h32 : i < 32
  · by_cases a : i < 8
    · simp [a, show ¬ 8 ≤ i by omega]
    · by_cases b : i < 16
      · simp [a, show 8 ≤ i by omega, show i - 8 < 8 by omega, show ¬ 8 ≤ i - 8 by omega, show i - 8 + 8 = i by omega]
      · by_cases c : i < 24
        · simp [a, show 8 ≤ i by omega, show ¬ i - 8 < 8 by omega, show 8 ≤ i - 8 by omega, show i - 8 - 8 < 8 by omega, show ¬ 8 ≤ i - 8 - 8 by omega, show i - 8 - 8 + 16 = i by omega]
        · simp [a, show 8 ≤ i by omega, show ¬ i - 8 < 8 by omega, show 8 ≤ i - 8 by omega, show ¬ i - 8 - 8 < 8 by omega, show 8 ≤ i - 8 - 8 by omega, show i - 8 - 8 - 8 < 8 by omega, show i - 8 - 8 - 8 + 24 = i by omega]
  · have hn : n.testBit i = false := Nat.testBit_lt_two_pow (Nat.lt_of_lt_of_le h (show 2 ^ 32 ≤ 2 ^ i from Nat.pow_le_pow_right (by decide) (by omega)))
    simp [hn, show ¬ i < 8 by omega, show ¬ i - 8 < 8 by omega, show ¬ i - 8 - 8 < 8 by omega, show ¬ i - 8 - 8 - 8 < 8 by omega]
theorem regs_sealed (l : List UInt8) : regs 4294967295 (sealed l) = stpN 32 4294967295 := by
  have hm := more_lt (s := 0) (by decide) l
  rw [sealed, regs_append, regs_num _ (four _), num_four _ hm]
  have : (four (more 0 l)).length = 4 := rfl
  rw [this]
  congr 1
  unfold more
  rw [Nat.zero_xor, ← Nat.xor_assoc, Nat.xor_self, Nat.zero_xor]
/-- THE LAW: what differs from sealed bytes by a number of 32 bits, shifted, is not sealed. -/
theorem burst (l t : List UInt8) (p b : Nat) (hlen : t.length = l.length + 4) (hp : p ≤ 8 * t.length) (hb : b < 4294967296) (hb0 : b ≠ 0)
    (hn : num t = num (sealed l) ^^^ 2 ^ p * b) : t ≠ sealed (t.take (t.length - 4)) := by
  intro h
  have h1 : regs 4294967295 t = stpN 32 4294967295 := by rw [h]; exact regs_sealed _
  have h2 := regs_sealed l
  have hls : (sealed l).length = t.length := by simp [sealed, four]; omega
  rw [regs_num] at h1 h2
  rw [hls] at h2
  rw [hn, ← Nat.xor_assoc, stpN_xor, h2] at h1
  have h3 : stpN (8 * t.length) (2 ^ p * b) = 0 := by
    have := congrArg (stpN 32 4294967295 ^^^ ·) h1
    simp only [← Nat.xor_assoc, Nat.xor_self, Nat.zero_xor] at this
    exact this
  have h4 : 8 * t.length = (8 * t.length - p) + p := by omega
  rw [h4, stpN_add, stpN_shl] at h3
  exact stpN_ne hb hb0 h3
/-- the part of the bits that has been turned over behind k rounds: those below the end -/
def part (bits m k : Nat) : Nat := (bits % 2 ^ k) % 2 ^ m
theorem part_zero (bits m : Nat) : part bits m 0 = 0 := by simp [part, Nat.mod_one]
theorem part_yes (bits m k : Nat) (hbit : bits.testBit k = true) (hk : k < m) : part bits m (k + 1) = part bits m k ^^^ 2 ^ k ∧ part bits m (k + 1) ≠ 0 := by
  have h : part bits m (k + 1) = part bits m k ^^^ 2 ^ k := by
    apply Nat.eq_of_testBit_eq
    intro i
    simp only [part, Nat.testBit_xor, Nat.testBit_mod_two_pow, Nat.testBit_two_pow]
    by_cases e : k = i
    · subst e; simp [hbit, hk]
    · have : (i < k + 1) = (i < k) := by apply propext; omega
      simp [e, this]
  refine ⟨h, fun e => ?_⟩
  have := congrArg (·.testBit k) e
  simp [part, Nat.testBit_mod_two_pow, hbit, hk] at this
theorem part_no (bits m k : Nat) (h : ¬ (bits.testBit k = true ∧ k < m)) : part bits m (k + 1) = part bits m k := by
  apply Nat.eq_of_testBit_eq
  intro i
  simp only [part, Nat.testBit_mod_two_pow]
  by_cases e : k = i
  · subst e
    by_cases hk : k < m
    · simp [hk] at h; simp [hk, h]
    · simp [hk]
  · have : (i < k + 1) = (i < k) := by apply propext; omega
    simp [this]
theorem part_lt (bits m k : Nat) (h : bits < 4294967296) : part bits m k < 4294967296 := by
  unfold part
  exact Nat.lt_of_le_of_lt (Nat.le_trans (Nat.mod_le _ _) (Nat.mod_le _ _)) h
/-- a round that turns a bit over -/
theorem turn_num (t : List UInt8) (at_ : Nat) (hat : at_ < 8 * t.length) : num (t.set (at_ / 8) (t[at_ / 8]'(by omega) ^^^ UInt8.ofNat (2 ^ (at_ % 8)))) = num t ^^^ 2 ^ at_ := by
  rw [num_set t (at_ / 8) (by omega)]
  congr 1
  have h : 2 ^ (at_ % 8) < 256 := Nat.lt_of_lt_of_le (Nat.pow_lt_pow_right (by decide) (Nat.mod_lt at_ (show 8 > 0 by decide))) (by decide)
  rw [UInt8.toNat_ofNat', Nat.mod_eq_of_lt h, ← Nat.pow_add]
  congr 1; omega
end Go.Proofs.Ytmagkejehbaodaa
