/- Where lines begin: in plain Lean. -/
import Derived.Test.YthfjeijhnikabaaLexRows
import Derived.Test.YthfjeijhnikabaaLexTwoP
namespace Go.Proofs.Ythfjeijhnikabaa
open Go.RowKit
set_option linter.unusedVariables false

/-- where the lines of the first k bytes begin -/
def st (s : List UInt8) : Nat → List Nat
  | 0 => [0]
  | k + 1 => if s[k]? = some 10 then st s k ++ [k + 1] else st s k
theorem st_len (s : List UInt8) : ∀ k, k ≤ s.length → (st s k).length = ln s k ∧ (st s k)[ln s k - 1]? = some (k - cl s k) ∧ cl s k ≤ k := by
  intro k
  induction k with
  | zero => intro _; exact ⟨rfl, rfl, Nat.zero_le _⟩
  | succ k ih =>
    intro h
    obtain ⟨h1, h2, h3⟩ := ih (by omega)
    obtain ⟨c, hc⟩ : ∃ c, s[k]? = some c := ⟨_, List.getElem?_eq_getElem (by omega)⟩
    have h4 := lc_succ hc
    have h5 := ln_le s k (by omega)
    unfold st
    by_cases e : c = 10
    · obtain ⟨a, b⟩ := h4.1 e
      rw [hc, e, if_pos rfl, a, b]
      refine ⟨by simp [h1], ?_, Nat.zero_le _⟩
      rw [List.getElem?_append_right (by omega), h1]
      simp
    · obtain ⟨a, b⟩ := h4.2 e
      rw [hc, if_neg (by simpa using e), a, b]
      exact ⟨h1, by rw [h2]; congr 1; omega, by omega⟩
theorem st_prefix (s : List UInt8) (k : Nat) : ∀ d, st s k <+: st s (k + d)
  | 0 => List.prefix_refl _
  | d + 1 => by
    have h := st_prefix s k d
    have e : st s (k + (d + 1)) = if s[k + d]? = some 10 then st s (k + d) ++ [k + d + 1] else st s (k + d) := rfl
    rw [e]
    split
    · exact h.trans (List.prefix_append _ _)
    · exact h
theorem st_at {s : List UInt8} {p : Nat} (hp : p ≤ s.length) : (st s s.length)[ln s p - 1]? = some (p - cl s p) ∧ cl s p ≤ p ∧ 1 ≤ ln s p ∧ ln s p ≤ (st s s.length).length := by
  obtain ⟨h1, h2, h3⟩ := st_len s p hp
  have h4 := ln_le s p hp
  obtain ⟨d, hd⟩ := Nat.exists_eq_add_of_le hp
  obtain ⟨r, hr⟩ := st_prefix s p d
  rw [← hd] at hr
  rw [← hr, List.length_append, h1]
  refine ⟨?_, h3, h4.1, by omega⟩
  rw [List.getElem?_append_left (by omega)]
  exact h2
theorem st_le (s : List UInt8) (k : Nat) (hk : k ≤ s.length) : (st s k).length ≤ k + 1 := by
  rw [(st_len s k hk).1]; exact (ln_le s k hk).2.1
/-- whole numbers as cells -/
def ncs (l : List Nat) : List Value := l.map fun (n : Nat) => .int .i64 (n : Int)
@[simp] theorem ncs_length (l : List Nat) : (ncs l).length = l.length := by simp [ncs]
theorem ncs_append (l k : List Nat) : ncs (l ++ k) = ncs l ++ ncs k := by simp [ncs]
theorem ncs_get (l : List Nat) (j : Nat) : (ncs l)[j]? = l[j]?.map fun (n : Nat) => Value.int .i64 (n : Int) := by simp [ncs]
theorem ncs_one (l : List Nat) : ∀ u ∈ ncs l, u.oneCell' = true := by
  intro u hu
  simp only [ncs, List.mem_map] at hu
  obtain ⟨b, _, rfl⟩ := hu
  rfl
abbrev Rn (J : Jm) (w : World) (B : Nat) (v : Value) (l : List Nat) : Prop := Own J w B 3 1 v l.length (ncs l)
theorem info_int : (Try.prog.info? 3).map (fun i => (i.zero, i.size, i.bytes)) = some (some (.int .i64 0), 1, 8) := by kernel_rfl
theorem Own.litN {J : Jm} {w : World} (_hI : Inv J w) (l : List Nat) {n : Nat} (hn : l.length = n) (hm : n ≤ maxLen) :
    Own (J.put w.heap.size (ncs l)) (w.alloc (.cells (ncs l).toArray 3)) w.heap.size 3 1 (.slice (some ⟨w.heap.size, 0, none⟩) n n) n (ncs l) := by
  subst hn
  refine ⟨⟨by simp, .inr ⟨w.heap.size, l.length, (ncs l).toArray, rfl, Nat.le_refl _, heap_alloc_new _ _, Nat.le_refl _, hm, by simp, ?_⟩⟩, fun b h => ?_⟩
  · simp [List.take_of_length_le]
  · simp [Value.ownBlock] at h; subst h; exact Jm.put_same _ _ _
theorem Rn.lit {J : Jm} {w : World} {B n m : Nat} {v : Value} {pre l : List Nat} (h : Own J w B 3 1 v (n + m) (ncs pre ++ ncs l)) (hn : n = pre.length) (hm : m = l.length) : Rn J w B v (pre ++ l) := by
  subst hn hm; unfold Rn; rw [List.length_append, ncs_append]; exact h
theorem RunL.drop {s : List UInt8} : ∀ {ls : List Ln} {lo hi : Nat}, RunL s lo ls hi → ls = [] ∨ ∃ l r k mid, ls = l :: r ∧ lo ≤ k ∧ l.ws ≠ [] ∧ LineAt s k l ∧ Run s k l.ws mid ∧ RunL s mid r hi
  | [], _, _, _ => .inl rfl
  | l :: r, lo, hi, ⟨k, mid, h1, h2, h3, h4, h5⟩ => .inr ⟨l, r, k, mid, rfl, h1, h2, h3, h4, h5⟩
theorem ln_up {s : List UInt8} {p q : Nat} (h : p ≤ q) (hq : q ≤ s.length) : ln s p ≤ ln s q := by
  obtain ⟨d, rfl⟩ := Nat.exists_eq_add_of_le h
  rcases lc_mono d hq with h | ⟨h, _⟩ <;> omega
end Go.Proofs.Ythfjeijhnikabaa
