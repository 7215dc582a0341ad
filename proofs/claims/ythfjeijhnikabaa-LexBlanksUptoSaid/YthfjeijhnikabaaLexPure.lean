/- What the lexer computes, in plain Lean. -/
import Derived.Test.YthfjeijhnikabaaJLib
namespace Go.Proofs.Ythfjeijhnikabaa

/-- a byte of a text, a join told as a blank: how many bytes it takes, where it stands -/
structure Tok where
  c : UInt8
  n : Nat
  pos : Nat
/-- the next byte, and how many bytes of the text it takes -/
def pk : List UInt8 → UInt8 × Nat
  | [] => (0, 0)
  | [c] => (c, 1)
  | c :: d :: _ => if c = 92 ∧ d = 10 then (32, 2) else (c, 1)
def toks : List UInt8 → Nat → List Tok
  | [], _ => []
  | [c], k => [⟨c, 1, k⟩]
  | c :: d :: r, k => if c = 92 ∧ d = 10 then ⟨32, 2, k⟩ :: toks r (k + 2) else ⟨c, 1, k⟩ :: toks (d :: r) (k + 1)
theorem toks_nil (k : Nat) : toks [] k = [] := rfl
theorem toks_step {l : List UInt8} (h : l ≠ []) (k : Nat) : toks l k = ⟨(pk l).1, (pk l).2, k⟩ :: toks (l.drop (pk l).2) (k + (pk l).2) := by
  match l, h with
  | [c], _ => rfl
  | c :: d :: r, _ =>
    have e : toks (c :: d :: r) k = if c = 92 ∧ d = 10 then ⟨32, 2, k⟩ :: toks r (k + 2) else ⟨c, 1, k⟩ :: toks (d :: r) (k + 1) := by rw [toks]
    rw [e]
    unfold pk
    by_cases hc : c = 92 ∧ d = 10
    · simp only [if_pos hc]; rfl
    · simp only [if_neg hc]; rfl
theorem pk_pos {l : List UInt8} (h : l ≠ []) : 1 ≤ (pk l).2 ∧ (pk l).2 ≤ 2 ∧ (pk l).2 ≤ l.length := by
  match l, h with
  | [c], _ => simp [pk]
  | c :: d :: r, _ =>
    unfold pk
    by_cases hc : c = 92 ∧ d = 10
    · simp only [if_pos hc]; simp
    · simp only [if_neg hc]; simp
/-- line and column behind so many bytes -/
def lcStep (p : Nat × Nat) (c : UInt8) : Nat × Nat := if c = 10 then (p.1 + 1, 0) else (p.1, p.2 + 1)
def lc (l : List UInt8) : Nat × Nat := l.foldl lcStep (1, 0)
theorem lc_snoc (l : List UInt8) (c : UInt8) : lc (l ++ [c]) = lcStep (lc l) c := by simp [lc]
def ln (s : List UInt8) (k : Nat) : Nat := (lc (s.take k)).1
def cl (s : List UInt8) (k : Nat) : Nat := (lc (s.take k)).2
theorem lc_at {s : List UInt8} {k : Nat} {c : UInt8} (h : s[k]? = some c) : lc (s.take (k + 1)) = lcStep (lc (s.take k)) c := by
  obtain ⟨h1, h2⟩ := List.getElem?_eq_some_iff.1 h
  rw [List.take_succ_eq_append_getElem h1, lc_snoc, h2]
theorem lc_le (l : List UInt8) : 1 ≤ (lc l).1 ∧ (lc l).1 ≤ l.length + 1 ∧ (lc l).2 ≤ l.length := by
  have key : ∀ (l : List UInt8) (p : Nat × Nat), p.1 ≤ (l.foldl lcStep p).1 ∧ (l.foldl lcStep p).1 ≤ p.1 + l.length ∧ (l.foldl lcStep p).2 ≤ p.2 + l.length := by
    intro l
    induction l with
    | nil => intro p; simp
    | cons c l ih =>
      intro p
      have h := ih (lcStep p c)
      simp only [List.foldl_cons, List.length_cons]
      unfold lcStep at h ⊢
      split at h <;> simp_all <;> omega
  have h := key l (1, 0)
  simp only [lc]
  omega
theorem ln_le (s : List UInt8) (k : Nat) (hk : k ≤ s.length) : 1 ≤ ln s k ∧ ln s k ≤ k + 1 ∧ cl s k ≤ k := by
  have h := lc_le (s.take k)
  have : (s.take k).length = k := by simp [hk]
  rw [this] at h
  exact h
/-- the place behind the next byte or join -/
theorem lc_next {s : List UInt8} {k : Nat} (h : k < s.length) :
    lc (s.take (k + (pk (s.drop k)).2)) = if s[k + (pk (s.drop k)).2 - 1]? = some 10 then (ln s k + 1, 0) else (ln s k, cl s k + (pk (s.drop k)).2) := by
  have h1 : s[k]? = some s[k] := List.getElem?_eq_getElem h
  have hd : s.drop k = s[k] :: s.drop (k + 1) := List.drop_eq_getElem_cons h
  by_cases h2 : k + 1 < s.length
  · have h3 : s[k + 1]? = some s[k + 1] := List.getElem?_eq_getElem h2
    have hd2 : s.drop (k + 1) = s[k + 1] :: s.drop (k + 2) := List.drop_eq_getElem_cons h2
    rw [hd, hd2]
    unfold pk
    by_cases hc : s[k] = 92 ∧ s[k + 1] = 10
    · simp only [if_pos hc]
      rw [show k + 2 - 1 = k + 1 by omega, h3, hc.2, if_pos rfl, show k + 2 = (k + 1) + 1 from rfl, lc_at h3, lc_at h1, hc.1, hc.2]
      rfl
    · simp only [if_neg hc]
      rw [show k + 1 - 1 = k by omega, h1, lc_at h1]
      unfold lcStep ln cl
      simp only [Option.some.injEq]
  · have : s.drop (k + 1) = [] := List.drop_of_length_le (by omega)
    rw [hd, this]
    unfold pk
    simp only []
    rw [show k + 1 - 1 = k by omega, h1, lc_at h1]
    unfold lcStep ln cl
    simp only [Option.some.injEq]
end Go.Proofs.Ythfjeijhnikabaa
