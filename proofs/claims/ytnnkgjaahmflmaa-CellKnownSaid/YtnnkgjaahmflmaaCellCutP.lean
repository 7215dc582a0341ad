/- Parting a node, in plain Lean. -/
import Derived.Test.YtnnkgjaahmflmaaCellOrd
namespace Go.Proofs.Ytnnkgjaahmflmaa
set_option linter.unusedVariables false

def cutA (n : Nd) (i : Nat) : Nd := ⟨n.leaf, n.items.take i, if n.leaf = true then [] else n.kids.take (i + 1)⟩
def cutB (n : Nd) (i : Nat) : Nd := if n.leaf = true then ⟨true, n.items.drop i, []⟩ else ⟨false, n.items.drop (i + 1), n.kids.drop (i + 1)⟩
def lastN (n : Nd) : Nat := if n.leaf = true then n.items.length else n.items.length - 1
def szN (n : Nd) (i : Nat) : Nat := max (form (cutA n i)).length (form (cutB n i)).length
/-- the best of the places 1 .. k -/
def best (n : Nd) : Nat → Nat
  | 0 => 0
  | k + 1 => if best n k = 0 ∨ szN n (k + 1) < szN n (best n k) then k + 1 else best n k
theorem best_le (n : Nd) : ∀ k, best n k ≤ k
  | 0 => Nat.le_refl _
  | k + 1 => by unfold best; have := best_le n k; split <;> omega
theorem best_pos (n : Nd) : ∀ k, 0 < k → 0 < best n k
  | k + 1, _ => by
    unfold best
    split
    · omega
    · rename_i h; omega
theorem best_min (n : Nd) : ∀ k i, 1 ≤ i → i ≤ k → szN n (best n k) ≤ szN n i
  | 0, i, h1, h2 => by omega
  | k + 1, i, h1, h2 => by
    unfold best
    by_cases hi : i = k + 1
    · subst hi
      split
      · exact Nat.le_refl _
      · omega
    · have ih := best_min n k i h1 (by omega)
      split
      · rename_i h
        rcases h with h | h
        · have := best_pos n k (by omega); omega
        · omega
      · exact ih
/-- where a node is parted: 0: nowhere -/
def halfAt (n : Nd) : Nat := best n (lastN n - 1)
theorem okGo_take {leaf : Bool} : ∀ {l : List Cl} {p : Option (List UInt8)} (i : Nat), okGo leaf p l = true → okGo leaf p (l.take i) = true
  | [], _, i, _ => by simp [okGo]
  | x :: r, p, 0, _ => rfl
  | x :: r, p, i + 1, h => by
    simp only [okGo, Bool.and_eq_true, List.take_succ_cons] at h ⊢
    exact ⟨h.1, okGo_take i h.2⟩
theorem okGo_any {leaf : Bool} : ∀ {l : List Cl} {p : Option (List UInt8)}, okGo leaf p l = true → okGo leaf none l = true
  | [], _, _ => rfl
  | x :: r, p, h => by
    simp only [okGo, Bool.and_eq_true] at h ⊢
    exact ⟨⟨h.1.1, rfl⟩, h.2⟩
theorem okGo_dropN {leaf : Bool} : ∀ {l : List Cl} {p : Option (List UInt8)} (i : Nat), okGo leaf p l = true → okGo leaf none (l.drop i) = true
  | l, p, 0, h => okGo_any h
  | [], _, i + 1, _ => rfl
  | x :: r, p, i + 1, h => by
    simp only [okGo, Bool.and_eq_true, List.drop_succ_cons] at h ⊢
    exact okGo_dropN i h.2
theorem all_take' {α : Type} {p : α → Bool} {l : List α} (h : l.all p = true) (i : Nat) : (l.take i).all p = true := by
  rw [List.all_eq_true] at *; exact fun x hx => h x (List.mem_of_mem_take hx)
theorem all_drop' {α : Type} {p : α → Bool} {l : List α} (h : l.all p = true) (i : Nat) : (l.drop i).all p = true := by
  rw [List.all_eq_true] at *; exact fun x hx => h x (List.mem_of_mem_drop hx)
theorem right_cut {n : Nd} (h : right n = true) {i : Nat} (h1 : 1 ≤ i) (h2 : i < lastN n) : right (cutA n i) = true ∧ right (cutB n i) = true := by
  obtain ⟨leaf, items, kids⟩ := n
  unfold right okKids at h
  unfold lastN at h2
  simp only [Bool.and_eq_true] at h h2
  cases leaf with
  | true =>
    simp only [if_true] at h h2
    unfold right okKids cutA cutB
    simp only [if_true, Bool.and_eq_true]
    exact ⟨⟨okGo_take i h.1, rfl⟩, ⟨okGo_dropN i h.1, rfl⟩⟩
  | false =>
    simp only [Bool.false_eq_true, if_false, Bool.and_eq_true, decide_eq_true_eq] at h h2
    unfold right okKids cutA cutB
    simp only [Bool.false_eq_true, if_false, Bool.and_eq_true, decide_eq_true_eq]
    refine ⟨⟨okGo_take i h.1, ⟨?_, ?_⟩, all_take' h.2.2 _⟩, ⟨okGo_dropN (i + 1) h.1, ⟨?_, ?_⟩, all_drop' h.2.2 _⟩⟩
    all_goals simp only [List.length_take, List.length_drop]; omega
end Go.Proofs.Ytnnkgjaahmflmaa
