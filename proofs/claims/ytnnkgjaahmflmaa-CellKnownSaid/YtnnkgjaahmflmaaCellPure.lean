/- A tree's node: what the code of chapter 6 computes, in plain Lean. -/
import Derived.Test.YtnnkgjaahmflmaaWirePure
namespace Go.Proofs.Ytnnkgjaahmflmaa

structure Cl where
  key : List UInt8
  val : List UInt8
  page : Int
  len : Int
deriving DecidableEq
structure Nd where
  leaf : Bool
  items : List Cl
  kids : List Int
deriving DecidableEq
/-- one string is ahead of another -/
def lt8 (a b : List UInt8) : Bool := Op.bytesLess a b
/-- may an item be in a node? -/
def okItem (x : Cl) (leaf : Bool) : Bool :=
  if x.key.length < 1 ∨ 64 < x.key.length then false
  else if x.page = 0 ∧ x.len = 0 then (leaf && decide (x.val.length ≤ 32)) || decide (x.val = [])
  else leaf && decide (x.val = []) && decide (1 ≤ x.page ∧ x.page ≤ 65535) && decide (1 ≤ x.len ∧ x.len ≤ 4608)
def ahead : Option (List UInt8) → List UInt8 → Bool
  | none, _ => true
  | some p, k => lt8 p k
def okGo (leaf : Bool) (prev : Option (List UInt8)) : List Cl → Bool
  | [] => true
  | x :: r => okItem x leaf && ahead prev x.key && okGo leaf (some x.key) r
/-- the key ahead of a place -/
def pv (l : List Cl) : Nat → Option (List UInt8)
  | 0 => none
  | k + 1 => l[k]?.map Cl.key
def okKid (k : Int) : Bool := decide (1 ≤ k ∧ k ≤ 65535)
def okKids (n : Nd) : Bool :=
  if n.leaf = true then n.kids.isEmpty else decide (0 < n.items.length) && decide (n.kids.length = n.items.length + 1) && n.kids.all okKid
/-- well-formed -/
def right (n : Nd) : Bool := okGo n.leaf none n.items && okKids n
/-- a number's two bytes -/
def two (n : Int) : List UInt8 := [UInt8.ofNat (n % 256).toNat, UInt8.ofNat (n / 256 % 256).toNat]
def formI (leaf : Bool) (x : Cl) (k : Int) : List UInt8 :=
  ut x.key ++ (if leaf = false then two k else if 0 < x.page then uv (2 * x.len + 1).toNat ++ two x.page else uv (2 * x.val.length) ++ x.val)
def formL (leaf : Bool) : List Cl → List Int → List UInt8
  | [], _ => []
  | x :: r, ks => formI leaf x (ks.headD 0) ++ formL leaf r ks.tail
def formH (n : Nd) : List UInt8 := (if n.leaf = true then 1 else 2) :: uv n.items.length ++ (if n.leaf = true then [] else two (n.kids.headD 0))
def form (n : Nd) : List UInt8 := formH n ++ formL n.leaf n.items n.kids.tail
/-- what is wrong with a node -/
def wrong (n : Nd) : Nat := if right n = true then (if 240 < (form n).length then 3 else 0) else 2
def page (n : Nd) : List UInt8 := form n ++ List.replicate (240 - (form n).length) 0
/-- the form up to an item -/
def formU (n : Nd) : Nat → List UInt8
  | 0 => formH n
  | k + 1 => formU n k ++ formI n.leaf (n.items.getD k ⟨[], [], 0, 0⟩) (n.kids.getD (k + 1) 0)
theorem formU_all (n : Nd) : ∀ k, k ≤ n.items.length → formU n k ++ formL n.leaf (n.items.drop k) (n.kids.drop (k + 1)) = form n
  | 0, _ => by simp [formU, form]
  | k + 1, h => by
    have hk : k < n.items.length := by omega
    have ih := formU_all n k (by omega)
    rw [List.drop_eq_getElem_cons hk] at ih
    rw [← ih]
    simp only [formU, formL, List.append_assoc, List.getD_eq_getElem?_getD, List.getElem?_eq_getElem hk, Option.getD_some, List.tail_drop]
    congr 3
    rw [List.headD_eq_head?_getD, List.head?_drop]
theorem formU_end (n : Nd) : formU n n.items.length = form n := by
  have h := formU_all n _ (Nat.le_refl _)
  rwa [List.drop_of_length_le (Nat.le_refl _), formL, List.append_nil] at h
theorem two_len (n : Int) : (two n).length = 2 := rfl
theorem okItem_le {x : Cl} {leaf : Bool} (h : okItem x leaf = true) : 1 ≤ x.key.length ∧ x.key.length ≤ 64 ∧ x.val.length ≤ 32 ∧ 0 ≤ x.page ∧ x.page ≤ 65535 ∧ 0 ≤ x.len ∧ x.len ≤ 4608 := by
  unfold okItem at h
  split at h
  · cases h
  · split at h
    · rename_i h1 h2
      refine ⟨by omega, by omega, ?_, by omega, by omega, by omega, by omega⟩
      simp only [Bool.or_eq_true, Bool.and_eq_true, decide_eq_true_eq] at h
      rcases h with h | h
      · exact h.2
      · simp [h]
    · simp only [Bool.and_eq_true, decide_eq_true_eq] at h
      refine ⟨by omega, by omega, by simp [h.1.1.2], by omega, by omega, by omega, by omega⟩
theorem formI_len {leaf : Bool} {x : Cl} {k : Int} (h : okItem x leaf = true) : (formI leaf x k).length ≤ 130 := by
  have := okItem_le h
  have h1 := uv_len64 (n := x.key.length) (by omega)
  have h2 := uv_len64 (n := (2 * x.len + 1).toNat) (by omega)
  have h3 := uv_len64 (n := 2 * x.val.length) (by omega)
  unfold formI ut
  split
  · simp only [List.length_append, two_len]; omega
  · split <;> simp only [List.length_append, two_len] <;> omega
theorem okGo_at {leaf : Bool} : ∀ {l : List Cl} {p : Option (List UInt8)}, okGo leaf p l = true → ∀ x ∈ l, okItem x leaf = true
  | [], _, _, x, h => by cases h
  | y :: r, p, h, x, hx => by
    simp only [okGo, Bool.and_eq_true] at h
    rcases List.mem_cons.1 hx with rfl | hx
    · exact h.1.1
    · exact okGo_at h.2 x hx
theorem right_at {n : Nd} (h : right n = true) : ∀ x ∈ n.items, okItem x n.leaf = true := okGo_at (by unfold right at h; simp only [Bool.and_eq_true] at h; exact h.1)
theorem right_kids {n : Nd} (h : right n = true) (hl : n.leaf = false) : 0 < n.items.length ∧ n.kids.length = n.items.length + 1 ∧ ∀ k ∈ n.kids, 1 ≤ k ∧ k ≤ 65535 := by
  unfold right okKids at h
  simp only [hl, Bool.and_eq_true, Bool.false_eq_true, if_false, decide_eq_true_eq, List.all_eq_true, okKid] at h
  exact ⟨h.2.1.1, h.2.1.2, h.2.2⟩
theorem formH_len (n : Nd) (h : n.items.length ≤ 1048576) : (formH n).length ≤ 13 := by
  have h1 := uv_len64 (n := n.items.length) (by omega)
  unfold formH
  split <;> simp only [List.length_append, List.length_cons, List.length_nil, two_len] <;> omega
theorem formU_len {n : Nd} (hr : right n = true) (h : n.items.length ≤ 1048576) : ∀ k, k ≤ n.items.length → (formU n k).length ≤ 13 + 130 * k
  | 0, _ => by have := formH_len n h; simp only [formU]; omega
  | k + 1, hk => by
    have ih := formU_len hr h k (by omega)
    have hlt : k < n.items.length := by omega
    have hi := formI_len (k := n.kids.getD (k + 1) 0) (right_at hr n.items[k] (List.getElem_mem hlt))
    simp only [formU, List.length_append, List.getD_eq_getElem?_getD, List.getElem?_eq_getElem hlt, Option.getD_some] at hi ⊢
    omega
theorem form_len {n : Nd} (hr : right n = true) (h : n.items.length ≤ 1048576) : (form n).length ≤ 13 + 130 * n.items.length := by
  rw [← formU_end]; exact formU_len hr h _ (Nat.le_refl _)
end Go.Proofs.Ytnnkgjaahmflmaa
