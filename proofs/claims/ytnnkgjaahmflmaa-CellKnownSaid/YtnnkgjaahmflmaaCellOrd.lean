/- Keys in order, in plain Lean. -/
import Derived.Test.YtnnkgjaahmflmaaCellPure
namespace Go.Proofs.Ytnnkgjaahmflmaa
set_option linter.unusedVariables false

theorem lt8_nil (a : List UInt8) : lt8 a [] = false := by unfold lt8; cases a <;> simp [Op.bytesLess]
theorem lt8_nc (y : UInt8) (b : List UInt8) : lt8 [] (y :: b) = true := by unfold lt8; simp [Op.bytesLess]
theorem lt8_cc (x y : UInt8) (a b : List UInt8) : lt8 (x :: a) (y :: b) = true ↔ x.toNat < y.toNat ∨ (x = y ∧ lt8 a b = true) := by
  unfold lt8
  simp only [Op.bytesLess, Bool.or_eq_true, Bool.and_eq_true, decide_eq_true_eq, beq_iff_eq]
  rw [UInt8.lt_iff_toNat_lt]
theorem lt8_irr : ∀ a : List UInt8, ¬ lt8 a a = true
  | [], h => by rw [lt8_nil] at h; cases h
  | x :: a, h => by
    rcases (lt8_cc x x a a).1 h with h | h
    · omega
    · exact lt8_irr a h.2
theorem lt8_trans : ∀ {a b c : List UInt8}, lt8 a b = true → lt8 b c = true → lt8 a c = true
  | _, [], _, h, _ => by rw [lt8_nil] at h; cases h
  | _, _ :: _, [], _, h => by rw [lt8_nil] at h; cases h
  | [], _ :: _, z :: c, _, _ => lt8_nc z c
  | x :: a, y :: b, z :: c, h, k => by
    rw [lt8_cc] at *
    rcases h with h | ⟨rfl, h⟩
    · rcases k with k | ⟨rfl, k⟩
      · left; omega
      · left; exact h
    · rcases k with k | ⟨rfl, k⟩
      · left; exact k
      · right; exact ⟨rfl, lt8_trans h k⟩
theorem lt8_tri : ∀ a b : List UInt8, lt8 a b = true ∨ a = b ∨ lt8 b a = true
  | [], [] => .inr (.inl rfl)
  | [], y :: b => .inl (lt8_nc y b)
  | x :: a, [] => .inr (.inr (lt8_nc x a))
  | x :: a, y :: b => by
    rw [lt8_cc, lt8_cc]
    by_cases h1 : x.toNat < y.toNat
    · exact .inl (.inl h1)
    · by_cases h2 : y.toNat < x.toNat
      · exact .inr (.inr (.inl h2))
      · have hxy : x = y := UInt8.toNat_inj.1 (by omega)
        subst hxy
        rcases lt8_tri a b with h | rfl | h
        · exact .inl (.inr ⟨rfl, h⟩)
        · exact .inr (.inl rfl)
        · exact .inr (.inr (.inr ⟨rfl, h⟩))
theorem lt8_asym {a b : List UInt8} (h : lt8 a b = true) : lt8 b a = false := by
  cases hb : lt8 b a with
  | false => rfl
  | true => exact absurd (lt8_trans h hb) (lt8_irr a)
/-- not behind is ahead or the same -/
theorem lt8_ge {a b : List UInt8} (h : lt8 a b = false) (hne : a ≠ b) : lt8 b a = true := by
  rcases lt8_tri a b with h' | h' | h'
  · rw [h] at h'; cases h'
  · exact absurd h' hne
  · exact h'
/-- keys in order -/
def Srt (l : List Cl) : Prop := l.Pairwise fun x y => lt8 x.key y.key = true
theorem okGo_srt {leaf : Bool} : ∀ {l : List Cl} {p : Option (List UInt8)}, okGo leaf p l = true → Srt l ∧ ∀ q, p = some q → ∀ x ∈ l, lt8 q x.key = true
  | [], _, _ => ⟨List.Pairwise.nil, fun q _ x h => by cases h⟩
  | y :: r, p, h => by
    simp only [okGo, Bool.and_eq_true] at h
    obtain ⟨hs, ha⟩ := okGo_srt h.2
    refine ⟨List.pairwise_cons.2 ⟨fun z hz => ha y.key rfl z hz, hs⟩, fun q hq x hx => ?_⟩
    subst hq
    rcases List.mem_cons.1 hx with rfl | hx
    · exact h.1.2
    · exact lt8_trans h.1.2 (ha y.key rfl x hx)
theorem right_srt {n : Nd} (h : right n = true) : Srt n.items := by
  unfold right at h
  simp only [Bool.and_eq_true] at h
  exact (okGo_srt h.1).1
def hitF (leaf : Bool) (key : List UInt8) (x : Cl) : Bool := lt8 x.key key || (!leaf && decide (x.key = key))
def findI (n : Nd) (key : List UInt8) : Nat := (n.items.filter (hitF n.leaf key)).length
def findB (n : Nd) (key : List UInt8) : Bool := n.items.any fun x => decide (x.key = key)
/-- the first place whose key is not ahead of a key -/
structure At (l : List Cl) (key : List UInt8) (r : Nat) : Prop where
  le : r ≤ l.length
  lo : ∀ i (h : i < l.length), i < r → lt8 l[i].key key = true
  hi : ∀ (h : r < l.length), lt8 l[r].key key = false
theorem At.above {l : List Cl} {key : List UInt8} {r : Nat} (hs : Srt l) (h : At l key r) : ∀ i (hi : i < l.length), r < i → lt8 key l[i].key = true := by
  intro i hi hr
  have h1 := h.hi (by omega)
  have h2 : lt8 l[r].key l[i].key = true := List.pairwise_iff_getElem.1 hs r i (by omega) hi hr
  rcases lt8_tri key l[r].key with h3 | h3 | h3
  · exact lt8_trans h3 h2
  · rw [h3]; exact h2
  · rw [h1] at h3; cases h3
theorem filter_all {α : Type} {p : α → Bool} : ∀ {l : List α}, (∀ x ∈ l, p x = true) → l.filter p = l
  | [], _ => rfl
  | x :: r, h => by rw [List.filter_cons, if_pos (h x List.mem_cons_self), filter_all fun y hy => h y (List.mem_cons_of_mem _ hy)]
theorem filter_none {α : Type} {p : α → Bool} : ∀ {l : List α}, (∀ x ∈ l, p x = false) → l.filter p = []
  | [], _ => rfl
  | x :: r, h => by rw [List.filter_cons, if_neg (by rw [h x List.mem_cons_self]; decide), filter_none fun y hy => h y (List.mem_cons_of_mem _ hy)]
theorem find_at {n : Nd} {key : List UInt8} {r : Nat} (hs : Srt n.items) (h : At n.items key r) :
    findB n key = (if hr : r < n.items.length then decide (n.items[r].key = key) else false) ∧ findI n key = r + (if findB n key = true ∧ n.leaf = false then 1 else 0) := by
  have habove := h.above hs
  have hlt : ∀ x ∈ n.items.take r, lt8 x.key key = true := by
    intro x hx
    obtain ⟨i, hi, rfl⟩ := List.mem_iff_getElem.1 hx
    rw [List.getElem_take]
    rw [List.length_take] at hi
    exact h.lo i (by omega) (by omega)
  have hne : ∀ x ∈ n.items.take r, ¬ x.key = key := fun x hx e => by
    have := hlt x hx
    rw [e] at this
    exact lt8_irr key this
  have hlen : (n.items.take r).length = r := by rw [List.length_take]; have := h.le; omega
  have htk : (n.items.take r).filter (hitF n.leaf key) = n.items.take r := filter_all fun x hx => by unfold hitF; rw [hlt x hx]; rfl
  have hB0 : (n.items.take r).any (fun x => decide (x.key = key)) = false := List.any_eq_false.2 fun x hx => by simpa using hne x hx
  by_cases hr : r < n.items.length
  · have hsp : n.items = n.items.take r ++ (n.items[r] :: n.items.drop (r + 1)) := by rw [← List.drop_eq_getElem_cons hr, List.take_append_drop]
    have hgt : ∀ x ∈ n.items.drop (r + 1), lt8 key x.key = true := by
      intro x hx
      obtain ⟨i, hi, rfl⟩ := List.mem_iff_getElem.1 hx
      rw [List.getElem_drop]
      rw [List.length_drop] at hi
      exact habove _ (by omega) (by omega)
    have hd0 : (n.items.drop (r + 1)).filter (hitF n.leaf key) = [] := filter_none fun x hx => by
      have h1 := hgt x hx
      have h2 : ¬ x.key = key := fun e => by rw [e] at h1; exact lt8_irr key h1
      unfold hitF
      rw [lt8_asym h1, decide_eq_false h2]; simp
    have hdB : (n.items.drop (r + 1)).any (fun x => decide (x.key = key)) = false := List.any_eq_false.2 fun x hx => by
      have h1 := hgt x hx
      have h2 : ¬ x.key = key := fun e => by rw [e] at h1; exact lt8_irr key h1
      simpa using h2
    have hB : findB n key = decide (n.items[r].key = key) := by
      unfold findB
      conv => lhs; rw [hsp]
      rw [List.any_append, List.any_cons, hB0, hdB]
      simp
    refine ⟨by rw [dif_pos hr]; exact hB, ?_⟩
    have hI : findI n key = r + (if hitF n.leaf key n.items[r] = true then 1 else 0) := by
      unfold findI
      conv => lhs; rw [hsp]
      rw [List.filter_append, htk, List.filter_cons, hd0]
      split <;> simp <;> omega
    rw [hI, hB]
    have h1 := h.hi hr
    unfold hitF
    rw [h1]
    congr 1
    by_cases hk : n.items[r].key = key <;> cases n.leaf <;> simp [hk]
  · obtain rfl : r = n.items.length := by have := h.le; omega
    rw [List.take_of_length_le (Nat.le_refl _)] at htk hB0
    have hB : findB n key = false := hB0
    refine ⟨by rw [dif_neg hr]; exact hB, ?_⟩
    rw [hB]
    unfold findI
    rw [htk]; simp
end Go.Proofs.Ytnnkgjaahmflmaa
