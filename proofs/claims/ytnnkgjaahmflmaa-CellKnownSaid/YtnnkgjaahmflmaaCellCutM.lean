/- Parts of lists in memory; fresh boxes. -/
import Derived.Test.YtnnkgjaahmflmaaCellCutP
import Derived.Test.YtnnkgjaahmflmaaCellForms
namespace Go.Proofs.Ytnnkgjaahmflmaa
open Go.RowKit
set_option linter.unusedVariables false

theorem clC_take : ∀ (l : List Cl) (i : Nat), clC (l.take i) = (clC l).take (i * 4)
  | [], i => by simp [clC]
  | x :: r, 0 => by simp [clC]
  | x :: r, i + 1 => by
    rw [show (i + 1) * 4 = i * 4 + 1 + 1 + 1 + 1 by omega]
    simp only [List.take_succ_cons, clC, clC_take r i]
theorem clC_drop : ∀ (l : List Cl) (i : Nat), clC (l.drop i) = (clC l).drop (i * 4)
  | [], i => by simp [clC]
  | x :: r, 0 => by simp [clC]
  | x :: r, i + 1 => by
    rw [show (i + 1) * 4 = i * 4 + 1 + 1 + 1 + 1 by omega]
    simp only [List.drop_succ_cons, clC, clC_drop r i]
theorem kcs_take (l : List Int) (i : Nat) : kcs (l.take i) = (kcs l).take i := by simp [kcs]
theorem kcs_drop (l : List Int) (i : Nat) : kcs (l.drop i) = (kcs l).drop i := by simp [kcs]
theorem Sl.to {J : Jm} {size m c : Nat} {A : Option Addr} {cs : List Value} (h : Sl J size (.slice A m c) m cs) {n : Nat} (hn : n ≤ m) : Sl J size (.slice A n c) n (cs.take (n * size)) := by
  obtain ⟨hl, A', c', hv, hc, hm, h0, ha⟩ := h
  cases hv
  have hms : n * size ≤ m * size := Nat.mul_le_mul_right _ hn
  refine ⟨by rw [List.length_take]; omega, A, c, rfl, by omega, hm, h0, fun a e => ?_⟩
  rcases ha a e with h | ⟨h1, h2⟩
  · left; omega
  · right
    refine ⟨h1, ?_⟩
    rw [← h2, List.take_take]
    congr 1; omega
theorem addr_parts (a : Addr) (n : Nat) : (a.add n).block = a.block ∧ (a.add n).off = a.off + n ∧ (a.spot = none → (a.add n).spot = none) := by
  unfold Addr.add
  split
  · rename_i h; subst h; exact ⟨rfl, rfl, id⟩
  · exact ⟨rfl, rfl, fun _ => rfl⟩
theorem Sl.behind {J : Jm} {size m c : Nat} {A : Option Addr} {cs : List Value} (h : Sl J size (.slice A m c) m cs) {n : Nat} (hn : n ≤ m) : Sl J size (.slice (if c = n then A else A.map (·.add (n * size))) (m - n) (c - n)) (m - n) (cs.drop (n * size)) := by
  obtain ⟨hl, A', c', hv, hc, hm, h0, ha⟩ := h
  cases hv
  have hms : n * size ≤ m * size := Nat.mul_le_mul_right _ hn
  refine ⟨by rw [List.length_drop, hl, Nat.sub_mul], _, _, rfl, by omega, by omega, ?_, ?_⟩
  · intro e
    have : A = none := by
      split at e
      · exact e
      · cases A with
        | none => rfl
        | some a => cases e
    have := h0 this
    omega
  · intro a e
    by_cases hz : m - n = 0
    · exact .inl hz
    · right
      rw [if_neg (by omega)] at e
      cases A with
      | none => cases e
      | some a0 =>
        cases e
        obtain ⟨p1, p2, p3⟩ := addr_parts a0 (n * size)
        obtain ⟨q1, q2⟩ := (ha a0 rfl).resolve_left (by omega)
        refine ⟨p3 q1, ?_⟩
        rw [p1, p2, ← q2, List.drop_take, List.drop_drop, Nat.sub_mul]
/-- a fresh box -/
structure Fr (J0 : Jm) (B : Nat) (J : Jm) (X : World) (b : Nat) (l : Bool) (vi vk : Value) : Prop where
  bx : NBox X b l vi vk
  lo : B ≤ b
  jb : J b = []
theorem Fr.new {J0 J : Jm} {B : Nat} {X : World} (hI : Inv J X) (hB : B ≤ X.heap.size) (l : Bool) (vi vk : Value) : Fr J0 B J (X.alloc (.cells #[.bool l, vi, vk] 25)) X.heap.size l vi vk :=
  ⟨heap_alloc_new X _, hB, hI.nil (Nat.le_refl _)⟩
theorem Fr.ext {J0 J J' : Jm} {B : Nat} {X X' : World} {b : Nat} {l : Bool} {vi vk : Value} (h : Fr J0 B J X b l vi vk) (hE : Ext J X J' X') : Fr J0 B J' X' b l vi vk :=
  ⟨h.bx.ext hE, h.lo, (hE.old b (Array.getElem?_eq_some_iff.1 h.bx).1).trans h.jb⟩
theorem Fr.lt {J0 J : Jm} {B : Nat} {X : World} {b : Nat} {l : Bool} {vi vk : Value} (h : Fr J0 B J X b l vi vk) : b < X.heap.size := (Array.getElem?_eq_some_iff.1 h.bx).1
end Go.Proofs.Ytnnkgjaahmflmaa
