/- Nodes as they stand in memory. -/
import Derived.Test.YtnnkgjaahmflmaaCellPure
import Derived.Test.YtnnkgjaahmflmaaJStr
namespace Go.Proofs.Ytnnkgjaahmflmaa
open Go.RowKit
set_option linter.unusedVariables false

def clV (x : Cl) : Value := .agg #[.string (strB x.key), .string (strB x.val), .int .i64 x.page, .int .i64 x.len]
def clC : List Cl → List Value
  | [] => []
  | x :: r => .string (strB x.key) :: .string (strB x.val) :: .int .i64 x.page :: .int .i64 x.len :: clC r
theorem clC_length (l : List Cl) : (clC l).length = l.length * 4 := by
  induction l with
  | nil => rfl
  | cons a r ih => simp only [clC, List.length_cons, ih]; omega
theorem clC_append (l k : List Cl) : clC (l ++ k) = clC l ++ clC k := by
  induction l with
  | nil => rfl
  | cons a r ih => simp only [List.cons_append, clC, ih]
theorem clC_one (l : List Cl) : ∀ u ∈ clC l, u.oneCell' = true := by
  induction l with
  | nil => intro u hu; cases hu
  | cons a r ih =>
    intro u hu
    simp only [clC, List.mem_cons] at hu
    rcases hu with rfl | rfl | rfl | rfl | hu
    · rfl
    · rfl
    · rfl
    · rfl
    · exact ih u hu
theorem clC_at : ∀ (l : List Cl) (k : Nat) (hk : k < l.length), (clC l)[k * 4]? = some (.string (strB l[k].key)) ∧ (clC l)[k * 4 + 1]? = some (.string (strB l[k].val)) ∧ (clC l)[k * 4 + 2]? = some (.int .i64 l[k].page) ∧ (clC l)[k * 4 + 3]? = some (.int .i64 l[k].len)
  | x :: r, 0, _ => ⟨rfl, rfl, rfl, rfl⟩
  | x :: r, k + 1, h => by
    have := clC_at r k (by simpa using h)
    simp only [clC, show (k + 1) * 4 = k * 4 + 1 + 1 + 1 + 1 by omega, List.getElem?_cons_succ, List.getElem_cons_succ]
    exact this
def kcs (l : List Int) : List Value := l.map fun k => .int .i64 k
@[simp] theorem kcs_length (l : List Int) : (kcs l).length = l.length := by simp [kcs]
theorem kcs_append (l k : List Int) : kcs (l ++ k) = kcs l ++ kcs k := by simp [kcs]
theorem kcs_one (l : List Int) : ∀ u ∈ kcs l, u.oneCell' = true := by
  intro u hu
  simp only [kcs, List.mem_map] at hu
  obtain ⟨b, _, rfl⟩ := hu
  rfl
theorem kcs_get (l : List Int) (j : Nat) (h : j < l.length) : (kcs l)[j]? = some (.int .i64 l[j]) := by simp [kcs, List.getElem?_eq_getElem h]
abbrev Cls (J : Jm) (v : Value) (l : List Cl) : Prop := Sl J 4 v l.length (clC l)
abbrev Ks (J : Jm) (v : Value) (l : List Int) : Prop := Sl J 1 v l.length (kcs l)
def NdV (J : Jm) (v : Value) (n : Nd) : Prop := ∃ vi vk, v = .agg #[.bool n.leaf, vi, vk] ∧ Cls J vi n.items ∧ Ks J vk n.kids
theorem NdV.mono {J J' : Jm} {v : Value} {n : Nd} (h : NdV J v n) (hle : J.le J') : NdV J' v n := by
  obtain ⟨vi, vk, h0, h1, h2⟩ := h
  exact ⟨vi, vk, h0, Sl.mono h1 hle, Sl.mono h2 hle⟩
theorem Cls.cell {J : Jm} {A : Option Addr} {c m : Nat} {l : List Cl} (h : Cls J (.slice A m c) l) {w : World} (hI : Inv J w) {k : Nat} (hk : k < l.length) :
    ∃ b o, A = some ⟨b, o, none⟩ ∧ w.cell? ⟨b, o + k * 4, none⟩ = some (.string (strB l[k].key)) ∧ w.cell? ⟨b, o + k * 4 + 1, none⟩ = some (.string (strB l[k].val)) ∧ w.cell? ⟨b, o + k * 4 + 2, none⟩ = some (.int .i64 l[k].page) ∧ w.cell? ⟨b, o + k * 4 + 3, none⟩ = some (.int .i64 l[k].len) := by
  obtain ⟨q0, q1, q2, q3⟩ := clC_at l k hk
  obtain ⟨b, o, hA, c0⟩ := Sl.cell h hI q0
  obtain ⟨b1, o1, hA1, c1⟩ := Sl.cell h hI q1
  obtain ⟨b2, o2, hA2, c2⟩ := Sl.cell h hI q2
  obtain ⟨b3, o3, hA3, c3⟩ := Sl.cell h hI q3
  rw [hA] at hA1 hA2 hA3
  cases hA1; cases hA2; cases hA3
  exact ⟨b, o, hA, c0, c1, c2, c3⟩
theorem Ks.cell {J : Jm} {A : Option Addr} {c m : Nat} {l : List Int} (h : Ks J (.slice A m c) l) {w : World} (hI : Inv J w) {k : Nat} (hk : k < l.length) :
    ∃ b o, A = some ⟨b, o, none⟩ ∧ w.cell? ⟨b, o + k, none⟩ = some (.int .i64 l[k]) := Sl.cell h hI (kcs_get l k hk)
end Go.Proofs.Ytnnkgjaahmflmaa
