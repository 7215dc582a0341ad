/- Lines that are written over. -/
import Derived.Test.YthfjeijhnikabaaLexUni
namespace Go.Proofs.Ythfjeijhnikabaa
open Go.RowKit
set_option linter.unusedVariables false

/-- some blocks forgotten -/
def Jm.cut (J : Jm) (A B : Nat) : Jm := fun b => if A ≤ b ∧ b < B then [] else J b
theorem Jm.cut_le (J : Jm) (A B : Nat) : (J.cut A B).le J := by
  intro b
  unfold Jm.cut
  split
  · exact List.nil_prefix
  · exact List.prefix_refl _
theorem Jm.cut_in {J : Jm} {A B b : Nat} (h1 : A ≤ b) (h2 : b < B) : J.cut A B b = [] := if_pos ⟨h1, h2⟩
theorem Jm.cut_out {J : Jm} {A B b : Nat} (h : b < A ∨ B ≤ b) : J.cut A B b = J b := if_neg (by omega)
theorem Own.cut {J : Jm} {w : World} {base : Nat} {T : TypeId} {size : Nat} {v : Value} {n : Nat} {cs : List Value} (h : Own J w base T size v n cs) {A B : Nat} (hb : B ≤ base) : Own (J.cut A B) w base T size v n cs :=
  h.kept fun b e => ⟨rfl, Jm.cut_out (.inr (Nat.le_trans hb (h.lt b e).1))⟩
theorem LsO.cut {J : Jm} {w : World} {base M : Nat} {ls : List Ln} {cs : List Value} (h : LsO J w base M ls cs) {A B : Nat} (hb : B ≤ base) : LsO (J.cut A B) w base M ls cs :=
  h.imp (fun _ _ _ o _ => o.cut hb) (Nat.le_refl _)
/-- the shape of lines that may be written: from line i on the headers are as they were -/
structure Wr (w : World) (ga i : Nat) (c : List Value) (n : Nat) : Prop where
  blk : ∃ cur, w.heap[ga]? = some (.cells cur 33 (0, 0)) ∧ n * 3 ≤ cur.size ∧ ∀ j x, i * 3 ≤ j → c[j]? = some x → cur[j]? = some x
  rows : ∀ (j g m cp : Nat), c[j]? = some (Value.slice (some ⟨g, 0, none⟩) m cp) → ∃ cur : Array Value, w.heap[g]? = some (.cells cur 35 (0, 0)) ∧ m * 5 ≤ cur.size
theorem Wr.succ {w : World} {ga i n : Nat} {c : List Value} (h : Wr w ga i c n) : Wr w ga (i + 1) c n := by
  obtain ⟨cur, h1, h2, h3⟩ := h.blk
  exact ⟨⟨cur, h1, h2, fun j x hj hx => h3 j x (by omega) hx⟩, h.rows⟩
theorem Wr.setA {w : World} {ga i n : Nat} {c : List Value} (h : Wr w ga i c n) {x : Nat} (hx : x < i * 3) (v : Value) : Wr (w.setCell ⟨ga, x, none⟩ v) ga i c n := by
  obtain ⟨cur, h1, h2, h3⟩ := h.blk
  refine ⟨⟨cur.setIfInBounds x v, ?_, by simpa using h2, fun j y hj hy => ?_⟩, fun j g m cp hj => ?_⟩
  · exact heap_setCell_same w ga x _ _ v h1
  · rw [Array.getElem?_setIfInBounds_ne (by omega)]; exact h3 j y hj hy
  · obtain ⟨cur', h4, h5⟩ := h.rows j g m cp hj
    refine ⟨cur', (Below.heap_setCell _ _ _ _ ?_).trans h4, h5⟩
    rintro rfl
    rw [h1] at h4
    simp at h4
theorem Wr.setW {w : World} {ga i n : Nat} {c : List Value} (h : Wr w ga i c n) {g : Nat} {cur : Array Value} (hg : w.heap[g]? = some (.cells cur 35 (0, 0))) (x : Nat) (v : Value) : Wr (w.setCell ⟨g, x, none⟩ v) ga i c n := by
  obtain ⟨cu, h1, h2, h3⟩ := h.blk
  refine ⟨⟨cu, (Below.heap_setCell _ _ _ _ ?_).trans h1, h2, h3⟩, fun j g' m cp hj => ?_⟩
  · rintro rfl
    rw [h1] at hg
    simp at hg
  · obtain ⟨cur', h4, h5⟩ := h.rows j g' m cp hj
    by_cases e : g' = g
    · subst e
      exact ⟨_, heap_setCell_same w g' x _ _ v h4, by simpa using h5⟩
    · exact ⟨cur', (Below.heap_setCell _ _ _ _ e).trans h4, h5⟩
theorem Wr.later {w w' : World} {ga i n : Nat} {c : List Value} (h : Wr w ga i c n) (hk : ∀ b, b < w.heap.size → w'.heap[b]? = w.heap[b]?) : Wr w' ga i c n := by
  obtain ⟨cur, h1, h2, h3⟩ := h.blk
  refine ⟨⟨cur, (hk _ (Array.getElem?_eq_some_iff.1 h1).1).trans h1, h2, h3⟩, fun j g m cp hj => ?_⟩
  obtain ⟨cu, h4, h5⟩ := h.rows j g m cp hj
  exact ⟨cu, (hk _ (Array.getElem?_eq_some_iff.1 h4).1).trans h4, h5⟩
theorem row_cell {w : World} {b n : Nat} {cur : Array Value} {T : TypeId} (h : w.heap[b]? = some (.cells cur T (0, 0))) (hn : n < cur.size) : w.cell? ⟨b, n, none⟩ = some cur[n] ∧ w.frozen? ⟨b, n, none⟩ = false :=
  ⟨by rw [cell_of_row w b n _ _ _ h]; exact Array.getElem?_eq_getElem hn, frozen_of_row w b n _ _ h⟩
theorem Wr.hdr {w : World} {ga i n k : Nat} {c : List Value} {x : Value} (h : Wr w ga i c n) (hk : i ≤ k) (hx : c[k * 3 + 2]? = some x) : w.cell? ⟨ga, k * 3 + 2, none⟩ = some x := by
  obtain ⟨cur, h1, h2, h3⟩ := h.blk
  rw [cell_of_row w ga _ _ _ _ h1]
  exact h3 _ _ (by omega) hx
theorem Wr.cellA {w : World} {ga i n x : Nat} {c : List Value} (h : Wr w ga i c n) (hx : x < n * 3) : ∃ v, w.cell? ⟨ga, x, none⟩ = some v ∧ w.frozen? ⟨ga, x, none⟩ = false := by
  obtain ⟨cur, h1, h2, _⟩ := h.blk
  exact ⟨_, row_cell h1 (by omega)⟩
theorem Wr.mk' {J : Jm} {w : World} {base base' M : Nat} {ga cp : Nat} {ls : List Ln} {c : List Value} (hO : Own J w base 33 3 (.slice (some ⟨ga, 0, none⟩) ls.length cp) ls.length c) (hL : LsO J w base' M ls c) : Wr w ga 0 c ls.length := by
  constructor
  · rcases hO.1.2 with ⟨h, _⟩ | ⟨g, cap, cur, h, hb, hg, hn, hm, hs, ht⟩
    · cases h
    · cases h
      refine ⟨cur, hg, by rw [hs]; exact Nat.mul_le_mul_right _ hn, fun j x _ hx => ?_⟩
      have hj := (List.getElem?_eq_some_iff.1 hx).1
      rw [← ht, List.getElem?_take] at hx
      split at hx
      · simpa using hx
      · cases hx
  · clear hO
    induction hL with
    | nil => intro j g m cp hj; simp at hj
    | cons h1 h2 _ ih =>
      intro j g m cp hj
      match j, hj with
      | 0, hj => simp at hj
      | 1, hj => simp at hj
      | 2, hj =>
        simp only [List.getElem?_cons_succ, List.getElem?_cons_zero, Option.some.injEq] at hj
        subst hj
        rcases h1.1.2 with ⟨h, _⟩ | ⟨g', cap, cur, h, hb, hg, hn, hm, hs, ht⟩
        · cases h
        · cases h
          exact ⟨cur, hg, by rw [hs]; exact Nat.mul_le_mul_right _ hn⟩
      | j + 3, hj => exact ih j g m cp (by simpa using hj)
end Go.Proofs.Ythfjeijhnikabaa
