/- Lines that come in, as they are read. -/
import Derived.Test.YthfjeijhnikabaaJSized
import Derived.Test.YthfjeijhnikabaaLexWq
import Derived.Deep.Slices
import Derived.Deep.Strs
namespace Go.Proofs.Ythfjeijhnikabaa
open Go.RowKit Go.ChangeShapes Go.WideShapes Go.ChangeAt Go.Deep
set_option linter.unusedVariables false

theorem list_of {α : Type} {P : Nat → α → Prop} : ∀ (n : Nat), (∀ i, i < n → ∃ x, P i x) → ∃ l : List α, l.length = n ∧ ∀ i (h : i < l.length), P i l[i]
  | 0, _ => ⟨[], rfl, fun i h => absurd h (Nat.not_lt_zero i)⟩
  | n + 1, h => by
    obtain ⟨l, e, hl⟩ := list_of n fun i hi => h i (by omega)
    obtain ⟨x, hx⟩ := h n (by omega)
    refine ⟨l ++ [x], by simp [e], fun i hi => ?_⟩
    by_cases hn : i < l.length
    · rw [List.getElem_append_left hn]; exact hl i hn
    · obtain rfl : i = l.length := by simp at hi; omega
      simpa [e] using hx
theorem words_in {H : Type} {enc : TypeId × Value → H} {W : World} {n : Nat} {cs : List Value} {y : DataW H × List MemPlace} (h : DataW.trod enc Try.prog W 0 (fun _ => true) true n 31 cs = some y) (hw : Small 31 y.1) :
    ∃ v ws, cs = [v] ∧ Sl (J0 W) 5 v ws.length (wiC ws) ∧ ∀ z ∈ ws, z.text.length ≤ 140737488351232 := by
  rcases open_slice Try.underlying31 h with ⟨rfl, -⟩ | ⟨x, len, cap, m, k, D, Pl, rfl, _, hl, hm, hmm, hy, hel⟩
  · exact ⟨_, [], rfl, Sl.nil _ _, fun z h => by cases h⟩
  · have hc5 : Try.prog.cellsOf 35 = 5 := by kernel_rfl
    have hi1 : Try.prog.cellsOf 3 = 1 := by kernel_rfl
    have hb1 : Try.prog.cellsOf 4 = 1 := by kernel_rfl
    have hs1 : Try.prog.cellsOf 9 = 1 := by kernel_rfl
    rw [hc5] at hel
    have hm' : m = cap := by simpa using hmm
    obtain ⟨ws, hlen, hws⟩ := list_of (P := fun i (z : Wi) => W.cell? (x.add (i * 5)) = some (.string (strB z.text)) ∧ W.cell? (x.add (i * 5 + 1)) = some (.int .i64 z.line) ∧ W.cell? (x.add (i * 5 + 2)) = some (.int .i64 z.col) ∧ W.cell? (x.add (i * 5 + 3)) = some (.bool z.quoted) ∧ W.cell? (x.add (i * 5 + 4)) = some (.bool z.mark) ∧ z.text.length ≤ 140737488351232) len (by
      intro i hi
      obtain ⟨cs', h1, h2⟩ := hel i (by omega)
      obtain ⟨xs, n', -, hD, -, hsz, ht⟩ := DataW.trod_struct Try.underlying35 h2
      have hD1 := congrArg Prod.fst hD
      simp only at hD1
      obtain ⟨-, hl5, hcell⟩ := World.cells?_some h1
      obtain ⟨c0, c1, c2, c3, c4, rfl⟩ : ∃ c0 c1 c2 c3 c4, cs' = [c0, c1, c2, c3, c4] := by
        match cs', hl5 with
        | [c0, c1, c2, c3, c4], _ => exact ⟨c0, c1, c2, c3, c4, rfl⟩
      have get : ∀ i, i < 5 → ∃ y, xs[i]? = some y := fun i hi => ⟨_, List.getElem?_eq_getElem (by rw [hsz]; exact hi)⟩
      obtain ⟨y0, g0⟩ := get 0 (by omega)
      obtain ⟨y1, g1⟩ := get 1 (by omega)
      obtain ⟨y2, g2⟩ := get 2 (by omega)
      obtain ⟨y3, g3⟩ := get 3 (by omega)
      obtain ⟨y4, g4⟩ := get 4 (by omega)
      obtain ⟨z0, e0, hy0, -⟩ := DataW.trod_string Try.underlying9 ((ht 0 _ rfl).trans g0)
      obtain ⟨z1, e1, -⟩ := DataW.trod_int Try.underlying3 ((ht 1 _ rfl).trans g1)
      obtain ⟨z2, e2, -⟩ := DataW.trod_int Try.underlying3 ((ht 2 _ rfl).trans g2)
      obtain ⟨z3, e3, -⟩ := DataW.trod_bool Try.underlying4 ((ht 3 _ rfl).trans g3)
      obtain ⟨z4, e4, -⟩ := DataW.trod_bool Try.underlying4 ((ht 4 _ rfl).trans g4)
      have hz0 : z0.data.toList.length ≤ 140737488351232 := by
        refine hw _ ?_
        rw [hy]
        refine weights_slice Try.underlying31 (d := D i) (List.mem_map.2 ⟨i, by simpa using hi, rfl⟩) ?_
        rw [hD1]
        refine weights_agg (j := 0) Try.underlying35 rfl (d := y0.1) (by rw [List.getElem?_map, g0]; rfl) ?_
        rw [hy0]
        exact weights_str _
      simp [hi1, hb1, hs1] at e0 e1 e2 e3 e4
      subst e0 e1 e2 e3 e4
      have q0 := hcell 0 (by omega)
      have q1 := hcell 1 (by omega)
      have q2 := hcell 2 (by omega)
      have q3 := hcell 3 (by omega)
      have q4 := hcell 4 (by omega)
      rw [add_add] at q0 q1 q2 q3 q4
      refine ⟨⟨z0.data.toList, z1, z2, z3, z4⟩, ?_, q1, q2, q3, q4, hz0⟩
      rw [strB_of]; exact q0)
    refine ⟨_, ws, rfl, ?_, fun z hz => ?_⟩
    rotate_left
    · obtain ⟨i, hi, rfl⟩ := List.mem_iff_getElem.1 hz
      exact (hws i hi).2.2.2.2.2
    rw [hlen]
    refine Sl.of_cells (by rw [wiC_length, hlen]) hl hm (fun e => by cases e) (by decide) ?_
    rintro a' ⟨⟩ i v hv
    have hi : i < ws.length * 5 := by rw [← wiC_length]; exact (List.getElem?_eq_some_iff.1 hv).1
    obtain ⟨q, r, hr, rfl⟩ : ∃ q r, r < 5 ∧ i = q * 5 + r := ⟨i / 5, i % 5, by omega, by omega⟩
    have hq : q < ws.length := by omega
    obtain ⟨g0, g1, g2, g3, g4⟩ := wiC_at ws q hq
    obtain ⟨k0, k1, k2, k3, k4, -⟩ := hws q hq
    obtain rfl | rfl | rfl | rfl | rfl : r = 0 ∨ r = 1 ∨ r = 2 ∨ r = 3 ∨ r = 4 := by omega
    · rw [Nat.add_zero] at hv ⊢; rw [g0] at hv; cases hv; exact k0
    · rw [g1] at hv; cases hv; exact k1
    · rw [g2] at hv; cases hv; exact k2
    · rw [g3] at hv; cases hv; exact k3
    · rw [g4] at hv; cases hv; exact k4
theorem lines_in {H : Type} {enc : TypeId × Value → H} {W : World} {v : Value} {d : DataW H} {p : List MemPlace}
    (hv : ∃ a len cap, v = .slice a len cap) (h : DataW.Trod enc Try.prog W 0 (fun _ => true) true 24 v d p) (hw : Small 24 d) : ∃ A : List Li, Lni (J0 W) v A ∧ ∀ l ∈ A, ∀ z ∈ l.ws, z.text.length ≤ 140737488351232 := by
  obtain ⟨a, len, cap, rfl⟩ := hv
  obtain ⟨fuel, hf⟩ := h
  rcases open_slice Try.underlying24 hf with ⟨hcs, hx⟩ | ⟨x, l, c, m, n, D, Pl, hcs, _, hl, hm, hmm, hx, hel⟩
  · simp [Value.cells] at hcs
    obtain ⟨rfl, rfl, rfl⟩ := hcs
    exact ⟨[], ⟨[], Sl.nil _ _, .nil⟩, fun l h => by cases h⟩
  · simp [Value.cells] at hcs
    obtain ⟨rfl, rfl, rfl⟩ := hcs
    have hc3 : Try.prog.cellsOf 33 = 3 := by kernel_rfl
    have hi1 : Try.prog.cellsOf 3 = 1 := by kernel_rfl
    have hb1 : Try.prog.cellsOf 4 = 1 := by kernel_rfl
    have hs1 : Try.prog.cellsOf 31 = 1 := by kernel_rfl
    rw [hc3] at hel
    have hm' : m = cap := by simpa using hmm
    obtain ⟨ys, hlen, hys⟩ := list_of (P := fun i (z : Li × Value) => W.cell? (x.add (i * 3)) = some (.int .i64 z.1.num) ∧ W.cell? (x.add (i * 3 + 1)) = some (.bool z.1.ind) ∧ W.cell? (x.add (i * 3 + 2)) = some z.2 ∧ Sl (J0 W) 5 z.2 z.1.ws.length (wiC z.1.ws) ∧ ∀ y ∈ z.1.ws, y.text.length ≤ 140737488351232) len (by
      intro i hi
      obtain ⟨cs', h1, h2⟩ := hel i (by omega)
      obtain ⟨xs, n', -, hD, -, hsz, ht⟩ := DataW.trod_struct Try.underlying33 h2
      have hD1 := congrArg Prod.fst hD
      simp only at hD1
      obtain ⟨-, hl3, hcell⟩ := World.cells?_some h1
      obtain ⟨c0, c1, c2, rfl⟩ : ∃ c0 c1 c2, cs' = [c0, c1, c2] := by
        match cs', hl3 with
        | [c0, c1, c2], _ => exact ⟨c0, c1, c2, rfl⟩
      have get : ∀ i, i < 3 → ∃ y, xs[i]? = some y := fun i hi => ⟨_, List.getElem?_eq_getElem (by rw [hsz]; exact hi)⟩
      obtain ⟨y0, g0⟩ := get 0 (by omega)
      obtain ⟨y1, g1⟩ := get 1 (by omega)
      obtain ⟨y2, g2⟩ := get 2 (by omega)
      obtain ⟨z0, e0, -⟩ := DataW.trod_int Try.underlying3 ((ht 0 _ rfl).trans g0)
      obtain ⟨z1, e1, -⟩ := DataW.trod_bool Try.underlying4 ((ht 1 _ rfl).trans g1)
      obtain ⟨z2, ws, e2, hw2⟩ := words_in ((ht 2 _ rfl).trans g2) (fun x' hx' => by
        refine hw _ ?_
        have hx1 := congrArg Prod.fst hx
        simp only at hx1
        rw [hx1]
        refine weights_slice Try.underlying24 (d := D i) (List.mem_map.2 ⟨i, by simpa using hi, rfl⟩) ?_
        rw [hD1]
        exact weights_agg (j := 2) Try.underlying33 rfl (d := y2.1) (by rw [List.getElem?_map, g2]; rfl) hx')
      simp [hi1, hb1, hs1] at e0 e1 e2
      subst e0 e1 e2
      have q0 := hcell 0 (by omega)
      have q1 := hcell 1 (by omega)
      have q2 := hcell 2 (by omega)
      rw [add_add] at q0 q1 q2
      exact ⟨(⟨z0, z1, ws⟩, c2), q0, q1, q2, hw2⟩)
    have key : ∀ ys : List (Li × Value), (∀ z ∈ ys, Sl (J0 W) 5 z.2 z.1.ws.length (wiC z.1.ws)) → LiC (J0 W) (ys.map Prod.fst) (ys.flatMap fun z => [.int .i64 z.1.num, .bool z.1.ind, z.2]) := by
      intro ys
      induction ys with
      | nil => intro _; exact .nil
      | cons z r ih => intro h; exact .cons (h z List.mem_cons_self) (ih fun y hy => h y (List.mem_cons_of_mem _ hy))
    have flen : ∀ ys : List (Li × Value), (ys.flatMap fun z => [Value.int .i64 z.1.num, .bool z.1.ind, z.2]).length = ys.length * 3 := by
      intro ys
      induction ys with
      | nil => rfl
      | cons z r ih => simp only [List.flatMap_cons, List.length_append, ih, List.length_cons, List.length_nil]; omega
    have fat : ∀ (ys : List (Li × Value)) (q : Nat) (hq : q < ys.length), (ys.flatMap fun z => [Value.int .i64 z.1.num, .bool z.1.ind, z.2])[q * 3]? = some (.int .i64 ys[q].1.num) ∧ (ys.flatMap fun z => [Value.int .i64 z.1.num, .bool z.1.ind, z.2])[q * 3 + 1]? = some (.bool ys[q].1.ind) ∧ (ys.flatMap fun z => [Value.int .i64 z.1.num, .bool z.1.ind, z.2])[q * 3 + 2]? = some ys[q].2 := by
      intro ys
      induction ys with
      | nil => intro q hq; exact absurd hq (Nat.not_lt_zero q)
      | cons z r ih =>
        intro q hq
        match q, hq with
        | 0, _ => exact ⟨rfl, rfl, rfl⟩
        | q + 1, hq =>
          have := ih q (by simpa using hq)
          simp only [List.flatMap_cons, List.cons_append, List.nil_append, show (q + 1) * 3 = q * 3 + 1 + 1 + 1 by omega, List.getElem?_cons_succ, List.getElem_cons_succ]
          exact this
    refine ⟨ys.map Prod.fst, ⟨_, ?_, key ys fun z hz => ?_⟩, fun l hl => ?_⟩
    rotate_left 2
    · obtain ⟨z, hz, rfl⟩ := List.mem_map.1 hl
      obtain ⟨i, hi, rfl⟩ := List.mem_iff_getElem.1 hz
      exact (hys i hi).2.2.2.2
    · rw [List.length_map, hlen]
      refine Sl.of_cells (by rw [flen, hlen]) hl hm (fun e => by cases e) (by decide) ?_
      rintro a' ⟨⟩ i v hv
      have hi : i < ys.length * 3 := by rw [← flen]; exact (List.getElem?_eq_some_iff.1 hv).1
      obtain ⟨q, r, hr, rfl⟩ : ∃ q r, r < 3 ∧ i = q * 3 + r := ⟨i / 3, i % 3, by omega, by omega⟩
      have hq : q < ys.length := by omega
      obtain ⟨g0, g1, g2⟩ := fat ys q hq
      obtain ⟨k0, k1, k2, -⟩ := hys q hq
      obtain rfl | rfl | rfl : r = 0 ∨ r = 1 ∨ r = 2 := by omega
      · rw [Nat.add_zero] at hv ⊢; rw [g0] at hv; cases hv; exact k0
      · rw [g1] at hv; cases hv; exact k1
      · rw [g2] at hv; cases hv; exact k2
    · obtain ⟨i, hi, rfl⟩ := List.mem_iff_getElem.1 hz
      exact (hys i hi).2.2.2.1
end Go.Proofs.Ythfjeijhnikabaa
