/- Nodes that come in, as they are read. -/
import Derived.Test.YtnnkgjaahmflmaaJSized
import Derived.Test.YtnnkgjaahmflmaaCellMem
import Derived.Deep.Slices
import Derived.Deep.Strs
namespace Go.Proofs.Ytnnkgjaahmflmaa
open Go.RowKit Go.ChangeShapes Go.WideShapes Go.ChangeAt Go.Deep
set_option linter.unusedVariables false

theorem list_of {α : Type} {P : Nat → α → Prop} : ∀ (n : Nat), (∀ i, i < n → ∃ x, P i x) → ∃ l : List α, l.length = n ∧ ∀ i (h : i < l.length), P i l[i]
  | 0, _ => ⟨[], rfl, fun i h => absurd h (Nat.not_lt_zero i)⟩
  | n + 1, h => by
    obtain ⟨l, e, hl⟩ := list_of n fun i hi => h i (by omega)
    obtain ⟨x, hx⟩ := h n (by omega)
    refine ⟨l ++ [x], by simp [e], fun i hi => ?_⟩
    by_cases hn : i < l.length
    · rw [List.getElem_append_left hn]; exact hl i hn
    · obtain rfl : i = l.length := by simp at hi; omega
      simpa [e] using hx
/-- a string that is not too long -/
def ClS (x : Cl) : Prop := x.key.length ≤ 140737488351232 ∧ x.val.length ≤ 140737488351232
theorem cell_in {H : Type} {enc : TypeId × Value → H} {W : World} {n : Nat} {cs : List Value} {y : DataW H × List MemPlace} (h : DataW.trod enc Try.prog W 0 (fun _ => true) true n 55 cs = some y) (hw : Small 55 y.1) :
    ∃ z : Cl, cs = [.string (strB z.key), .string (strB z.val), .int .i64 z.page, .int .i64 z.len] ∧ ClS z := by
  have hi1 : Try.prog.cellsOf 3 = 1 := by kernel_rfl
  have hs1 : Try.prog.cellsOf 9 = 1 := by kernel_rfl
  have hc4 : Try.prog.cellsOf 55 = 4 := by kernel_rfl
  obtain ⟨xs, n', -, hD, hl4, hsz, ht⟩ := DataW.trod_struct Try.underlying55 h
  have hD1 := congrArg Prod.fst hD
  simp only at hD1
  rw [hc4] at hl4
  obtain ⟨c0, c1, c2, c3, rfl⟩ : ∃ c0 c1 c2 c3, cs = [c0, c1, c2, c3] := by
    match cs, hl4 with
    | [c0, c1, c2, c3], _ => exact ⟨c0, c1, c2, c3, rfl⟩
  have get : ∀ i, i < 4 → ∃ y, xs[i]? = some y := fun i hi => ⟨_, List.getElem?_eq_getElem (by rw [hsz]; exact hi)⟩
  obtain ⟨y0, g0⟩ := get 0 (by omega)
  obtain ⟨y1, g1⟩ := get 1 (by omega)
  obtain ⟨y2, g2⟩ := get 2 (by omega)
  obtain ⟨y3, g3⟩ := get 3 (by omega)
  obtain ⟨z0, e0, hy0, -⟩ := DataW.trod_string Try.underlying9 ((ht 0 _ rfl).trans g0)
  obtain ⟨z1, e1, hy1, -⟩ := DataW.trod_string Try.underlying9 ((ht 1 _ rfl).trans g1)
  obtain ⟨z2, e2, -⟩ := DataW.trod_int Try.underlying3 ((ht 2 _ rfl).trans g2)
  obtain ⟨z3, e3, -⟩ := DataW.trod_int Try.underlying3 ((ht 3 _ rfl).trans g3)
  have hz0 : z0.data.toList.length ≤ 140737488351232 := by
    refine hw _ ?_
    rw [hD1]
    refine weights_agg (j := 0) Try.underlying55 rfl (d := y0.1) (by rw [List.getElem?_map, g0]; rfl) ?_
    rw [hy0]
    exact weights_str _
  have hz1 : z1.data.toList.length ≤ 140737488351232 := by
    refine hw _ ?_
    rw [hD1]
    refine weights_agg (j := 1) Try.underlying55 rfl (d := y1.1) (by rw [List.getElem?_map, g1]; rfl) ?_
    rw [hy1]
    exact weights_str _
  simp [hi1, hs1] at e0 e1 e2 e3
  subst e0 e1 e2 e3
  exact ⟨⟨z0.data.toList, z1.data.toList, z2, z3⟩, by rw [strB_of, strB_of], hz0, hz1⟩
theorem cells_in {H : Type} {enc : TypeId × Value → H} {W : World} {n : Nat} {cs : List Value} {y : DataW H × List MemPlace} (h : DataW.trod enc Try.prog W 0 (fun _ => true) true n 22 cs = some y) (hw : Small 22 y.1) :
    ∃ v l, cs = [v] ∧ Cls (J0 W) v l ∧ ∀ z ∈ l, ClS z := by
  rcases open_slice Try.underlying22 h with ⟨rfl, -⟩ | ⟨x, len, cap, m, k, D, Pl, rfl, _, hl, hm, hmm, hy, hel⟩
  · exact ⟨_, [], rfl, Sl.nil _ _, fun z h => by cases h⟩
  · have hc4 : Try.prog.cellsOf 55 = 4 := by kernel_rfl
    rw [hc4] at hel
    have hm' : m = cap := by simpa using hmm
    obtain ⟨ws, hlen, hws⟩ := list_of (P := fun i (z : Cl) => W.cell? (x.add (i * 4)) = some (.string (strB z.key)) ∧ W.cell? (x.add (i * 4 + 1)) = some (.string (strB z.val)) ∧ W.cell? (x.add (i * 4 + 2)) = some (.int .i64 z.page) ∧ W.cell? (x.add (i * 4 + 3)) = some (.int .i64 z.len) ∧ ClS z) len (by
      intro i hi
      obtain ⟨cs', h1, h2⟩ := hel i (by omega)
      obtain ⟨z, rfl, hz⟩ := cell_in h2 (fun x' hx' => hw _ (by
        rw [hy]
        exact weights_slice Try.underlying22 (d := D i) (List.mem_map.2 ⟨i, by simpa using hi, rfl⟩) hx'))
      obtain ⟨-, -, hcell⟩ := World.cells?_some h1
      have q0 := hcell 0 (by omega)
      have q1 := hcell 1 (by omega)
      have q2 := hcell 2 (by omega)
      have q3 := hcell 3 (by omega)
      rw [add_add] at q0 q1 q2 q3
      exact ⟨z, q0, q1, q2, q3, hz⟩)
    refine ⟨_, ws, rfl, ?_, fun z hz => ?_⟩
    rotate_left
    · obtain ⟨i, hi, rfl⟩ := List.mem_iff_getElem.1 hz
      exact (hws i hi).2.2.2.2
    unfold Cls
    rw [hlen]
    refine Sl.of_cells (by rw [clC_length, hlen]) hl hm (fun e => by cases e) (by decide) ?_
    rintro a' ⟨⟩ i v hv
    have hi : i < ws.length * 4 := by rw [← clC_length]; exact (List.getElem?_eq_some_iff.1 hv).1
    obtain ⟨q, r, hr, rfl⟩ : ∃ q r, r < 4 ∧ i = q * 4 + r := ⟨i / 4, i % 4, by omega, by omega⟩
    have hq : q < ws.length := by omega
    obtain ⟨g0, g1, g2, g3⟩ := clC_at ws q hq
    obtain ⟨k0, k1, k2, k3, -⟩ := hws q hq
    obtain rfl | rfl | rfl | rfl : r = 0 ∨ r = 1 ∨ r = 2 ∨ r = 3 := by omega
    · rw [Nat.add_zero] at hv ⊢; rw [g0] at hv; cases hv; exact k0
    · rw [g1] at hv; cases hv; exact k1
    · rw [g2] at hv; cases hv; exact k2
    · rw [g3] at hv; cases hv; exact k3
theorem kids_in {H : Type} {enc : TypeId × Value → H} {W : World} {n : Nat} {cs : List Value} {y : DataW H × List MemPlace} (h : DataW.trod enc Try.prog W 0 (fun _ => true) true n 23 cs = some y) :
    ∃ v l, cs = [v] ∧ Ks (J0 W) v l := by
  have hi1 : Try.prog.cellsOf 3 = 1 := by kernel_rfl
  rcases open_slice Try.underlying23 h with ⟨rfl, -⟩ | ⟨x, len, cap, m, k, D, Pl, rfl, _, hl, hm, hmm, hy, hel⟩
  · exact ⟨_, [], rfl, Sl.nil _ _⟩
  · rw [hi1] at hel
    have hm' : m = cap := by simpa using hmm
    obtain ⟨ws, hlen, hws⟩ := list_of (P := fun i (z : Int) => W.cell? (x.add i) = some (.int .i64 z)) len (by
      intro i hi
      obtain ⟨cs', h1, h2⟩ := hel i (by omega)
      obtain ⟨z, rfl, -⟩ := DataW.trod_int Try.underlying3 h2
      obtain ⟨-, -, hcell⟩ := World.cells?_some h1
      have q0 := hcell 0 (by omega)
      rw [add_add] at q0
      exact ⟨z, by simpa using q0⟩)
    refine ⟨_, ws, rfl, ?_⟩
    unfold Ks
    rw [hlen]
    refine Sl.of_cells (by rw [kcs_length, hlen]; omega) hl hm (fun e => by cases e) (by decide) ?_
    rintro a' ⟨⟩ i v hv
    have hi : i < ws.length := by rw [← kcs_length]; exact (List.getElem?_eq_some_iff.1 hv).1
    rw [kcs_get _ _ hi] at hv
    cases hv
    exact hws i hi
theorem node_in {H : Type} {enc : TypeId × Value → H} {W : World} {v : Value} {d : DataW H} {p : List MemPlace}
    (hv : ∃ cs, v = .agg cs ∧ cs.size = Try.prog.cellsOf 25) (h : DataW.Trod enc Try.prog W 0 (fun _ => true) true 25 v d p) (hw : Small 25 d) : ∃ n : Nd, NdV (J0 W) v n ∧ ∀ x ∈ n.items, ClS x := by
  obtain ⟨cs, rfl, hcz⟩ := hv
  have hi1 : Try.prog.cellsOf 23 = 1 := by kernel_rfl
  have hs1 : Try.prog.cellsOf 22 = 1 := by kernel_rfl
  have hb1 : Try.prog.cellsOf 4 = 1 := by kernel_rfl
  have hc3 : Try.prog.cellsOf 25 = 3 := by kernel_rfl
  obtain ⟨fuel, hf⟩ := h
  obtain ⟨xs, n', -, hD, hl3, hsz, ht⟩ := DataW.trod_struct Try.underlying25 hf
  have hD1 := congrArg Prod.fst hD
  simp only at hD1
  rw [hc3] at hl3
  obtain ⟨c0, c1, c2, hcs⟩ : ∃ c0 c1 c2, (Value.agg cs).cells.toList = [c0, c1, c2] := by
    match (Value.agg cs).cells.toList, hl3 with
    | [c0, c1, c2], _ => exact ⟨c0, c1, c2, rfl⟩
  rw [hcs] at ht
  have get : ∀ i, i < 3 → ∃ y, xs[i]? = some y := fun i hi => ⟨_, List.getElem?_eq_getElem (by rw [hsz]; exact hi)⟩
  obtain ⟨y0, g0⟩ := get 0 (by omega)
  obtain ⟨y1, g1⟩ := get 1 (by omega)
  obtain ⟨y2, g2⟩ := get 2 (by omega)
  obtain ⟨z0, e0, -⟩ := DataW.trod_bool Try.underlying4 ((ht 0 _ rfl).trans g0)
  obtain ⟨z1, l1, e1, hz1, hs⟩ := cells_in ((ht 1 _ rfl).trans g1) (fun x' hx' => hw _ (by
    rw [hD1]
    exact weights_agg (j := 1) Try.underlying25 rfl (d := y1.1) (by rw [List.getElem?_map, g1]; rfl) hx'))
  obtain ⟨z2, l2, e2, hz2⟩ := kids_in ((ht 2 _ rfl).trans g2)
  simp [hi1, hs1, hb1] at e0 e1 e2
  subst e0 e1 e2
  refine ⟨⟨z0, l1, l2⟩, ⟨c1, c2, ?_, hz1, hz2⟩, hs⟩
  congr 1
  exact Array.toList_inj.1 (by simpa [Value.cells] using hcs)
end Go.Proofs.Ytnnkgjaahmflmaa
