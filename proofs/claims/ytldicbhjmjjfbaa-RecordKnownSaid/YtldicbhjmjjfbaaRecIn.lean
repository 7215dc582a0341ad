/- Traces that come in, as they are read. -/
import Derived.Test.YtldicbhjmjjfbaaJSized
import Derived.Test.YtldicbhjmjjfbaaRecCheck
import Derived.Deep.Slices
import Derived.Deep.Strs
namespace Go.Proofs.Ytldicbhjmjjfbaa
open Go.RowKit Go.ChangeShapes Go.WideShapes Go.ChangeAt Go.Deep
set_option linter.unusedVariables false

theorem list_of {α : Type} {P : Nat → α → Prop} : ∀ (n : Nat), (∀ i, i < n → ∃ x, P i x) → ∃ l : List α, l.length = n ∧ ∀ i (h : i < l.length), P i l[i]
  | 0, _ => ⟨[], rfl, fun i h => absurd h (Nat.not_lt_zero i)⟩
  | n + 1, h => by
    obtain ⟨l, e, hl⟩ := list_of n fun i hi => h i (by omega)
    obtain ⟨x, hx⟩ := h n (by omega)
    refine ⟨l ++ [x], by simp [e], fun i hi => ?_⟩
    by_cases hn : i < l.length
    · rw [List.getElem_append_left hn]; exact hl i hn
    · obtain rfl : i = l.length := by simp at hi; omega
      simpa [e] using hx
def NeS (x : Nee) : Prop := x.path.length ≤ 140737488351232 ∧ x.cont.length ≤ 140737488351232
theorem need_in {H : Type} {enc : TypeId × Value → H} {W : World} {n : Nat} {cs : List Value} {y : DataW H × List MemPlace} (h : DataW.trod enc Try.prog W 0 (fun _ => true) true n 38 cs = some y) (hw : Small 38 y.1) :
    ∃ z : Nee, cs = [.string (strB z.path), .bool z.hv, .string (strB z.cont)] ∧ NeS z := by
  have hb1 : Try.prog.cellsOf 4 = 1 := by kernel_rfl
  have hs1 : Try.prog.cellsOf 9 = 1 := by kernel_rfl
  have hc3 : Try.prog.cellsOf 38 = 3 := by kernel_rfl
  obtain ⟨xs, n', -, hD, hl3, hsz, ht⟩ := DataW.trod_struct Try.underlying38 h
  have hD1 := congrArg Prod.fst hD
  simp only at hD1
  rw [hc3] at hl3
  obtain ⟨c0, c1, c2, rfl⟩ : ∃ c0 c1 c2, cs = [c0, c1, c2] := by
    match cs, hl3 with
    | [c0, c1, c2], _ => exact ⟨c0, c1, c2, rfl⟩
  have get : ∀ i, i < 3 → ∃ y, xs[i]? = some y := fun i hi => ⟨_, List.getElem?_eq_getElem (by rw [hsz]; exact hi)⟩
  obtain ⟨y0, g0⟩ := get 0 (by omega)
  obtain ⟨y1, g1⟩ := get 1 (by omega)
  obtain ⟨y2, g2⟩ := get 2 (by omega)
  obtain ⟨z0, e0, hy0, -⟩ := DataW.trod_string Try.underlying9 ((ht 0 _ rfl).trans g0)
  obtain ⟨z1, e1, -⟩ := DataW.trod_bool Try.underlying4 ((ht 1 _ rfl).trans g1)
  obtain ⟨z2, e2, hy2, -⟩ := DataW.trod_string Try.underlying9 ((ht 2 _ rfl).trans g2)
  have hz0 : z0.data.toList.length ≤ 140737488351232 := by
    refine hw _ ?_
    rw [hD1]
    refine weights_agg (j := 0) Try.underlying38 rfl (d := y0.1) (by rw [List.getElem?_map, g0]; rfl) ?_
    rw [hy0]
    exact weights_str _
  have hz2 : z2.data.toList.length ≤ 140737488351232 := by
    refine hw _ ?_
    rw [hD1]
    refine weights_agg (j := 2) Try.underlying38 rfl (d := y2.1) (by rw [List.getElem?_map, g2]; rfl) ?_
    rw [hy2]
    exact weights_str _
  simp [hb1, hs1] at e0 e1 e2
  subst e0 e1 e2
  exact ⟨⟨z0.data.toList, z1, z2.data.toList⟩, by rw [strB_of, strB_of], hz0, hz2⟩
theorem needs_in {H : Type} {enc : TypeId × Value → H} {W : World} {n : Nat} {cs : List Value} {y : DataW H × List MemPlace} (h : DataW.trod enc Try.prog W 0 (fun _ => true) true n 23 cs = some y) (hw : Small 23 y.1) :
    ∃ v l, cs = [v] ∧ Ns (J0 W) v l ∧ (∀ z ∈ l, NeS z) ∧ l.length * 40 ≤ 140737488351232 := by
  rcases open_slice Try.underlying23 h with ⟨rfl, -⟩ | ⟨x, len, cap, m, k, D, Pl, rfl, _, hl, hm, hmm, hy, hel⟩
  · exact ⟨_, [], rfl, Sl.nil _ _, (fun z h => by cases h), by simp⟩
  · have hc3 : Try.prog.cellsOf 38 = 3 := by kernel_rfl
    have hb40 : Try.prog.bytesOf 38 = 40 := by kernel_rfl
    rw [hc3] at hel
    have hm' : m = cap := by simpa using hmm
    obtain ⟨ws, hlen, hws⟩ := list_of (P := fun i (z : Nee) => W.cell? (x.add (i * 3)) = some (.string (strB z.path)) ∧ W.cell? (x.add (i * 3 + 1)) = some (.bool z.hv) ∧ W.cell? (x.add (i * 3 + 2)) = some (.string (strB z.cont)) ∧ NeS z) len (by
      intro i hi
      obtain ⟨cs', h1, h2⟩ := hel i (by omega)
      obtain ⟨z, rfl, hz⟩ := need_in h2 (fun x' hx' => hw _ (by
        rw [hy]
        exact weights_slice Try.underlying23 (d := D i) (List.mem_map.2 ⟨i, by simpa using hi, rfl⟩) hx'))
      obtain ⟨-, -, hcell⟩ := World.cells?_some h1
      have q0 := hcell 0 (by omega)
      have q1 := hcell 1 (by omega)
      have q2 := hcell 2 (by omega)
      rw [add_add] at q0 q1 q2
      exact ⟨z, q0, q1, q2, hz⟩)
    refine ⟨_, ws, rfl, ?_, fun z hz => ?_, ?_⟩
    rotate_left
    · obtain ⟨i, hi, rfl⟩ := List.mem_iff_getElem.1 hz
      exact (hws i hi).2.2.2
    · have hlw := hw _ (by rw [hy]; exact weights_len Try.underlying23)
      rw [hb40] at hlw
      simp only [List.length_map, List.length_range] at hlw
      rw [hlen]
      refine Nat.le_trans (Nat.mul_le_mul_right _ ?_) hlw
      omega
    show Sl _ _ _ _ _
    rw [hlen]
    refine Sl.of_cells (by rw [ndC_length, hlen]) hl hm (fun e => by cases e) (by decide) ?_
    rintro a' ⟨⟩ i v hv
    have hi : i < ws.length * 3 := by rw [← ndC_length]; exact (List.getElem?_eq_some_iff.1 hv).1
    obtain ⟨q, r, hr, rfl⟩ : ∃ q r, r < 3 ∧ i = q * 3 + r := ⟨i / 3, i % 3, by omega, by omega⟩
    have hq : q < ws.length := by omega
    obtain ⟨g0, g1, g2⟩ := ndC_at ws q hq
    obtain ⟨k0, k1, k2, -⟩ := hws q hq
    obtain rfl | rfl | rfl : r = 0 ∨ r = 1 ∨ r = 2 := by omega
    · rw [Nat.add_zero] at hv ⊢; rw [g0] at hv; cases hv; exact k0
    · rw [g1] at hv; cases hv; exact k1
    · rw [g2] at hv; cases hv; exact k2
theorem outs_in {H : Type} {enc : TypeId × Value → H} {W : World} {n : Nat} {cs : List Value} {y : DataW H × List MemPlace} (h : DataW.trod enc Try.prog W 0 (fun _ => true) true n 24 cs = some y) (hw : Small 24 y.1) :
    ∃ v l, cs = [v] ∧ Ss (J0 W) v l ∧ (∀ z ∈ l, z.length ≤ 140737488351232) ∧ l.length * 16 ≤ 140737488351232 := by
  have hs1 : Try.prog.cellsOf 9 = 1 := by kernel_rfl
  have hb16 : Try.prog.bytesOf 9 = 16 := by kernel_rfl
  rcases open_slice Try.underlying24 h with ⟨rfl, -⟩ | ⟨x, len, cap, m, k, D, Pl, rfl, _, hl, hm, hmm, hy, hel⟩
  · exact ⟨_, [], rfl, Sl.nil _ _, (fun z h => by cases h), by simp⟩
  · rw [hs1] at hel
    have hm' : m = cap := by simpa using hmm
    obtain ⟨ws, hlen, hws⟩ := list_of (P := fun i (z : List UInt8) => W.cell? (x.add i) = some (.string (strB z)) ∧ z.length ≤ 140737488351232) len (by
      intro i hi
      obtain ⟨cs', h1, h2⟩ := hel i (by omega)
      have hsm : Small 9 (D i) := fun x' hx' => hw _ (by
        rw [hy]
        exact weights_slice Try.underlying24 (d := D i) (List.mem_map.2 ⟨i, by simpa using hi, rfl⟩) hx')
      obtain ⟨z, e0, hy0, -⟩ := DataW.trod_string Try.underlying9 h2
      have hz : z.data.toList.length ≤ 140737488351232 := hsm _ (by have hd := congrArg Prod.fst hy0; simp only at hd; rw [hd]; exact weights_str _)
      subst e0
      obtain ⟨-, -, hcell⟩ := World.cells?_some h1
      have q0 := hcell 0 (by omega)
      rw [add_add] at q0
      exact ⟨z.data.toList, by rw [strB_of]; simpa using q0, hz⟩)
    refine ⟨_, ws, rfl, ?_, fun z hz => ?_, ?_⟩
    rotate_left
    · obtain ⟨i, hi, rfl⟩ := List.mem_iff_getElem.1 hz
      exact (hws i hi).2
    · have hlw := hw _ (by rw [hy]; exact weights_len Try.underlying24)
      rw [hb16] at hlw
      simp only [List.length_map, List.length_range] at hlw
      rw [hlen]
      refine Nat.le_trans (Nat.mul_le_mul_right _ ?_) hlw
      omega
    show Sl _ _ _ _ _
    rw [hlen]
    refine Sl.of_cells (by rw [scs_length, hlen]; omega) hl hm (fun e => by cases e) (by decide) ?_
    rintro a' ⟨⟩ i v hv
    have hi : i < ws.length := by rw [← scs_length]; exact (List.getElem?_eq_some_iff.1 hv).1
    rw [scs_get, List.getElem?_eq_getElem hi] at hv
    cases hv
    exact (hws i hi).1
theorem trace_in {H : Type} {enc : TypeId × Value → H} {W : World} {v : Value} {d : DataW H} {p : List MemPlace}
    (hv : ∃ cs, v = .agg cs ∧ cs.size = Try.prog.cellsOf 26) (h : DataW.Trod enc Try.prog W 0 (fun _ => true) true 26 v d p) (hw : Small 26 d) : ∃ t : Trc, TrV (J0 W) v t ∧ TrS t := by
  obtain ⟨cs, rfl, hcz⟩ := hv
  have hi1 : Try.prog.cellsOf 23 = 1 := by kernel_rfl
  have hs1 : Try.prog.cellsOf 24 = 1 := by kernel_rfl
  have hb1 : Try.prog.cellsOf 9 = 1 := by kernel_rfl
  have hc3 : Try.prog.cellsOf 26 = 3 := by kernel_rfl
  obtain ⟨fuel, hf⟩ := h
  obtain ⟨xs, n', -, hD, hl3, hsz, ht⟩ := DataW.trod_struct Try.underlying26 hf
  have hD1 := congrArg Prod.fst hD
  simp only at hD1
  rw [hc3] at hl3
  obtain ⟨c0, c1, c2, hcs⟩ : ∃ c0 c1 c2, (Value.agg cs).cells.toList = [c0, c1, c2] := by
    match (Value.agg cs).cells.toList, hl3 with
    | [c0, c1, c2], _ => exact ⟨c0, c1, c2, rfl⟩
  rw [hcs] at ht
  have get : ∀ i, i < 3 → ∃ y, xs[i]? = some y := fun i hi => ⟨_, List.getElem?_eq_getElem (by rw [hsz]; exact hi)⟩
  obtain ⟨y0, g0⟩ := get 0 (by omega)
  obtain ⟨y1, g1⟩ := get 1 (by omega)
  obtain ⟨y2, g2⟩ := get 2 (by omega)
  obtain ⟨z0, e0, hy0, -⟩ := DataW.trod_string Try.underlying9 ((ht 0 _ rfl).trans g0)
  obtain ⟨z1, l1, e1, hz1, hs, hln⟩ := needs_in ((ht 1 _ rfl).trans g1) (fun x' hx' => hw _ (by
    rw [hD1]
    exact weights_agg (j := 1) Try.underlying26 rfl (d := y1.1) (by rw [List.getElem?_map, g1]; rfl) hx'))
  obtain ⟨z2, l2, e2, hz2, ho, hlo⟩ := outs_in ((ht 2 _ rfl).trans g2) (fun x' hx' => hw _ (by
    rw [hD1]
    exact weights_agg (j := 2) Try.underlying26 rfl (d := y2.1) (by rw [List.getElem?_map, g2]; rfl) hx'))
  have hz0 : z0.data.toList.length ≤ 140737488351232 := by
    refine hw _ ?_
    rw [hD1]
    refine weights_agg (j := 0) Try.underlying26 rfl (d := y0.1) (by rw [List.getElem?_map, g0]; rfl) ?_
    rw [hy0]
    exact weights_str _
  simp [hi1, hs1, hb1] at e0 e1 e2
  subst e0 e1 e2
  refine ⟨⟨z0.data.toList, l1, l2⟩, ⟨c1, c2, ?_, hz1, hz2⟩, hz0, hs, ho, hln, hlo⟩
  rw [strB_of]
  congr 1
  exact Array.toList_inj.1 (by simpa [Value.cells] using hcs)
theorem needsV_in {H : Type} {enc : TypeId × Value → H} {W : World} {v : Value} {d : DataW H} {p : List MemPlace}
    (hv : ∃ a l c, v = .slice a l c) (h : DataW.Trod enc Try.prog W 0 (fun _ => true) true 23 v d p) (hw : Small 23 d) : ∃ l : List Nee, Ns (J0 W) v l ∧ (∀ z ∈ l, NeS z) ∧ l.length * 40 ≤ 140737488351232 := by
  obtain ⟨a, ln, c, rfl⟩ := hv
  obtain ⟨fuel, hf⟩ := h
  obtain ⟨v', l, e, h1, h2, h3⟩ := needs_in hf hw
  simp only [Value.cells, List.cons.injEq, and_true] at e
  subst e
  exact ⟨l, h1, h2, h3⟩
end Go.Proofs.Ytldicbhjmjjfbaa
