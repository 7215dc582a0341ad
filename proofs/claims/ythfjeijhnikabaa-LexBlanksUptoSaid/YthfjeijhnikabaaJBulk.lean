/- What an argument's reading weighs, and what it reads as. -/
import Derived.Test.YthfjeijhnikabaaRows
import Derived.Test.YthfjeijhnikabaaJRow
import Derived.Test.YthfjeijhnikabaaJStr
import Derived.SliceStrings
namespace Go.Proofs.Ythfjeijhnikabaa
open Go.RowKit Go.ChangeShapes Go.WideShapes Go.ChangeAt

theorem bulk_one {H : Type} (d : DataW H) : 1 ≤ Rows.uptoBulk d := by
  cases d with
  | lit l => cases l <;> simp [Rows.uptoBulk]
  | _ => simp [Rows.uptoBulk]
theorem bulk_length {H : Type} (l : List (DataW H)) : l.length ≤ Rows.uptoBulkAll l := by
  induction l with
  | nil => simp [Rows.uptoBulkAll]
  | cons x r ih => have := bulk_one x; simp only [Rows.uptoBulkAll, List.length_cons]; omega
theorem bulk_mem {H : Type} {d : DataW H} {l : List (DataW H)} (h : d ∈ l) : Rows.uptoBulk d ≤ Rows.uptoBulkAll l := by
  induction l with
  | nil => cases h
  | cons x r ih =>
    simp only [Rows.uptoBulkAll]
    cases List.mem_cons.1 h with
    | inl e => subst e; omega
    | inr e => have := ih e; omega
theorem bulk_bound {H : Type} {l : List (DataW H)} (hk : Rows.uptoSmall H l = true) : Rows.uptoBulkAll l ≤ 1048576 := of_decide_eq_true hk
/-- the weight of a row of strings -/
def bulkS : List (List UInt8) → Nat
  | [] => 0
  | l :: r => (l.length + 1) + bulkS r
theorem bulkS_strs {H : Type} (ss : List ByteArray) : Rows.uptoBulkAll (strs (H := H) ss) = bulkS (ss.map fun s => s.data.toList) := by
  induction ss with
  | nil => rfl
  | cons s ss ih =>
    have h1 : strs (H := H) (s :: ss) = .lit (.string s.data.toList) :: strs ss := rfl
    rw [h1]
    simp only [Rows.uptoBulkAll, ih, Rows.uptoBulk, List.map_cons, bulkS]
theorem bytes_in {H : Type} {enc : TypeId × Value → H} {W : World} {t e : TypeId} {v : Value} {d : DataW H} {p : List MemPlace} (ht : Try.prog.underlying t = some (.slice e)) (he : Try.prog.underlying e = some (.int .u8)) (hc : Try.prog.cellsOf e = 1)
    (hv : ∃ a len cap, v = .slice a len cap) (h : DataW.Trod enc Try.prog W 0 (fun _ => true) true t v d p) : ∃ l : List UInt8, Bs (J0 W) v l ∧ l.length + 1 ≤ Rows.uptoBulk d := by
  obtain ⟨a, len, cap, rfl⟩ := hv
  obtain ⟨fuel, hf⟩ := h
  rcases open_ints ht he hc hf with ⟨hcs, hx⟩ | ⟨x, l, c, zs, hcs, _, hl, hm, hz, hx, hcell, hwz⟩
  · simp [Value.cells] at hcs
    obtain ⟨rfl, rfl, rfl⟩ := hcs
    exact ⟨[], Sl.nil _ _, bulk_one _⟩
  · simp [Value.cells] at hcs
    obtain ⟨rfl, rfl, rfl⟩ := hcs
    obtain ⟨l, hb, e⟩ := Bs.of_row (.inr ⟨_, rfl, hl, hm, by simpa using hz, hcell, hwz⟩)
    refine ⟨l, hb, ?_⟩
    have h2 := congrArg Prod.fst hx
    simp only at h2
    rw [h2]
    have h3 := bulk_length (lits (H := H) IntKind.u8 (zs.take len))
    have hz' : zs.length = cap := by simpa using hz
    have h4 : (lits (H := H) IntKind.u8 (zs.take len)).length = len := by simp [lits]; omega
    simp only [Rows.uptoBulk]
    omega
theorem strs_in {H : Type} {enc : TypeId × Value → H} {W : World} {t e : TypeId} {v : Value} {d : DataW H} {p : List MemPlace} (ht : Try.prog.underlying t = some (.slice e)) (he : Try.prog.underlying e = some .string) (hc : Try.prog.cellsOf e = 1)
    (hv : ∃ a len cap, v = .slice a len cap) (h : DataW.Trod enc Try.prog W 0 (fun _ => true) true t v d p) : ∃ ls : List (List UInt8), Ss (J0 W) v ls ∧ bulkS ls + 1 ≤ Rows.uptoBulk d := by
  obtain ⟨a, len, cap, rfl⟩ := hv
  obtain ⟨fuel, hf⟩ := h
  rcases open_strings ht he hc hf with ⟨hcs, hx⟩ | ⟨x, l, c, ss, hcs, _, hl, hm, hz, hx, hcell, hwz⟩
  · simp [Value.cells] at hcs
    obtain ⟨rfl, rfl, rfl⟩ := hcs
    exact ⟨[], Sl.nil _ _, bulk_one _⟩
  · simp [Value.cells] at hcs
    obtain ⟨rfl, rfl, rfl⟩ := hcs
    have hz' : ss.length = cap := by simpa using hz
    refine ⟨(ss.take len).map fun s => s.data.toList, ?_, ?_⟩
    · unfold Ss
      have hlen : ((ss.take len).map fun s => s.data.toList).length = len := by simp; omega
      rw [hlen]
      refine Sl.of_cells (by simp; omega) hl hm (fun e => by cases e) (by decide) ?_
      rintro a' ⟨⟩ i v hv
      rw [scs_get, List.getElem?_map, List.getElem?_take] at hv
      by_cases hi : i < len
      · rw [if_pos hi] at hv
        have h5 := hcell i (by omega)
        have h6 : ss[i]? = some (ss.getD i ByteArray.empty) := by rw [List.getD_eq_getElem?_getD, List.getElem?_eq_getElem (by omega)]; rfl
        rw [h6] at hv
        simp only [Option.map_some, Option.some.injEq] at hv
        rw [h5, ← hv, strB_of]
      · rw [if_neg hi] at hv; cases hv
    · have h2 := congrArg Prod.fst hx
      simp only at h2
      rw [h2]
      simp only [Rows.uptoBulk, bulkS_strs]
      omega
end Go.Proofs.Ythfjeijhnikabaa
