/- From the reading of a row's arguments to the vocabulary of JLib. -/
import Derived.Test.YtldicbhjmjjfbaaJLib
import Derived.ProofKit
import Derived.OpenShut
import Derived.ShutString
import Derived.ChangeOld
import Derived.Below
import Derived.SizedLaws
namespace Go.Proofs.Ytldicbhjmjjfbaa
open Go.RowKit Go.ChangeShapes Go.WideShapes Go.ChangeAt

theorem J0_cell {w : World} {a : Addr} {i : Nat} {v : Value} (h : w.cell? (a.add i) = some v) : (a.spot = none) ∨ 0 < i := by
  by_cases hi : i = 0
  · subst hi
    left
    simp only [Addr.add, if_true, World.cell?] at h
    split at h
    · split at h
      · cases h
      · rename_i hs; simpa using hs
    · cases h
  · right; omega
theorem J0_get {w : World} {a : Addr} {i : Nat} {v : Value} (h : w.cell? (a.add i) = some v) : (J0 w a.block)[a.off + i]? = some v := by
  have hb : (a.add i).block = a.block ∧ (a.add i).off = a.off + i := by unfold Addr.add; split <;> simp_all
  unfold World.cell? at h
  rw [hb.1, hb.2] at h
  unfold J0
  split at h
  · rename_i c e fz hc
    split at h
    · cases h
    · rw [hc]; simpa using h
  · cases h
/-- A slice whose cells are there reads, for good, by what stands in memory. -/
theorem Sl.of_cells {w : World} {A : Option Addr} {size n c : Nat} {cs : List Value} (hl : cs.length = n * size) (hn : n ≤ c) (hm : c ≤ maxLen) (h0 : A = none → c = 0)
    (hs : 0 < size) (hc : ∀ a, A = some a → ∀ i v, cs[i]? = some v → w.cell? (a.add i) = some v) : Sl (J0 w) size (.slice A n c) n cs := by
  refine ⟨hl, A, c, rfl, hn, hm, h0, fun a e => ?_⟩
  by_cases h : n = 0
  · exact .inl h
  · right
    have hpos : 0 < cs.length := by rw [hl]; exact Nat.mul_pos (by omega) hs
    have h1 := hc a e 0 cs[0] (List.getElem?_eq_getElem hpos)
    refine ⟨(J0_cell h1).resolve_right (by omega), ?_⟩
    apply List.ext_getElem?
    intro i
    rw [List.getElem?_take, List.getElem?_drop]
    by_cases hi : i < cs.length
    · rw [if_pos (by omega), List.getElem?_eq_getElem hi]
      exact J0_get (hc a e i _ (List.getElem?_eq_getElem hi))
    · rw [if_neg (by omega), List.getElem?_eq_none (by omega)]
def IsRow (k : IntKind) (w : World) (a : Option Addr) (len cap : Nat) (zs : List Int) : Prop :=
  (a = none ∧ len = 0 ∧ cap = 0 ∧ zs = []) ∨
  ∃ x, a = some x ∧ len ≤ cap ∧ cap ≤ maxLen ∧ zs.length = cap ∧ (∀ i, i < zs.length → w.cell? (x.add i) = some (.int k (zs.getD i 0))) ∧ ∀ n ∈ zs, (Lit.int k n).wf = true
theorem Bs.of_row {w : World} {a : Option Addr} {len cap : Nat} {zs : List Int} (h : IsRow .u8 w a len cap zs) : ∃ l : List UInt8, Bs (J0 w) (.slice a len cap) l ∧ l.length = len := by
  rcases h with ⟨rfl, rfl, rfl, rfl⟩ | ⟨x, rfl, hn, hm, hz, hc, hwf⟩
  · exact ⟨[], Sl.nil _ _, rfl⟩
  · refine ⟨(zs.take len).map fun z => UInt8.ofNat z.toNat, ?_, by simp; omega⟩
    have hlen : ((zs.take len).map fun z => UInt8.ofNat z.toNat).length = len := by simp; omega
    unfold Bs
    rw [hlen]
    refine Sl.of_cells (by simp; omega) hn hm (fun e => by cases e) (by decide) fun a e i v hv => ?_
    cases e
    rw [bcs_get] at hv
    have hi : i < len := by
      have := (List.getElem?_eq_some_iff.1 (show (bcs ((zs.take len).map fun z => UInt8.ofNat z.toNat))[i]? = some v by rw [bcs_get]; exact hv)).1
      rw [bcs_length, hlen] at this
      exact this
    have hz' : zs[i]? = some (zs.getD i 0) := by
      rw [List.getElem?_eq_getElem (by omega)]; simp [List.getD, List.getElem?_eq_getElem (show i < zs.length by omega)]
    rw [List.getElem?_map, List.getElem?_take, if_pos hi, hz'] at hv
    simp at hv
    subst hv
    have hw := hwf (zs.getD i 0) (by rw [List.mem_iff_getElem?]; exact ⟨i, hz'⟩)
    rw [hc i (by omega)]
    simp [Lit.wf, IntKind.min, IntKind.max, IntKind.signed, IntKind.bits] at hw
    congr 1
    simp [bv]
    omega
theorem wf_u (k : IntKind) (hk : k.signed = false) {a : Int} (h : (Lit.int k a).wf = true) : ∃ n : Nat, a = n ∧ n < 2 ^ k.bits := by
  simp [Lit.wf, IntKind.min, IntKind.max, hk] at h
  obtain ⟨h0, h1⟩ := h
  obtain ⟨n, rfl⟩ := Int.eq_ofNat_of_zero_le h0
  refine ⟨n, rfl, ?_⟩
  have : (n : Int) < 2 ^ k.bits := by omega
  exact_mod_cast this
theorem wf_i64 {a : Int} (h : (Lit.int .i64 a).wf = true) : -9223372036854775808 ≤ a ∧ a ≤ 9223372036854775807 := by
  simpa [Lit.wf, IntKind.min, IntKind.max, IntKind.signed, IntKind.bits] using h

/-- A row's slice of whole numbers is no longer than its weight allows. -/
theorem sized_ints_J {H : Type} {enc : TypeId × Value → H} {P : Program} {W : World} {base : Nat} {spare : Nat → Bool} {held : Bool} {t e : TypeId} {k : IntKind} {a : Option Addr} {len cap : Nat} {d : DataW H} {ps : List MemPlace} {ts : List TypeId} {ds : List (DataW H)} {j : Nat}
    (hsz : (DataW.weightsEach P ts ds).all (· ≤ reachBytes) = true) (ht : ts[j]? = some t) (hd : ds[j]? = some d) (hu : P.underlying t = some (.slice e)) (he : P.underlying e = some (.int k)) (hc : P.cellsOf e = 1) {B : Nat} (hB : P.bytesOf e = B)
    (h : DataW.Trod enc P W base spare held t (.slice a len cap) d ps) : len * B ≤ 140737488351232 := by
  obtain ⟨fuel, hf⟩ := h
  rcases open_ints hu he hc hf with ⟨hcs, _⟩ | ⟨x, l, c, zs, hcs, _, hl, _, hz, hx, _, _⟩
  · simp only [Value.cells, List.cons.injEq, Value.slice.injEq, and_true] at hcs
    simp_all
  · simp [Value.cells] at hcs
    obtain ⟨rfl, rfl, rfl⟩ := hcs
    have hx1 := (Prod.mk.inj hx).1
    subst hx1
    have z := sized_slice hsz ht hd hu
    rw [hB] at z
    have hlz : len ≤ zs.length := by
      rw [hz]
      split
      · exact hl
      · exact Nat.le_refl _
    refine Nat.le_trans (Nat.mul_le_mul_right _ ?_) z
    simp [lits]
    omega
end Go.Proofs.Ytldicbhjmjjfbaa
