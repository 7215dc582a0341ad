/- The calls on a cursor, as they stand in memory and as they are read there. -/
import Derived.Test.YtfofgmjhfbmbaaaJBulk
import Derived.Deep.Slices
import Derived.Deep.Strs
namespace Go.Proofs.Ytfofgmjhfbmbaaa
open Go.RowKit Go.ChangeShapes Go.WideShapes Go.ChangeAt Go.Deep

/-- a call on a cursor -/
structure Ask where
  kind : Int
  most : Int
  longest : Int
def acs : List Ask → List Value
  | [] => []
  | a :: r => .int .i64 a.kind :: .int .i64 a.most :: .int .i64 a.longest :: acs r
theorem acs_length (l : List Ask) : (acs l).length = l.length * 3 := by
  induction l with
  | nil => rfl
  | cons a r ih => simp only [acs, List.length_cons, ih]; omega
theorem acs_get : ∀ (l : List Ask) (j : Nat) (h : j < l.length), (acs l)[j * 3]? = some (.int .i64 l[j].kind) ∧ (acs l)[j * 3 + 1]? = some (.int .i64 l[j].most) ∧ (acs l)[j * 3 + 2]? = some (.int .i64 l[j].longest)
  | a :: r, 0, _ => ⟨rfl, rfl, rfl⟩
  | a :: r, j + 1, h => by
    have := acs_get r j (by simpa using h)
    simp only [acs, show (j + 1) * 3 = j * 3 + 1 + 1 + 1 by omega, List.getElem?_cons_succ, List.getElem_cons_succ]
    exact this
def As (J : Jm) (v : Value) (l : List Ask) : Prop := Sl J 3 v l.length (acs l)
theorem As.mono {J J' : Jm} {v : Value} {l : List Ask} (h : As J v l) (hle : J.le J') : As J' v l := Sl.mono h hle
theorem As.form {J : Jm} {v : Value} {l : List Ask} (h : As J v l) : ∃ A c, v = .slice A l.length c ∧ l.length ≤ c ∧ c ≤ maxLen := Sl.form h
theorem As.cell {J : Jm} {A : Option Addr} {c m : Nat} {l : List Ask} (h : As J (.slice A m c) l) {w : World} (hI : Inv J w) {j : Nat} (hj : j < l.length) :
    ∃ b o, A = some ⟨b, o, none⟩ ∧ w.cell? ⟨b, o + j * 3, none⟩ = some (.int .i64 l[j].kind) ∧ w.cell? ⟨b, o + j * 3 + 1, none⟩ = some (.int .i64 l[j].most) ∧ w.cell? ⟨b, o + j * 3 + 2, none⟩ = some (.int .i64 l[j].longest) := by
  obtain ⟨h1, h2, h3⟩ := acs_get l j hj
  obtain ⟨b, o, hA, c1⟩ := Sl.cell h hI h1
  obtain ⟨b', o', hA', c2⟩ := Sl.cell h hI h2
  obtain ⟨b'', o'', hA'', c3⟩ := Sl.cell h hI h3
  rw [hA] at hA' hA''
  cases hA'; cases hA''
  exact ⟨b, o, hA, c1, c2, c3⟩
theorem list_of {α : Type} {P : Nat → α → Prop} : ∀ (n : Nat), (∀ i, i < n → ∃ x, P i x) → ∃ l : List α, l.length = n ∧ ∀ i (h : i < l.length), P i l[i]
  | 0, _ => ⟨[], rfl, fun i h => absurd h (Nat.not_lt_zero i)⟩
  | n + 1, h => by
    obtain ⟨l, e, hl⟩ := list_of n fun i hi => h i (by omega)
    obtain ⟨x, hx⟩ := h n (by omega)
    refine ⟨l ++ [x], by simp [e], fun i hi => ?_⟩
    by_cases hn : i < l.length
    · rw [List.getElem_append_left hn]; exact hl i hn
    · obtain rfl : i = l.length := by simp at hi; omega
      simpa [e] using hx
def Rng (z : Int) : Prop := -9223372036854775808 ≤ z ∧ z ≤ 9223372036854775807
theorem asks_in {H : Type} {enc : TypeId × Value → H} {W : World} {v : Value} {d : DataW H} {p : List MemPlace}
    (hv : ∃ a len cap, v = .slice a len cap) (h : DataW.Trod enc Try.prog W 0 (fun _ => true) true 48 v d p) :
    ∃ sc : List Ask, As (J0 W) v sc ∧ sc.length + 1 ≤ Rows.uptoBulk d ∧ ∀ (j : Nat) (h : j < sc.length), Rng sc[j].most ∧ Rng sc[j].longest := by
  obtain ⟨a, len, cap, rfl⟩ := hv
  obtain ⟨fuel, hf⟩ := h
  rcases open_slice Try.underlying48 hf with ⟨hcs, hx⟩ | ⟨x, l, c, m, n, D, Pl, hcs, _, hl, hm, hmm, hx, hel⟩
  · simp [Value.cells] at hcs
    obtain ⟨rfl, rfl, rfl⟩ := hcs
    exact ⟨[], Sl.nil _ _, bulk_one _, fun j h => absurd h (Nat.not_lt_zero j)⟩
  · simp [Value.cells] at hcs
    obtain ⟨rfl, rfl, rfl⟩ := hcs
    have hc3 : Try.prog.cellsOf 51 = 3 := by kernel_rfl
    have hc1 : Try.prog.cellsOf 3 = 1 := by kernel_rfl
    rw [hc3] at hel
    have hm' : m = cap := by simpa using hmm
    obtain ⟨sc, hlen, hsc⟩ := list_of (P := fun i (y : Ask) => W.cell? (x.add (i * 3)) = some (.int .i64 y.kind) ∧ W.cell? (x.add (i * 3 + 1)) = some (.int .i64 y.most) ∧ W.cell? (x.add (i * 3 + 2)) = some (.int .i64 y.longest) ∧ Rng y.most ∧ Rng y.longest) len (by
      intro i hi
      obtain ⟨cs', h1, h2⟩ := hel i (by omega)
      obtain ⟨y0, y1, y2, n', -, -, ht0, ht1, ht2⟩ := trod_struct3 Try.underlying51 h2
      obtain ⟨z0, e0, -, -⟩ := DataW.trod_int Try.underlying3 ht0
      obtain ⟨z1, e1, -, w1⟩ := DataW.trod_int Try.underlying3 ht1
      obtain ⟨z2, e2, -, w2⟩ := DataW.trod_int Try.underlying3 ht2
      obtain ⟨-, hl3, hcell⟩ := World.cells?_some h1
      obtain ⟨c0, c1, c2, rfl⟩ : ∃ c0 c1 c2, cs' = [c0, c1, c2] := by
        match cs', hl3 with
        | [c0, c1, c2], _ => exact ⟨c0, c1, c2, rfl⟩
      simp [hc1] at e0 e1 e2
      subst e0 e1 e2
      have q0 := hcell 0 (by omega)
      have q1 := hcell 1 (by omega)
      have q2 := hcell 2 (by omega)
      rw [add_add] at q0 q1 q2
      exact ⟨⟨z0, z1, z2⟩, q0, q1, q2, wf_i64 w1, wf_i64 w2⟩)
    refine ⟨sc, ?_, ?_, fun j h => (hsc j h).2.2.2⟩
    · unfold As
      rw [hlen]
      refine Sl.of_cells (by rw [acs_length, hlen]) hl hm (fun e => by cases e) (by decide) ?_
      rintro a' ⟨⟩ i v hv
      have hi : i < sc.length * 3 := by rw [← acs_length]; exact (List.getElem?_eq_some_iff.1 hv).1
      obtain ⟨q, r, hr, rfl⟩ : ∃ q r, r < 3 ∧ i = q * 3 + r := ⟨i / 3, i % 3, by omega, by omega⟩
      have hq : q < sc.length := by omega
      obtain ⟨g0, g1, g2⟩ := acs_get sc q hq
      obtain ⟨k0, k1, k2, -⟩ := hsc q hq
      obtain rfl | rfl | rfl : r = 0 ∨ r = 1 ∨ r = 2 := by omega
      · rw [Nat.add_zero] at hv ⊢; rw [g0] at hv; cases hv; exact k0
      · rw [g1] at hv; cases hv; exact k1
      · rw [g2] at hv; cases hv; exact k2
    · have h2 := congrArg Prod.fst hx
      simp only at h2
      rw [h2]
      have h3 := bulk_length ((List.range len).map D)
      rw [List.length_map, List.length_range] at h3
      simp only [Rows.uptoBulk]
      omega
end Go.Proofs.Ytfofgmjhfbmbaaa
