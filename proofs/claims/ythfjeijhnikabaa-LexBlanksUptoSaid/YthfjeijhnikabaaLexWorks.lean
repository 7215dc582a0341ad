/- works of the statements of package lex. -/
import Derived.Test.YthfjeijhnikabaaLexTop
namespace Go.Proofs.Ythfjeijhnikabaa
open Go.RowKit

theorem lexL_works : lexL [97, 58, 32, 98, 10] = .ok [⟨1, false, [⟨[97], 1, 0, false, false⟩, ⟨[58], 1, 1, false, true⟩, ⟨[98], 1, 3, false, false⟩]⟩] := by kernel_rfl
/-- a line's cells in a row of lines -/
theorem LsO.at {J : Jm} {w : World} {base M : Nat} {ls : List Ln} {cs : List Value} (h : LsO J w base M ls cs) : ∀ {i : Nat} (hi : i < ls.length), ∃ wv, cs[i * 3]? = some (.int .i64 (ls[i].num : Int)) ∧ cs[i * 3 + 1]? = some (.bool ls[i].ind) ∧ cs[i * 3 + 2]? = some wv ∧
    Own J w base 35 5 wv ls[i].ws.length (wsC ls[i].ws) ∧ ∀ b, wv.ownBlock = some b → b < M := by
  induction h with
  | nil => intro i hi; exact absurd hi (Nat.not_lt_zero i)
  | cons h1 h2 _ ih =>
    intro i hi
    match i, hi with
    | 0, _ => exact ⟨_, rfl, rfl, rfl, h1, h2⟩
    | i + 1, hi =>
      obtain ⟨wv, e0, e1, e2, r⟩ := ih (i := i) (by simpa using hi)
      refine ⟨wv, ?_, ?_, ?_, r⟩
      · rw [show (i + 1) * 3 = i * 3 + 1 + 1 + 1 by omega]; simpa using e0
      · rw [show (i + 1) * 3 + 1 = (i * 3 + 1) + 1 + 1 + 1 by omega]; simpa using e1
      · rw [show (i + 1) * 3 + 2 = (i * 3 + 2) + 1 + 1 + 1 by omega]; simpa using e2
theorem wsC_at : ∀ (l : List Wd) (k : Nat) (hk : k < l.length), (wsC l)[k * 5]? = some (.string (strB l[k].text)) ∧ (wsC l)[k * 5 + 1]? = some (.int .i64 (l[k].line : Int)) ∧ (wsC l)[k * 5 + 2]? = some (.int .i64 (l[k].col : Int)) ∧
    (wsC l)[k * 5 + 3]? = some (.bool l[k].quoted) ∧ (wsC l)[k * 5 + 4]? = some (.bool l[k].mark)
  | x :: r, 0, _ => ⟨rfl, rfl, rfl, rfl, rfl⟩
  | x :: r, k + 1, h => by
    have := wsC_at r k (by simpa using h)
    simp only [wsC, wcs, show (k + 1) * 5 = k * 5 + 1 + 1 + 1 + 1 + 1 by omega, List.cons_append, List.nil_append, List.getElem?_cons_succ, List.getElem_cons_succ]
    exact this
set_option maxRecDepth 100000 in
set_option maxHeartbeats 4000000 in
theorem works_calls {J : Jm} {w : World} (hI : Inv J w) :
    Calls Try.prog 12 #[] w fun e w' => ∃ J', e = .returned (.bool true) ∧ Ext J w J' w' := by
  go_enter Try.func12, Try.ntmps12
  go_wp2_with fail
  refine (Lines_calls hI [97, 58, 32, 98, 10] (by decide)).mono ?_
  intro e w1 h
  unfold LinesP at h
  rw [if_neg (by decide), lexL_works] at h
  obtain ⟨J1, v, c, M, B, rfl, hE, hB, hO, hL⟩ := h
  obtain ⟨A, cp, rfl, -, -⟩ := hO.sl.form
  obtain ⟨wv, e0, e1, e2, hW, -⟩ := hL.at (i := 0) (by decide)
  obtain ⟨WA, wc, rfl, -, -⟩ := hW.sl.form
  obtain ⟨b, o, rfl, c2⟩ := Sl.cell hO.sl hE.inv e2
  obtain ⟨b1, o1, rfl, d1⟩ := Sl.cell hW.sl hE.inv (wsC_at _ 1 (by decide)).2.2.2.2
  obtain ⟨b2, o2, hb2, d2⟩ := Sl.cell hW.sl hE.inv (wsC_at _ 2 (by decide)).1
  cases hb2
  have k2 : ∀ ob, (w1.alloc ob).cell? ⟨b, o + 2, none⟩ = some (.slice (some ⟨b1, o1, none⟩) 3 wc) := fun ob => (((Below.refl w1.heap.size w1).alloc (Nat.le_refl _) ob).cell (lt_of_cell c2)).trans (by simpa using c2)
  have k3 : ∀ ob, (w1.alloc ob).cell? ⟨b1, o1 + 9, none⟩ = some (.bool true) := fun ob => (((Below.refl w1.heap.size w1).alloc (Nat.le_refl _) ob).cell (p := ⟨b1, o1 + 9, none⟩) (lt_of_cell d1)).trans (by simpa using d1)
  have k4 : ∀ ob, (w1.alloc ob).cell? ⟨b1, o1 + 10, none⟩ = some (.string ⟨#[98]⟩) := fun ob => (((Below.refl w1.heap.size w1).alloc (Nat.le_refl _) ob).cell (p := ⟨b1, o1 + 10, none⟩) (lt_of_cell d2)).trans (by have := d2; simpa [strB] using this)
  clear c2 d1 d2
  have HE := Lib.hid hE
  clear hE hO hL hW e0 e1 e2
  unfold spot
  go_wp2_with fail
  go_ret
  exact ⟨J1, rfl, HE.out.alloc _⟩
end Go.Proofs.Ythfjeijhnikabaa
