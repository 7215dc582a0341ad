/- What Lines answers, in one form. -/
import Derived.Test.YthfjeijhnikabaaLexPos
import Derived.Test.YthfjeijhnikabaaLexLs
namespace Go.Proofs.Ythfjeijhnikabaa
open Go.RowKit
set_option linter.unusedVariables false

/-- the answer: the error, where, the lines -/
def an (s : List UInt8) : Int × Int × List Ln := if 32768 < s.length then (3, 32768, []) else match lexL s with
  | .error x => (6, (x : Int), [])
  | .ok ls => (0, 0, ls)
def LinesU (J : Jm) (w : World) (s : List UInt8) (w' : World) (e : Ending) : Prop :=
  ∃ v J' B M c, e = .returned (.tuple #[v, spot (an s).1 (an s).2.1]) ∧ Ext J w J' w' ∧ w.heap.size ≤ B ∧ Own J' w' B 33 3 v (an s).2.2.length c ∧ LsO J' w' B M (an s).2.2 c
theorem LinesP.uni {J : Jm} {w w' : World} {s : List UInt8} {e : Ending} (h : LinesP J w s w' e) : LinesU J w s w' e := by
  unfold LinesP at h
  unfold LinesU an
  by_cases hl : 32768 < s.length
  · simp only [if_pos hl] at h ⊢
    exact ⟨_, J, w.heap.size, 0, [], h.1, h.2, Nat.le_refl _, Own.nil _ _ _ _ _, .nil⟩
  · simp only [if_neg hl] at h ⊢
    unfold AnsP at h
    cases hr : lexL s with
    | error x =>
      rw [hr] at h
      obtain ⟨he, J', hE⟩ := h
      exact ⟨_, J', w.heap.size, 0, [], he, hE, Nat.le_refl _, Own.nil _ _ _ _ _, .nil⟩
    | ok ls =>
      rw [hr] at h
      obtain ⟨J', v, c, M, B, he, hE, hB, hO, hL⟩ := h
      exact ⟨v, J', B, M, c, he, hE, hB, hO, hL⟩
theorem an_run {s : List UInt8} : RunL s 0 (an s).2.2 s.length := by
  unfold an
  by_cases hl : 32768 < s.length
  · simp only [if_pos hl]; exact Nat.zero_le _
  · simp only [if_neg hl]
    cases hr : lexL s with
    | error x => exact Nat.zero_le _
    | ok ls => exact lexL_run hr
/-- a line's cells, of a row of lines that may be written -/
theorem LsO.lns {J : Jm} {w : World} {base M : Nat} {v : Value} {ls : List Ln} {c : List Value} (hO : Own J w base 33 3 v ls.length c) (hL : LsO J w base M ls c) : Lns J v ls := ⟨c, hO.sl, hL.lsc⟩
end Go.Proofs.Ythfjeijhnikabaa
