/- Lines as they are read, for good; words compared. -/
import Derived.Test.YthfjeijhnikabaaLexWorks
namespace Go.Proofs.Ythfjeijhnikabaa
open Go.RowKit

inductive LsC (J : Jm) : List Ln → List Value → Prop where
  | nil : LsC J [] []
  | cons {l : Ln} {ls : List Ln} {wv : Value} {cs : List Value} (h : Sl J 5 wv l.ws.length (wsC l.ws)) (ht : LsC J ls cs) :
      LsC J (l :: ls) (.int .i64 (l.num : Int) :: .bool l.ind :: wv :: cs)
/-- a slice of lines -/
def Lns (J : Jm) (v : Value) (ls : List Ln) : Prop := ∃ cs, Sl J 3 v ls.length cs ∧ LsC J ls cs
theorem LsO.lsc {J : Jm} {w : World} {base M : Nat} {ls : List Ln} {cs : List Value} (h : LsO J w base M ls cs) : LsC J ls cs := by
  induction h with
  | nil => exact .nil
  | cons h1 _ _ ih => exact .cons h1.sl ih
theorem LsC.mono {J J' : Jm} {ls : List Ln} {cs : List Value} (h : LsC J ls cs) (hle : J.le J') : LsC J' ls cs := by
  induction h with
  | nil => exact .nil
  | cons h1 _ ih => exact .cons (h1.mono hle) ih
theorem Lns.mono {J J' : Jm} {v : Value} {ls : List Ln} (h : Lns J v ls) (hle : J.le J') : Lns J' v ls := by
  obtain ⟨cs, h1, h2⟩ := h
  exact ⟨cs, h1.mono hle, h2.mono hle⟩
theorem Lns.form {J : Jm} {v : Value} {ls : List Ln} (h : Lns J v ls) : ∃ A c, v = .slice A ls.length c ∧ ls.length ≤ c ∧ c ≤ maxLen := by
  obtain ⟨cs, h1, _⟩ := h; exact h1.form
theorem Lns.nil (J : Jm) : Lns J (.slice none 0 0) [] := ⟨[], Sl.nil _ _, .nil⟩
theorem LsC.at {J : Jm} {ls : List Ln} {cs : List Value} (h : LsC J ls cs) : ∀ {i : Nat} (hi : i < ls.length), ∃ wv, cs[i * 3]? = some (.int .i64 (ls[i].num : Int)) ∧ cs[i * 3 + 1]? = some (.bool ls[i].ind) ∧ cs[i * 3 + 2]? = some wv ∧
    Sl J 5 wv ls[i].ws.length (wsC ls[i].ws) := by
  induction h with
  | nil => intro i hi; exact absurd hi (Nat.not_lt_zero i)
  | cons h1 _ ih =>
    intro i hi
    match i, hi with
    | 0, _ => exact ⟨_, rfl, rfl, rfl, h1⟩
    | i + 1, hi =>
      obtain ⟨wv, e0, e1, e2, r⟩ := ih (i := i) (by simpa using hi)
      refine ⟨wv, ?_, ?_, ?_, r⟩
      · rw [show (i + 1) * 3 = i * 3 + 1 + 1 + 1 by omega]; simpa using e0
      · rw [show (i + 1) * 3 + 1 = (i * 3 + 1) + 1 + 1 + 1 by omega]; simpa using e1
      · rw [show (i + 1) * 3 + 2 = (i * 3 + 2) + 1 + 1 + 1 by omega]; simpa using e2
/-- a line's cells in memory -/
theorem Lns.cell {J : Jm} {A : Option Addr} {c m : Nat} {ls : List Ln} (h : Lns J (.slice A m c) ls) {w : World} (hI : Inv J w) {i : Nat} (hi : i < ls.length) :
    ∃ b o wv, A = some ⟨b, o, none⟩ ∧ w.cell? ⟨b, o + i * 3, none⟩ = some (.int .i64 (ls[i].num : Int)) ∧ w.cell? ⟨b, o + i * 3 + 1, none⟩ = some (.bool ls[i].ind) ∧ w.cell? ⟨b, o + i * 3 + 2, none⟩ = some wv ∧ Sl J 5 wv ls[i].ws.length (wsC ls[i].ws) := by
  obtain ⟨cs, h1, h2⟩ := h
  obtain ⟨wv, e0, e1, e2, hw⟩ := h2.at hi
  obtain ⟨b, o, hA, c0⟩ := Sl.cell h1 hI e0
  obtain ⟨b', o', hA', c1⟩ := Sl.cell h1 hI e1
  obtain ⟨b'', o'', hA'', c2⟩ := Sl.cell h1 hI e2
  rw [hA] at hA' hA''
  cases hA'; cases hA''
  exact ⟨b, o, wv, hA, c0, c1, c2, hw⟩
/-- a word's cells in memory -/
theorem ws_cell {J : Jm} {A : Option Addr} {c m : Nat} {l : List Wd} (h : Sl J 5 (.slice A m c) l.length (wsC l)) {w : World} (hI : Inv J w) {k : Nat} (hk : k < l.length) :
    ∃ b o, A = some ⟨b, o, none⟩ ∧ w.cell? ⟨b, o + k * 5, none⟩ = some (.string (strB l[k].text)) ∧ w.cell? ⟨b, o + k * 5 + 1, none⟩ = some (.int .i64 (l[k].line : Int)) ∧ w.cell? ⟨b, o + k * 5 + 2, none⟩ = some (.int .i64 (l[k].col : Int)) ∧
      w.cell? ⟨b, o + k * 5 + 3, none⟩ = some (.bool l[k].quoted) ∧ w.cell? ⟨b, o + k * 5 + 4, none⟩ = some (.bool l[k].mark) := by
  obtain ⟨q0, q1, q2, q3, q4⟩ := wsC_at l k hk
  obtain ⟨b, o, hA, c0⟩ := Sl.cell h hI q0
  obtain ⟨b1, o1, hA1, c1⟩ := Sl.cell h hI q1
  obtain ⟨b2, o2, hA2, c2⟩ := Sl.cell h hI q2
  obtain ⟨b3, o3, hA3, c3⟩ := Sl.cell h hI q3
  obtain ⟨b4, o4, hA4, c4⟩ := Sl.cell h hI q4
  rw [hA] at hA1 hA2 hA3 hA4
  cases hA1; cases hA2; cases hA3; cases hA4
  exact ⟨b, o, hA, c0, c1, c2, c3, c4⟩
theorem strB_inj {a b : List UInt8} (h : strB a = strB b) : a = b := by have := congrArg (fun z => z.data.toList) h; simpa using this
theorem strB_beqL (a b : List UInt8) : ((strB a).toList == (strB b).toList) = decide (a = b) := by rw [strB_toList, strB_toList]; by_cases h : a = b <;> simp [h]
theorem wd_neq (x y : Wd) (w : World) : (binOp .neq 35 (.agg #[.string (strB x.text), .int .i64 (x.line : Int), .int .i64 (x.col : Int), .bool x.quoted, .bool x.mark]) (.agg #[.string (strB y.text), .int .i64 (y.line : Int), .int .i64 (y.col : Int), .bool y.quoted, .bool y.mark])).run Try.prog w = .ok (.bool (decide (x ≠ y))) w := by
  obtain ⟨t1, l1, c1, q1, m1⟩ := x
  obtain ⟨t2, l2, c2, q2, m2⟩ := y
  by_cases h1 : t1 = t2 <;> by_cases h2 : l1 = l2 <;> by_cases h3 : c1 = c2 <;> by_cases h4 : q1 = q2 <;> by_cases h5 : m1 = m2 <;> simp [go_sem, strB_toList, h1, h2, h3, h4, h5] <;> omega
end Go.Proofs.Ythfjeijhnikabaa
