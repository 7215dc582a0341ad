/- Lines with any numbers, as they stand in memory; what is written of them. -/
import Derived.Test.YthfjeijhnikabaaLexLs
import Derived.Test.YthfjeijhnikabaaLexText
namespace Go.Proofs.Ythfjeijhnikabaa
open Go.RowKit
set_option linter.unusedVariables false

structure Wi where
  text : List UInt8
  line : Int
  col : Int
  quoted : Bool
  mark : Bool
structure Li where
  num : Int
  ind : Bool
  ws : List Wi
def Wi.q (x : Wi) : Wq := (x.text, x.quoted, x.mark)
def Li.q (l : Li) : Lq := (l.ind, l.ws.map Wi.q)
def Wd.i (x : Wd) : Wi := ⟨x.text, x.line, x.col, x.quoted, x.mark⟩
def Ln.i (l : Ln) : Li := ⟨l.num, l.ind, l.ws.map Wd.i⟩
theorem Ln.i_q (l : Ln) : l.i.q = lst l := by
  simp only [Li.q, Ln.i, lst, List.map_map]; congr 1
def wiC : List Wi → List Value
  | [] => []
  | x :: r => .string (strB x.text) :: .int .i64 x.line :: .int .i64 x.col :: .bool x.quoted :: .bool x.mark :: wiC r
theorem wiC_length (l : List Wi) : (wiC l).length = l.length * 5 := by
  induction l with
  | nil => rfl
  | cons a r ih => simp only [wiC, List.length_cons, ih]; omega
theorem wiC_at : ∀ (l : List Wi) (k : Nat) (hk : k < l.length), (wiC l)[k * 5]? = some (.string (strB l[k].text)) ∧ (wiC l)[k * 5 + 1]? = some (.int .i64 l[k].line) ∧ (wiC l)[k * 5 + 2]? = some (.int .i64 l[k].col) ∧
    (wiC l)[k * 5 + 3]? = some (.bool l[k].quoted) ∧ (wiC l)[k * 5 + 4]? = some (.bool l[k].mark)
  | x :: r, 0, _ => ⟨rfl, rfl, rfl, rfl, rfl⟩
  | x :: r, k + 1, h => by
    have := wiC_at r k (by simpa using h)
    simp only [wiC, show (k + 1) * 5 = k * 5 + 1 + 1 + 1 + 1 + 1 by omega, List.getElem?_cons_succ, List.getElem_cons_succ]
    exact this
theorem wsC_i (l : List Wd) : wsC l = wiC (l.map Wd.i) := by
  induction l with
  | nil => rfl
  | cons a r ih => simp only [wsC, wcs, List.map_cons, wiC, ih]; rfl
inductive LiC (J : Jm) : List Li → List Value → Prop where
  | nil : LiC J [] []
  | cons {l : Li} {ls : List Li} {wv : Value} {cs : List Value} (h : Sl J 5 wv l.ws.length (wiC l.ws)) (ht : LiC J ls cs) :
      LiC J (l :: ls) (.int .i64 l.num :: .bool l.ind :: wv :: cs)
def Lni (J : Jm) (v : Value) (ls : List Li) : Prop := ∃ cs, Sl J 3 v ls.length cs ∧ LiC J ls cs
theorem LsC.i {J : Jm} {ls : List Ln} {cs : List Value} (h : LsC J ls cs) : LiC J (ls.map Ln.i) cs := by
  induction h with
  | nil => exact .nil
  | cons h1 _ ih =>
    rename_i l ls wv cs ht
    exact .cons (l := l.i) (by show Sl J 5 wv (l.ws.map Wd.i).length (wiC (l.ws.map Wd.i)); rw [List.length_map, ← wsC_i]; exact h1) ih
theorem Lns.i {J : Jm} {v : Value} {ls : List Ln} (h : Lns J v ls) : Lni J v (ls.map Ln.i) := by
  obtain ⟨cs, h1, h2⟩ := h
  exact ⟨cs, by rw [List.length_map]; exact h1, h2.i⟩
theorem LiC.mono {J J' : Jm} {ls : List Li} {cs : List Value} (h : LiC J ls cs) (hle : J.le J') : LiC J' ls cs := by
  induction h with
  | nil => exact .nil
  | cons h1 _ ih => exact .cons (h1.mono hle) ih
theorem Lni.mono {J J' : Jm} {v : Value} {ls : List Li} (h : Lni J v ls) (hle : J.le J') : Lni J' v ls := by
  obtain ⟨cs, h1, h2⟩ := h
  exact ⟨cs, h1.mono hle, h2.mono hle⟩
theorem Lni.form {J : Jm} {v : Value} {ls : List Li} (h : Lni J v ls) : ∃ A c, v = .slice A ls.length c ∧ ls.length ≤ c ∧ c ≤ maxLen := by
  obtain ⟨cs, h1, _⟩ := h; exact h1.form
theorem LiC.at {J : Jm} {ls : List Li} {cs : List Value} (h : LiC J ls cs) : ∀ {i : Nat} (hi : i < ls.length), ∃ wv, cs[i * 3]? = some (.int .i64 ls[i].num) ∧ cs[i * 3 + 1]? = some (.bool ls[i].ind) ∧ cs[i * 3 + 2]? = some wv ∧
    Sl J 5 wv ls[i].ws.length (wiC ls[i].ws) := by
  induction h with
  | nil => intro i hi; exact absurd hi (Nat.not_lt_zero i)
  | cons h1 _ ih =>
    intro i hi
    match i, hi with
    | 0, _ => exact ⟨_, rfl, rfl, rfl, h1⟩
    | i + 1, hi =>
      obtain ⟨wv, e0, e1, e2, r⟩ := ih (i := i) (by simpa using hi)
      refine ⟨wv, ?_, ?_, ?_, r⟩
      · rw [show (i + 1) * 3 = i * 3 + 1 + 1 + 1 by omega]; simpa using e0
      · rw [show (i + 1) * 3 + 1 = (i * 3 + 1) + 1 + 1 + 1 by omega]; simpa using e1
      · rw [show (i + 1) * 3 + 2 = (i * 3 + 2) + 1 + 1 + 1 by omega]; simpa using e2
theorem Lni.cell {J : Jm} {A : Option Addr} {c m : Nat} {ls : List Li} (h : Lni J (.slice A m c) ls) {w : World} (hI : Inv J w) {i : Nat} (hi : i < ls.length) :
    ∃ b o WA wc, A = some ⟨b, o, none⟩ ∧ w.cell? ⟨b, o + i * 3, none⟩ = some (.int .i64 ls[i].num) ∧ w.cell? ⟨b, o + i * 3 + 1, none⟩ = some (.bool ls[i].ind) ∧ w.cell? ⟨b, o + i * 3 + 2, none⟩ = some (.slice WA ls[i].ws.length wc) ∧ Sl J 5 (.slice WA ls[i].ws.length wc) ls[i].ws.length (wiC ls[i].ws) := by
  obtain ⟨cs, h1, h2⟩ := h
  obtain ⟨wv, e0, e1, e2, hw⟩ := h2.at hi
  obtain ⟨b, o, hA, c0⟩ := Sl.cell h1 hI e0
  obtain ⟨b', o', hA', c1⟩ := Sl.cell h1 hI e1
  obtain ⟨b'', o'', hA'', c2⟩ := Sl.cell h1 hI e2
  rw [hA] at hA' hA''
  cases hA'; cases hA''
  obtain ⟨WA, wc, rfl, -, -⟩ := hw.form
  exact ⟨b, o, WA, wc, hA, c0, c1, c2, hw⟩
theorem wi_cell {J : Jm} {A : Option Addr} {c m : Nat} {l : List Wi} (h : Sl J 5 (.slice A m c) l.length (wiC l)) {w : World} (hI : Inv J w) {k : Nat} (hk : k < l.length) :
    ∃ b o, A = some ⟨b, o, none⟩ ∧ w.cell? ⟨b, o + k * 5, none⟩ = some (.string (strB l[k].text)) ∧ w.cell? ⟨b, o + k * 5 + 1, none⟩ = some (.int .i64 l[k].line) ∧ w.cell? ⟨b, o + k * 5 + 2, none⟩ = some (.int .i64 l[k].col) ∧
      w.cell? ⟨b, o + k * 5 + 3, none⟩ = some (.bool l[k].quoted) ∧ w.cell? ⟨b, o + k * 5 + 4, none⟩ = some (.bool l[k].mark) := by
  obtain ⟨q0, q1, q2, q3, q4⟩ := wiC_at l k hk
  obtain ⟨b, o, hA, c0⟩ := Sl.cell h hI q0
  obtain ⟨b1, o1, hA1, c1⟩ := Sl.cell h hI q1
  obtain ⟨b2, o2, hA2, c2⟩ := Sl.cell h hI q2
  obtain ⟨b3, o3, hA3, c3⟩ := Sl.cell h hI q3
  obtain ⟨b4, o4, hA4, c4⟩ := Sl.cell h hI q4
  rw [hA] at hA1 hA2 hA3 hA4
  cases hA1; cases hA2; cases hA3; cases hA4
  exact ⟨b, o, hA, c0, c1, c2, c3, c4⟩
/-- the text of a row of words, of a line, of lines -/
def wsT : List Wq → List UInt8
  | [] => []
  | x :: r => wt x ++ r.flatMap fun y => 32 :: wt y
def lnT (l : Lq) : List UInt8 := (if l.1 = true then [9] else []) ++ wsT l.2 ++ [10]
def writeL (A : List Lq) : List UInt8 := A.flatMap lnT
theorem wsT_snoc (ws : List Wq) (x : Wq) : wsT (ws ++ [x]) = if ws = [] then wt x else wsT ws ++ [32] ++ wt x := by
  cases ws with
  | nil => simp [wsT]
  | cons y r => simp [wsT]
/-- what words weigh -/
def totW : List Wi → Nat
  | [] => 0
  | x :: r => x.text.length + 1 + totW r
def tot : List Li → Nat
  | [] => 0
  | l :: r => totW l.ws + tot r
theorem totW_app (a b : List Wi) : totW (a ++ b) = totW a + totW b := by
  induction a with
  | nil => simp [totW]
  | cons x r ih => simp only [List.cons_append, totW, ih]; omega
theorem tot_app (a b : List Li) : tot (a ++ b) = tot a + tot b := by
  induction a with
  | nil => simp [tot]
  | cons x r ih => simp only [List.cons_append, tot, ih]; omega
theorem totW_take (l : List Wi) (k : Nat) : totW (l.take k) ≤ totW l := by
  conv => rhs; rw [← List.take_append_drop k l, totW_app]
  omega
theorem tot_take (l : List Li) (k : Nat) : tot (l.take k) ≤ tot l := by
  conv => rhs; rw [← List.take_append_drop k l, tot_app]
  omega
theorem totW_at (l : List Wi) (k : Nat) (h : k < l.length) : totW (l.take (k + 1)) = totW (l.take k) + l[k].text.length + 1 := by
  rw [List.take_succ_eq_append_getElem h, totW_app]; simp [totW]; omega
theorem tot_at (l : List Li) (k : Nat) (h : k < l.length) : tot (l.take (k + 1)) = tot (l.take k) + totW l[k].ws := by
  rw [List.take_succ_eq_append_getElem h, tot_app]; simp [tot]
theorem totW_len (l : List Wi) : l.length ≤ totW l := by
  induction l with
  | nil => simp
  | cons x r ih => simp only [totW, List.length_cons]; omega
theorem wt_len (x : Wq) : (wt x).length ≤ 2 * x.1.length + 2 := by
  unfold wt
  split
  · omega
  split
  · exact quoteL_len _
  · unfold showL; split
    · omega
    · exact quoteL_len _
theorem wsT_len (l : List Wi) : (wsT (l.map Wi.q)).length ≤ 3 * totW l := by
  have h : ∀ (r : List Wi), ((r.map Wi.q).flatMap fun y => 32 :: wt y).length ≤ 3 * totW r := by
    intro r
    induction r with
    | nil => simp
    | cons x r ih =>
      have := wt_len x.q
      have e : x.q.1.length = x.text.length := rfl
      simp only [List.map_cons, List.flatMap_cons, List.length_append, List.length_cons, totW]; omega
  cases l with
  | nil => simp [wsT]
  | cons x r =>
    have h1 := h r
    have h2 := wt_len x.q
    have e : x.q.1.length = x.text.length := rfl
    simp only [List.map_cons, wsT, List.length_append, totW]; omega
theorem writeL_len (A : List Li) : (writeL (A.map Li.q)).length ≤ 2 * A.length + 3 * tot A := by
  induction A with
  | nil => simp [writeL]
  | cons l r ih =>
    have h1 := wsT_len l.ws
    have h2 : (if l.q.1 = true then [(9 : UInt8)] else []).length ≤ 1 := by split <;> simp
    simp only [writeL, List.map_cons, List.flatMap_cons, List.length_append, lnT, List.length_cons, List.length_nil, tot] at ih ⊢
    have e : l.q.2 = l.ws.map Wi.q := rfl
    rw [e]
    omega
theorem writeL_take {A : List Li} {k : Nat} (h : k < A.length) : writeL ((A.take (k + 1)).map Li.q) = writeL ((A.take k).map Li.q) ++ lnT A[k].q := by
  unfold writeL
  rw [List.take_succ_eq_append_getElem h, List.map_append, List.flatMap_append]
  congr 1
  simp
theorem wsT_take {l : List Wi} {k : Nat} (h : k < l.length) : wsT ((l.take (k + 1)).map Wi.q) = (if k = 0 then [] else wsT ((l.take k).map Wi.q) ++ [32]) ++ wt l[k].q := by
  rw [List.take_succ_eq_append_getElem h, List.map_append]
  simp only [List.map_cons, List.map_nil]
  rw [wsT_snoc]
  by_cases hk : k = 0
  · subst hk; simp
  · have : (l.take k).map Wi.q ≠ [] := by
      intro e
      have h2 : ((l.take k).map Wi.q).length = k := by rw [List.length_map, List.length_take]; omega
      rw [e] at h2
      exact hk h2.symm
    rw [if_neg this, if_neg hk]
end Go.Proofs.Ythfjeijhnikabaa
