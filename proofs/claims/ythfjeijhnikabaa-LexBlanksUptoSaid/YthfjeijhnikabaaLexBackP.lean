/- What a text says, written again, says the same: in plain Lean. -/
import Derived.Test.YthfjeijhnikabaaLexWq
import Derived.Test.YthfjeijhnikabaaLexUni
namespace Go.Proofs.Ythfjeijhnikabaa
open Go.RowKit
set_option linter.unusedVariables false

theorem At.gw {s : List UInt8} {p : Nat} {x : Wd} (h : At s p x) : gw (wst x) := by
  obtain ⟨_, _, _, h⟩ := h
  unfold Go.Proofs.Ythfjeijhnikabaa.gw wst
  simp only
  by_cases hq : x.quoted = true
  · rw [if_pos hq] at h ⊢; exact h.2
  · rw [if_neg hq] at h ⊢; exact h.2.2
theorem Run.gw {s : List UInt8} : ∀ {ws : List Wd} {lo hi : Nat}, Run s lo ws hi → ∀ x ∈ ws, Go.Proofs.Ythfjeijhnikabaa.gw (wst x)
  | [], _, _, _, _, h => by cases h
  | y :: r, lo, hi, ⟨p, _, h2, h3⟩, x, hx => by
    rcases List.mem_cons.1 hx with rfl | hx
    · exact h2.gw
    · exact h3.gw x hx
/-- a line that a text may hold -/
def GL (l : Lq) : Prop := l.2 ≠ [] ∧ ∀ x ∈ l.2, gw x
theorem RunL.good {s : List UInt8} : ∀ {ls : List Ln} {lo hi : Nat}, RunL s lo ls hi → ∀ l ∈ ls, GL (lst l)
  | [], _, _, _, _, h => by cases h
  | y :: r, lo, hi, ⟨k, mid, _, h2, h3, h4, h5⟩, l, hl => by
    rcases List.mem_cons.1 hl with rfl | hl
    · refine ⟨by simpa [lst] using h2, fun x hx => ?_⟩
      obtain ⟨y, hy, rfl⟩ := List.mem_map.1 hx
      exact h4.gw y hy
    · exact h5.good l hl
theorem Wt.of {ws : List Wq} (h : ∀ x ∈ ws, gw x) : ∀ k, k < ws.length → Wt (ws.take (k + 1)) (wsT (ws.take (k + 1))) := by
  intro k
  induction k with
  | zero =>
    intro hk
    match ws, h, hk with
    | x :: r, h, _ => simpa [wsT] using Wt.one (h x List.mem_cons_self)
  | succ k ih =>
    intro hk
    rw [List.take_succ_eq_append_getElem hk, wsT_snoc]
    have hne : ws.take (k + 1) ≠ [] := by
      intro e
      have h2 : (ws.take (k + 1)).length = k + 1 := by rw [List.length_take]; omega
      rw [e] at h2; simp at h2
    rw [if_neg hne]
    exact (ih (by omega)).snoc blank_sp (h _ (List.getElem_mem _))
theorem Wt.all {ws : List Wq} (h : ∀ x ∈ ws, gw x) (hne : ws ≠ []) : Wt ws (wsT ws) := by
  have hl := List.length_pos_iff.2 hne
  have := Wt.of h (ws.length - 1) (by omega)
  rwa [show ws.length - 1 + 1 = ws.length by omega, List.take_length] at this
theorem Txt.of {A : List Lq} (h : ∀ l ∈ A, GL l) : ∀ k, k ≤ A.length → Txt (A.take k) (writeL (A.take k)) := by
  intro k
  induction k with
  | zero => intro _; exact .nil
  | succ k ih =>
    intro hk
    have hk' : k < A.length := hk
    rw [List.take_succ_eq_append_getElem hk']
    have hg := h A[k] (List.getElem_mem hk')
    have := (ih (by omega)).snoc A[k].1 (Wt.all hg.2 hg.1) ender_nl
    have e : writeL (A.take k ++ [A[k]]) = writeL (A.take k) ++ ((if A[k].1 = true then [9] else []) ++ wsT A[k].2 ++ [10]) := by
      unfold writeL
      rw [List.flatMap_append]
      congr 1
      simp [lnT]
    rw [e]
    exact this
theorem lexL_back {s : List UInt8} {ls : List Ln} (h : lexL s = .ok ls) : ∃ R, lexL (writeL (ls.map lst)) = .ok R ∧ R.map lst = ls.map lst := by
  have hg : ∀ l ∈ ls.map lst, GL l := by
    intro l hl
    obtain ⟨y, hy, rfl⟩ := List.mem_map.1 hl
    exact (lexL_run h).good y hy
  have := Txt.of hg (ls.map lst).length (Nat.le_refl _)
  rw [List.take_length] at this
  exact this.lexed
theorem qt_tot (frm : Nat) : ∀ (n : Nat) (T : List Tok) (acc t : List UInt8) (r : List Tok), T.length ≤ n → qt frm T acc = .ok (t, r) → t.length + r.length + 1 ≤ acc.length + T.length := by
  intro n
  induction n using Nat.strongRecOn with
  | _ n ih =>
    intro T acc t r hn h
    match T, hn, h with
    | [], _, h => rw [qt_nil] at h; cases h
    | x :: T, hn, h =>
      rw [qt_cons] at h
      simp only [List.length_cons] at hn ⊢
      split at h
      · cases h
      split at h
      · cases h; omega
      split at h
      · match T, hn, h with
        | [], _, h => cases h
        | d :: T, hn, h =>
          simp only at h
          split at h
          · split at h
            · have := ih T.length (by simp at hn; omega) T _ t r (Nat.le_refl _) h
              simp only [List.length_append, List.length_cons, List.length_nil] at this ⊢; omega
            · cases h
          · cases h
      · have := ih T.length (by omega) T _ t r (Nat.le_refl _) h
        simp only [List.length_append, List.length_cons, List.length_nil] at this; omega
def totD (ws : List Wd) : Nat := totW (ws.map Wd.i)
def totL (ls : List Ln) : Nat := tot (ls.map Ln.i)
theorem totD_add (one : Ln) (x : Wd) : totD (one.add x).ws = totD one.ws + x.text.length + 1 := by
  show totW ((one.ws ++ [x]).map Wd.i) = _
  rw [List.map_append, totW_app]; simp [totD, totW, Wd.i]; omega
theorem totL_fin (outs : List Ln) (one : Ln) : totL (fin outs one) = totL outs + totD one.ws := by
  unfold fin
  split
  · rename_i h; rw [h]; simp [totD, totW]
  · show tot ((outs ++ [one]).map Ln.i) = _
    rw [List.map_append, tot_app]
    show totL outs + (totW (one.ws.map Wd.i) + 0) = _
    rfl
theorem lx_tot {s : List UInt8} : ∀ (n : Nat) (T : List Tok) (outs : List Ln) (one : Ln) (fr : Bool) (R : List Ln), T.length ≤ n → lxC s T outs one fr = .ok R → totL R ≤ totL outs + totD one.ws + 2 * T.length := by
  intro n
  induction n using Nat.strongRecOn with
  | _ n ih =>
    intro T outs one fr R hn h
    match T, hn, h with
    | [], _, h => rw [lxC_nil] at h; cases h; rw [totL_fin]; omega
    | t :: r, hn, h =>
      rw [lxC_step] at h
      simp only [List.length_cons] at hn ⊢
      have go : ∀ (r' : List Tok) (os : List Ln) (o : Ln) (f : Bool), r'.length ≤ r.length → lxC s r' os o f = .ok R → totL R ≤ totL os + totD o.ws + 2 * r'.length :=
        fun r' os o f h1 h3 => ih r'.length (by omega) r' os o f R (Nat.le_refl _) h3
      split at h
      · have := go r _ _ _ (Nat.le_refl _) h
        rw [totL_fin] at this
        have e : totD (⟨ln s (t.pos + 1), false, []⟩ : Ln).ws = 0 := rfl
        omega
      split at h
      · have := go r _ _ _ (Nat.le_refl _) h; omega
      split at h
      · have := go r _ _ _ (Nat.le_refl _) h
        have e : totD ({ one with ind := true } : Ln).ws = totD one.ws := rfl
        omega
      split at h
      · have h1 := dropWhile_len (fun t : Tok => decide (t.c ≠ 10)) r
        have := go _ _ _ _ h1 h; omega
      split at h
      · have := go r _ _ _ (Nat.le_refl _) h
        rw [totD_add] at this
        simp only [List.length_cons, List.length_nil] at this
        omega
      split at h
      · cases hq : qt t.pos r [] with
        | error z => rw [hq] at h; cases h
        | ok tr =>
          obtain ⟨txt, r'⟩ := tr
          rw [hq] at h
          have h1 := qt_tot t.pos r.length r [] txt r' (Nat.le_refl _) hq
          simp only [List.length_nil] at h1
          have := go r' _ _ _ (by omega) h
          rw [totD_add] at this
          simp only at this
          omega
      split at h
      · have h1 := dropWhile_len (fun t : Tok => bareB t.c) r
        have := go _ _ _ _ h1 h
        rw [totD_add] at this
        have h2 : (r.takeWhile fun t => bareB t.c).length + (r.dropWhile fun t => bareB t.c).length = r.length := by
          rw [← List.length_append, List.takeWhile_append_dropWhile]
        simp only [List.length_cons, List.length_map] at this
        omega
      · cases h
theorem lexL_tot {s : List UInt8} {R : List Ln} (h : lexL s = .ok R) : tot (R.map Ln.i) ≤ 2 * s.length := by
  have hlex : lexL s = lxC s (toks s 0) [] ⟨1, false, []⟩ true := lx_fuel s _ _ _ _ _ _ (Nat.lt_succ_of_le (toks_length s 0)) (Nat.lt_succ_self _)
  rw [hlex] at h
  have h1 := lx_tot _ _ _ _ _ _ (Nat.le_refl _) h
  have h2 := toks_length s 0
  have e1 : totL [] = 0 := rfl
  have e2 : totD (⟨1, false, []⟩ : Ln).ws = 0 := rfl
  have e3 : totL R = tot (R.map Ln.i) := rfl
  omega
end Go.Proofs.Ythfjeijhnikabaa
