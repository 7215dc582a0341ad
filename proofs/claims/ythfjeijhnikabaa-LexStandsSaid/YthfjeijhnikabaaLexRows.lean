/- Rows of lines whose words are written in place. -/
import Derived.Test.YthfjeijhnikabaaLexWr
import Derived.Test.YthfjeijhnikabaaLexPlace
namespace Go.Proofs.Ythfjeijhnikabaa
open Go.RowKit
set_option linter.unusedVariables false

/-- places are told by line and column -/
theorem lc_mono {s : List UInt8} {p : Nat} : ∀ (d : Nat), p + d ≤ s.length → ln s p < ln s (p + d) ∨ (ln s p = ln s (p + d) ∧ cl s (p + d) = cl s p + d) := by
  intro d
  induction d with
  | zero => intro _; exact .inr ⟨rfl, rfl⟩
  | succ d ih =>
    intro h
    obtain ⟨c, hc⟩ : ∃ c, s[p + d]? = some c := ⟨_, List.getElem?_eq_getElem (by omega)⟩
    have h1 := lc_succ hc
    rw [show p + (d + 1) = p + d + 1 by omega]
    by_cases e : c = 10
    · obtain ⟨a, _⟩ := h1.1 e
      rcases ih (by omega) with h | ⟨h, _⟩ <;> exact .inl (by omega)
    · obtain ⟨a, b⟩ := h1.2 e
      rcases ih (by omega) with h | ⟨h, h'⟩
      · exact .inl (by omega)
      · exact .inr ⟨by omega, by omega⟩
theorem lc_inj {s : List UInt8} {p q : Nat} (hp : p ≤ s.length) (hq : q ≤ s.length) (h1 : ln s p = ln s q) (h2 : cl s p = cl s q) : p = q := by
  rcases Nat.le_total p q with h | h
  · obtain ⟨d, rfl⟩ := Nat.exists_eq_add_of_le h
    rcases lc_mono d hq with h | ⟨_, h⟩ <;> omega
  · obtain ⟨d, rfl⟩ := Nat.exists_eq_add_of_le h
    rcases lc_mono d hp with h | ⟨_, h⟩ <;> omega
theorem RunL.first {s : List UInt8} : ∀ {ls : List Ln} {lo hi : Nat}, RunL s lo ls hi → ∀ l ∈ ls, ∃ p x r, lo ≤ p ∧ l.ws = x :: r ∧ At s p x
  | [], _, _, _, _, h => by cases h
  | l :: r, lo, hi, ⟨k, mid, h1, h2, _, h4, h5⟩, y, hy => by
    rcases List.mem_cons.1 hy with rfl | hy
    · obtain ⟨x, r', he⟩ := List.exists_cons_of_ne_nil h2
      rw [he] at h4
      obtain ⟨p, a, b, _⟩ := h4
      exact ⟨p, x, r', by omega, he, b⟩
    · obtain ⟨p, x, r', a, b, c⟩ := h5.first y hy
      have := h4.le
      exact ⟨p, x, r', by omega, b, c⟩
theorem RunL.apart {s : List UInt8} : ∀ {ls : List Ln} {lo hi : Nat}, RunL s lo ls hi → ls.Pairwise fun l k => wsC l.ws ≠ wsC k.ws
  | [], _, _, _ => .nil
  | l :: r, lo, hi, ⟨k, mid, h1, h2, _, h4, h5⟩ => by
    refine .cons (fun y hy e => ?_) h5.apart
    obtain ⟨x, r1, he⟩ := List.exists_cons_of_ne_nil h2
    obtain ⟨p, x', r', a, b, c⟩ := h5.first y hy
    rw [he] at h4
    obtain ⟨q, d, f, g⟩ := h4
    have hle := g.le
    rw [he, b] at e
    simp only [wsC, wcs, List.cons_append, List.nil_append, List.cons.injEq, Value.int.injEq, true_and] at e
    obtain ⟨_, e1, e2, _⟩ := e
    have := lc_inj (s := s) (p := q) (q := p) (Nat.le_of_lt f.2.2.1) (Nat.le_of_lt c.2.2.1) (by rw [← f.1, ← c.1]; omega) (by rw [← f.2.1, ← c.2.1]; omega)
    omega
/-- the lines' cells, place by place -/
theorem LsO.of {J : Jm} {w : World} {base M : Nat} : ∀ {ls : List Ln} {cs : List Value}, cs.length = ls.length * 3 → (∀ (i : Nat) (hi : i < ls.length), ∃ wv, cs[i * 3]? = some (.int .i64 (ls[i].num : Int)) ∧ cs[i * 3 + 1]? = some (.bool ls[i].ind) ∧ cs[i * 3 + 2]? = some wv ∧
    Own J w base 35 5 wv ls[i].ws.length (wsC ls[i].ws) ∧ ∀ b, wv.ownBlock = some b → b < M) → LsO J w base M ls cs
  | [], cs, hl, _ => by
    have : cs = [] := List.eq_nil_of_length_eq_zero (by simpa using hl)
    subst this; exact .nil
  | l :: ls, cs, hl, h => by
    match cs, hl with
    | [], hl => simp at hl
    | [_], hl => simp at hl; omega
    | [_, _], hl => simp at hl; omega
    | a :: b :: c :: cs, hl =>
      obtain ⟨wv, e0, e1, e2, hO, hM⟩ := h 0 (by simp)
      simp at e0 e1 e2
      subst e0 e1 e2
      refine .cons hO hM (LsO.of (by simp at hl; omega) fun i hi => ?_)
      have := h (i + 1) (by simpa using hi)
      simp only [show (i + 1) * 3 = i * 3 + 1 + 1 + 1 by omega, List.getElem?_cons_succ, List.getElem_cons_succ] at this
      exact this
theorem LsO.cap {J : Jm} {w : World} {base M : Nat} {ls : List Ln} {cs : List Value} (h : LsO J w base M ls cs) : LsO J w base w.heap.size ls cs := by
  induction h with
  | nil => exact .nil
  | cons h1 h2 _ ih => exact .cons h1 (fun b e => (h1.lt b e).2) ih
/-- no two lines' rows lie in one block -/
def Dst (c : List Value) : Prop := ∀ (i j g m m' p p' : Nat), c[i * 3 + 2]? = some (.slice (some ⟨g, 0, none⟩) m p) → c[j * 3 + 2]? = some (.slice (some ⟨g, 0, none⟩) m' p') → i = j
theorem LsO.dst {J : Jm} {w : World} {base M : Nat} {ls : List Ln} {cs : List Value} (h : LsO J w base M ls cs) (ha : ls.Pairwise fun l k => wsC l.ws ≠ wsC k.ws) : Dst cs := by
  have key : ∀ (i j g m m' p p' : Nat), i < j → cs[i * 3 + 2]? = some (.slice (some ⟨g, 0, none⟩) m p) → cs[j * 3 + 2]? = some (.slice (some ⟨g, 0, none⟩) m' p') → False := by
    intro i j g m m' p p' hij h1 h2
    have hl := h.length
    have hj : j < ls.length := by have := (List.getElem?_eq_some_iff.1 h2).1; omega
    obtain ⟨v, _, _, e, hO, _⟩ := h.at (i := i) (by omega)
    obtain ⟨v', _, _, e', hO', _⟩ := h.at hj
    rw [h1] at e; rw [h2] at e'
    cases e; cases e'
    have a := hO.2 g rfl
    have b := hO'.2 g rfl
    rw [a] at b
    exact List.pairwise_iff_getElem.1 ha i j (by omega) hj hij b
  intro i j g m m' p p' h1 h2
  rcases Nat.lt_trichotomy i j with h | h | h
  · exact (key i j g m m' p p' h h1 h2).elim
  · exact h
  · exact (key j i g m' m p' p h h2 h1).elim
/-- a cell of a row of the call's own is written -/
theorem Own.write {J : Jm} {w : World} (hI : Inv J w) {base : Nat} {T : TypeId} {size n g cap x : Nat} {cs : List Value} (h : Own J w base T size (.slice (some ⟨g, 0, none⟩) n cap) n cs) (hx : x < cs.length) (v : Value) :
    Own (J.put g (cs.set x v)) (w.setCell ⟨g, x, none⟩ v) base T size (.slice (some ⟨g, 0, none⟩) n cap) n (cs.set x v) ∧ Inv (J.put g (cs.set x v)) (w.setCell ⟨g, x, none⟩ v) := by
  obtain ⟨⟨hl, hv⟩, hJ⟩ := h
  rcases hv with ⟨h, _⟩ | ⟨g', cap', cur, h, hb, hg, hn, hm, hs, ht⟩
  · cases h
  · cases h
    have hnew := heap_setCell_same w g x cur T v hg
    have htk : (cur.setIfInBounds x v).toList.take (n * size) = cs.set x v := by
      rw [Array.toList_setIfInBounds, ← ht, List.take_set]
    refine ⟨⟨⟨by simpa using hl, .inr ⟨g, cap, _, rfl, hb, hnew, hn, hm, by simpa using hs, htk⟩⟩, fun b e => ?_⟩, ?_⟩
    · simp [Value.ownBlock] at e
      subst e; exact Jm.put_same _ _ _
    · refine ⟨fun b hb => ?_⟩
      by_cases e : b = g
      · subst e; rw [Jm.put_same] at *; exact ⟨_, _, _, hnew, htk ▸ List.take_prefix _ _⟩
      · rw [Jm.put_other _ _ _ e] at *
        obtain ⟨c', T', fz, hc, hp⟩ := hI.cells b hb
        exact ⟨c', T', fz, (Below.heap_setCell w ⟨g, x, none⟩ v b e).trans hc, hp⟩
theorem Own.writeOther {J : Jm} {w : World} {base : Nat} {T : TypeId} {size n g x : Nat} {u : Value} {cs cs' : List Value} (h : Own J w base T size u n cs) (hne : u.ownBlock ≠ some g) (v : Value) : Own (J.put g cs') (w.setCell ⟨g, x, none⟩ v) base T size u n cs :=
  h.kept fun b e => by
    have hb : b ≠ g := fun h => hne (h ▸ e)
    exact ⟨Below.heap_setCell w ⟨g, x, none⟩ v b hb, Jm.put_other _ _ _ hb⟩
theorem Ext.write {J J1 : Jm} {w w1 : World} (h : Ext J w J1 w1) {g x : Nat} {cs : List Value} {v : Value} (hg : w.heap.size ≤ g) (hI : Inv (J1.put g cs) (w1.setCell ⟨g, x, none⟩ v)) : Ext J w (J1.put g cs) (w1.setCell ⟨g, x, none⟩ v) :=
  ⟨h.below.setCell hg v, hI, fun b hb => (Jm.put_other _ _ _ (by omega)).trans (h.old b hb)⟩
def Wd.at (x : Wd) (n : Nat) : Wd := { x with line := n }
theorem wsC_set (l : List Wd) : ∀ (k : Nat) (hk : k < l.length) (n : Nat), (wsC l).set (k * 5 + 1) (.int .i64 (n : Int)) = wsC (l.set k (l[k].at n)) := by
  induction l with
  | nil => intro k hk; exact absurd hk (Nat.not_lt_zero k)
  | cons a r ih =>
    intro k hk n
    match k, hk with
    | 0, _ => rfl
    | k + 1, hk =>
      have := ih k (by simpa using hk) n
      simp only [wsC, wcs, List.cons_append, List.nil_append, show (k + 1) * 5 + 1 = (k * 5 + 1) + 1 + 1 + 1 + 1 + 1 by omega, List.set_cons_succ, List.getElem_cons_succ, this]
/-- a line with other words -/
def Ln.with (l : Ln) (ws : List Wd) : Ln := { l with ws := ws }
theorem LsO.write {J : Jm} {w : World} (hI : Inv J w) {base M : Nat} {ls : List Ln} {cs : List Value} (h : LsO J w base M ls cs) (hd : Dst cs) {i : Nat} (hi : i < ls.length) {g m cap : Nat} (hc : cs[i * 3 + 2]? = some (.slice (some ⟨g, 0, none⟩) m cap))
    {k : Nat} (hk : k < ls[i].ws.length) (n : Nat) :
    let v : Value := .int .i64 (n : Int); let ws' := ls[i].ws.set k (ls[i].ws[k].at n)
    LsO (J.put g (wsC ws')) (w.setCell ⟨g, k * 5 + 1, none⟩ v) base M (ls.set i (ls[i].with ws')) cs ∧ Inv (J.put g (wsC ws')) (w.setCell ⟨g, k * 5 + 1, none⟩ v) := by
  intro v ws'
  obtain ⟨wv, e0, e1, e2, hO, hM⟩ := h.at hi
  rw [hc] at e2
  cases e2
  obtain ⟨A, c, hv, _⟩ := hO.sl.form
  cases hv
  have hw := hO.write hI (x := k * 5 + 1) (by rw [wsC_length]; omega) v
  rw [wsC_set _ _ hk] at hw
  refine ⟨LsO.of (by rw [List.length_set]; exact h.length) fun j hj => ?_, hw.2⟩
  rw [List.length_set] at hj
  by_cases e : j = i
  · subst e
    rw [List.getElem_set_self]
    refine ⟨_, e0, e1, hc, ?_, hM⟩
    have : (ls[j].with ws').ws.length = ls[j].ws.length := by show (ls[j].ws.set k _).length = _; rw [List.length_set]
    rw [this]
    exact hw.1
  · rw [List.getElem_set_ne (fun h => e h.symm)]
    obtain ⟨wv', f0, f1, f2, hO', hM'⟩ := h.at hj
    refine ⟨wv', f0, f1, f2, hO'.writeOther (fun he => ?_) v, hM'⟩
    obtain ⟨A', c', hv', _⟩ := hO'.sl.form
    subst hv'
    have : A' = some ⟨g, 0, none⟩ := by
      rcases hO'.1.2 with ⟨h, _⟩ | ⟨g', cap', cur', h, _⟩
      · rw [h] at he; simp [Value.ownBlock] at he
      · rw [h] at he; simp [Value.ownBlock] at he; subst he; cases h; rfl
    subst this
    exact e (hd j i g _ _ _ _ f2 hc)
theorem LsO.writeOther {J : Jm} {w : World} {base M : Nat} {ls : List Ln} {cs : List Value} (h : LsO J w base M ls cs) {g x : Nat} {cs' : List Value} (hg : g < base) (v : Value) : LsO (J.put g cs') (w.setCell ⟨g, x, none⟩ v) base M ls cs :=
  h.imp (fun _ _ _ o _ => o.writeOther (fun e => by have := (o.lt g e).1; omega) v) (Nat.le_refl _)
end Go.Proofs.Ythfjeijhnikabaa
