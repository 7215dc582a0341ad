/- What stands in memory while the document's Lines reads; facts on tokens. -/
import Derived.Test.YthfjeijhnikabaaLexRefQ
import Derived.Test.YthfjeijhnikabaaLexRefP
import Derived.Test.YthfjeijhnikabaaLexRefW
import Derived.Test.YthfjeijhnikabaaLexTop
namespace Go.Proofs.Ythfjeijhnikabaa
open Go.RowKit

/-- between two lines -/
structure Ds (J : Jm) (w : World) (M : Nat) (outs : List Ln) (J' : Jm) (wr : World) (ov : Value) (oc : List Value) : Prop where
  ext : Ext J w J' wr
  rb : wr.heap[w.heap.size]? = some (.cells [.int .i64 0, .int .i64 0].toArray 27 (0, 0))
  jr : J' w.heap.size = []
  ow : Own J' wr (w.heap.size + 1) 33 3 ov outs.length oc
  ls : LsO J' wr (w.heap.size + 1) M outs oc
  om : ∀ b, ov.ownBlock = some b → b < M
  m1 : w.heap.size + 1 ≤ M
  m2 : M ≤ wr.heap.size
/-- within a line -/
structure Dl (J : Jm) (w : World) (M lb : Nat) (outs : List Ln) (one : Ln) (J' : Jm) (wr : World) (ov wv : Value) (oc : List Value) : Prop where
  ds : Ds J w M outs J' wr ov oc
  b1 : LnBox wr lb one.num one.ind wv
  j1 : J' lb = []
  ww : Own J' wr (lb + 1) 35 5 wv one.ws.length (wsC one.ws)
  ml : M ≤ lb
section
variable {J J' J2 : Jm} {w wr w2 : World} {M lb : Nat} {outs : List Ln} {one : Ln} {ov wv v2 : Value} {oc : List Value}
theorem Ds.move (h : Ds J w M outs J' wr ov oc) (e : Ext J' wr J2 w2) : Ds J w M outs J2 w2 ov oc where
  ext := h.ext.trans e
  rb := (e.below.block _ (by have := h.m1; have := h.m2; omega)).trans h.rb
  jr := (e.old _ (by have := h.m1; have := h.m2; omega)).trans h.jr
  ow := h.ow.ext e
  ls := h.ls.imp (fun _ _ _ o _ => o.ext e) (Nat.le_refl _)
  om := h.om
  m1 := h.m1
  m2 := Nat.le_trans h.m2 e.below.size
theorem Ds.up (h : Ds J w M outs J' wr ov oc) {M' : Nat} (h1 : M ≤ M') (h2 : M' ≤ wr.heap.size) : Ds J w M' outs J' wr ov oc where
  ext := h.ext
  rb := h.rb
  jr := h.jr
  ow := h.ow
  ls := h.ls.imp (fun _ _ _ o _ => o) h1
  om := fun b e => Nat.lt_of_lt_of_le (h.om b e) h1
  m1 := Nat.le_trans h.m1 h1
  m2 := h2
theorem Ds.mv (h : Ds J w M outs J' wr ov oc) (hl : M ≤ lb) (m : Mv (· = lb) J' wr J2 w2) : Ds J w M outs J2 w2 ov oc where
  ext := h.ext.moved m fun b hb e => by have := h.m1; omega
  rb := m.blk h.rb (by have := h.m1; omega)
  jr := (m.old _ (by have := h.m1; have := h.m2; omega)).trans h.jr
  ow := m.own h.ow fun b e e' => by have := h.om b e; omega
  ls := h.ls.mv m (by intro b _ hb e; omega)
  om := h.om
  m1 := h.m1
  m2 := Nat.le_trans h.m2 m.size
theorem Dl.move (h : Dl J w M lb outs one J' wr ov wv oc) (e : Ext J' wr J2 w2) : Dl J w M lb outs one J2 w2 ov wv oc where
  ds := h.ds.move e
  b1 := (e.below.block _ (Array.getElem?_eq_some_iff.1 h.b1).1).trans h.b1
  j1 := (e.old _ (Array.getElem?_eq_some_iff.1 h.b1).1).trans h.j1
  ww := h.ww.ext e
  ml := h.ml
theorem Dl.set (h : Dl J w M lb outs one J' wr ov wv oc) (i : Nat) (u : Value) : Mv (· = lb) J' wr J' (wr.setCell ⟨lb, i, none⟩ u) :=
  (Mv.refl (· = lb) h.ds.ext.inv).setCell (p := ⟨lb, i, none⟩) (fun _ => rfl) h.j1 u
theorem Dl.num (h : Dl J w M lb outs one J' wr ov wv oc) (n : Nat) : Dl J w M lb outs { one with num := n } J' (wr.setCell ⟨lb, 0, none⟩ (.int .i64 (n : Int))) ov wv oc where
  ds := h.ds.mv h.ml (h.set 0 _)
  b1 := blk_set_J h.b1 0 _
  j1 := h.j1
  ww := (h.set 0 _).ownBase h.ww (by intro b h1 _; omega)
  ml := h.ml
theorem Dl.ind (h : Dl J w M lb outs one J' wr ov wv oc) : Dl J w M lb outs { one with ind := true } J' (wr.setCell ⟨lb, 1, none⟩ (.bool true)) ov wv oc where
  ds := h.ds.mv h.ml (h.set 1 _)
  b1 := blk_set_J h.b1 1 _
  j1 := h.j1
  ww := (h.set 1 _).ownBase h.ww (by intro b h1 _; omega)
  ml := h.ml
/-- a word more -/
theorem Dl.add (h : Dl J w M lb outs one J' wr ov wv oc) (x : Wd) (lit : Obj)
    (hg : Grew J' (wr.alloc lit) wv J2 w2 v2) (ho : Own J2 w2 (lb + 1) 35 5 v2 (one.ws.length + 1) (wsC one.ws ++ wcs x)) :
    LnBox w2 lb one.num one.ind wv ∧ Dl J w M lb outs (one.add x) J2 (w2.setCell ⟨lb, 2, none⟩ v2) ov v2 oc := by
  have m : Mw (fun b => some b = wv.ownBlock) J' wr J2 w2 := (((Ext.refl h.ds.ext.inv).alloc lit).mw h.ds.ext.inv _).then hg.mw
  have hob : ∀ b, b ≤ lb → ¬ some b = wv.ownBlock := fun b hb e => by have := (h.ww.lt b e.symm).1; omega
  have hlt := (Array.getElem?_eq_some_iff.1 h.b1).1
  have hml := h.ml
  have hm1 := h.ds.m1
  have hm2 := h.ds.m2
  have b1 := m.blk h.b1 (hob _ (Nat.le_refl _))
  have j1 := m.nilAt hlt (hob _ (Nat.le_refl _)) h.j1
  have hext : Ext J w J2 w2 := (h.ds.ext.alloc lit).grew ((h.ww.alloc lit).lower (by omega : w.heap.size ≤ lb + 1)) hg
  have hds : Ds J w M outs J2 w2 ov oc := {
    ext := hext
    rb := m.blk h.ds.rb (hob _ (by omega))
    jr := m.nilAt (by omega) (hob _ (by omega)) h.ds.jr
    ow := m.own h.ds.ow fun b e => hob b (by have := h.ds.om b e; omega)
    ls := h.ds.ls.mw m fun v n c o hb b e => hob b (by have := hb b e; omega)
    om := h.ds.om
    m1 := hm1
    m2 := Nat.le_trans hm2 (by simpa using m.size) }
  have m2 := (Mv.refl (· = lb) m.inv).setCell (p := ⟨lb, 2, none⟩) (fun _ => rfl) j1 v2
  refine ⟨b1, ?_⟩
  exact {
    ds := hds.mv h.ml m2
    b1 := blk_set_J b1 2 _
    j1 := j1
    ww := by
      have e1 : (one.add x).ws.length = one.ws.length + 1 := by simp [Ln.add]
      have e2 : wsC (one.add x).ws = wsC one.ws ++ wcs x := by simp [Ln.add, wsC_append, wsC]
      rw [e1, e2]
      exact m2.ownBase ho (by intro b h1 _; omega)
    ml := h.ml }
/-- the line is done -/
theorem Dl.done (h : Dl J w M lb outs one J' wr ov wv oc) (lit : Obj)
    (hg : Grew J' (wr.alloc lit) ov J2 w2 v2) (ho : Own J2 w2 (w.heap.size + 1) 33 3 v2 (outs.length + 1) (oc ++ [.int .i64 (one.num : Int), .bool one.ind, wv])) :
    Ds J w w2.heap.size (outs ++ [one]) J2 w2 v2 (oc ++ [.int .i64 (one.num : Int), .bool one.ind, wv]) := by
  have m : Mw (fun b => some b = ov.ownBlock) J' wr J2 w2 := (((Ext.refl h.ds.ext.inv).alloc lit).mw h.ds.ext.inv _).then hg.mw
  have hlt := (Array.getElem?_eq_some_iff.1 h.b1).1
  have hml := h.ml
  have hm1 := h.ds.m1
  have hm2 := h.ds.m2
  have hob : ∀ b, b < w.heap.size + 1 → ¬ some b = ov.ownBlock := fun b hb e => by have := (h.ds.ow.lt b e.symm).1; omega
  have hext : Ext J w J2 w2 := (h.ds.ext.alloc lit).grew ((h.ds.ow.alloc lit).lower (by omega : w.heap.size ≤ w.heap.size + 1)) hg
  have hwv : ∀ {v : Value} {n : Nat} {c : List Value} {base : Nat}, Own J' wr base 35 5 v n c → ∀ b, v.ownBlock = some b → ¬ some b = ov.ownBlock := fun o b e => o.apart h.ds.ow (by decide) b e
  have hsz : wr.heap.size ≤ w2.heap.size := m.size
  exact {
    ext := hext
    rb := m.blk h.ds.rb (hob _ (by omega))
    jr := m.nilAt (by omega) (hob _ (by omega)) h.ds.jr
    ow := by rw [List.length_append]; exact ho
    ls := ((h.ds.ls.mw m fun v n c o _ b e => hwv o b e).imp (fun _ _ _ o _ => o) (by omega)).append
      (.cons ((m.own h.ww (hwv h.ww)).lower (by omega)) (fun b e => Nat.lt_of_lt_of_le (h.ww.lt b e).2 hsz) .nil)
    om := fun b e => (ho.lt b e).2
    m1 := by omega
    m2 := Nat.le_refl _ }
/-- a line's box, laid -/
theorem Ds.line (h : Ds J w M outs J' wr ov oc) : Dl J w M wr.heap.size outs ⟨0, false, []⟩ J' (wr.alloc (.cells [.int .i64 0, .bool false, .slice none 0 0].toArray 33)) ov (.slice none 0 0) oc where
  ds := h.move ((Ext.refl h.ext.inv).alloc _)
  b1 := heap_alloc_new _ _
  j1 := h.ext.inv.nil (Nat.le_refl _)
  ww := Own.nil _ _ _ _ _
  ml := h.m2
end
/-- the answer's box, written -/
theorem Ds.spot {J J' : Jm} {w wr : World} {M : Nat} {outs : List Ln} {ov : Value} {oc : List Value} (h : Ds J w M outs J' wr ov oc) (e a : Int) :
    ((wr.setCell ⟨w.heap.size, 0, none⟩ (.int .i64 e)).setCell ⟨w.heap.size, 1, none⟩ (.int .i64 a)).cell? ⟨w.heap.size, 0, none⟩ = some (.int .i64 e) ∧
    ((wr.setCell ⟨w.heap.size, 0, none⟩ (.int .i64 e)).setCell ⟨w.heap.size, 1, none⟩ (.int .i64 a)).cell? ⟨w.heap.size, 1, none⟩ = some (.int .i64 a) ∧
    Ext J w J' ((wr.setCell ⟨w.heap.size, 0, none⟩ (.int .i64 e)).setCell ⟨w.heap.size, 1, none⟩ (.int .i64 a)) ∧
    Own J' ((wr.setCell ⟨w.heap.size, 0, none⟩ (.int .i64 e)).setCell ⟨w.heap.size, 1, none⟩ (.int .i64 a)) (w.heap.size + 1) 33 3 ov outs.length oc ∧
    LsO J' ((wr.setCell ⟨w.heap.size, 0, none⟩ (.int .i64 e)).setCell ⟨w.heap.size, 1, none⟩ (.int .i64 a)) (w.heap.size + 1) M outs oc := by
  have b := blk_set_J (blk_set_J h.rb 0 (.int .i64 e)) 1 (.int .i64 a)
  have m := ((Mv.refl (· = w.heap.size) h.ext.inv).setCell (p := ⟨w.heap.size, 0, none⟩) (fun _ => rfl) h.jr (.int .i64 e)).setCell (p := ⟨w.heap.size, 1, none⟩) (fun _ => rfl) h.jr (.int .i64 a)
  refine ⟨blk_cell_J b 0 rfl, blk_cell_J b 1 rfl, ?_, m.ownBase h.ow (by intro b h1 _; omega), h.ls.mv m (by intro b h1 _; omega)⟩
  exact (h.ext.setCell (p := ⟨w.heap.size, 0, none⟩) (Nat.le_refl _) h.jr _).setCell (p := ⟨w.heap.size, 1, none⟩) (Nat.le_refl _) h.jr _
theorem tk_head {s : List UInt8} {p : Nat} {t : Tok} {R : List Tok} (h : toks (s.drop p) p = t :: R) : p < s.length ∧ t.pos = p := by
  have hne : s.drop p ≠ [] := by intro e; rw [e] at h; simp [toks] at h
  refine ⟨?_, ?_⟩
  · rcases Nat.lt_or_ge p s.length with h' | h'
    · exact h'
    · exact absurd (List.drop_of_length_le h') hne
  · rw [toks_step hne] at h
    simp only [List.cons.injEq] at h
    rw [← h.1]
theorem tk_cut {s : List UInt8} {j : Nat} (hj : j < (toks s 0).length) : toks (s.drop 0) 0 = (toks s 0).take j ++ (toks s 0)[j] :: (toks s 0).drop (j + 1) := by
  rw [List.drop_zero, List.getElem_cons_drop, List.take_append_drop]
theorem tk_pk {s : List UInt8} {j : Nat} (hj : j < (toks s 0).length) : pk (s.drop (toks s 0)[j].pos) = ((toks s 0)[j].c, (toks s 0)[j].n) := (toks_split _ _ (tk_cut hj)).1
theorem tk_next {s : List UInt8} {j : Nat} (hj : j + 1 < (toks s 0).length) : (toks s 0)[j + 1].pos = (toks s 0)[j].pos + (toks s 0)[j].n := by
  have h := (toks_split _ _ (tk_cut (show j < (toks s 0).length by omega))).2
  rw [List.drop_eq_getElem_cons hj] at h
  exact (tk_head h.symm).2
theorem tk_lt {s : List UInt8} : ∀ {j : Nat} (hj : j < (toks s 0).length), (toks s 0)[j].pos < s.length
  | 0, hj => by
    have h := tk_cut hj
    rw [List.take_zero, List.nil_append] at h
    have := tk_head h
    rw [this.2]; exact this.1
  | j + 1, hj => by
    have h := (toks_split _ _ (tk_cut (show j < (toks s 0).length by omega))).2
    rw [List.drop_eq_getElem_cons hj] at h
    have := tk_head h.symm
    rw [this.2]; exact this.1
theorem tk_one {s : List UInt8} : ∀ t ∈ toks s 0, t.n = 1 ∨ (t.n = 2 ∧ t.c = 32) := by
  intro t ht
  obtain ⟨j, hj, rfl⟩ := List.mem_iff_getElem.1 ht
  have h := tk_pk hj
  have hl := tk_lt hj
  have hne : s.drop (toks s 0)[j].pos ≠ [] := by intro e; have := congrArg List.length e; simp at this; omega
  rcases pk_cases _ hne with ⟨c, hc⟩ | hc
  · rw [hc] at h; simp at h; exact .inl h.2.symm
  · rw [hc] at h; simp at h; exact .inr ⟨h.2.symm, h.1.symm⟩
/-- a bare token is one byte of the text -/
theorem tk_bareW {s : List UInt8} {j : Nat} (hj : j < (toks s 0).length) (hb : bareB (toks s 0)[j].c = true) :
    (toks s 0)[j].n = 1 ∧ s.drop (toks s 0)[j].pos = (toks s 0)[j].c :: s.drop ((toks s 0)[j].pos + 1) := by
  have h1 : (toks s 0)[j].n = 1 := by
    rcases tk_one _ (List.getElem_mem hj) with h | ⟨_, h⟩
    · exact h
    · rw [h] at hb; exact absurd hb (by decide)
  refine ⟨h1, pk_head (tk_lt hj) ?_⟩
  rw [tk_pk hj, h1]
theorem tk_all (s : List UInt8) : ∃ T, T = toks s 0 ∧ Hid (∀ j (h : j + 1 < T.length), T[j + 1].pos = T[j].pos + T[j].n) ∧ Hid (∀ j (h : j < T.length), T[j].pos < s.length) ∧
    Hid (∀ j (h : j < T.length), bareB T[j].c = true → T[j].n = 1 ∧ s.drop T[j].pos = T[j].c :: s.drop (T[j].pos + 1)) ∧ Hid (∀ t ∈ T, t.n = 1 ∨ (t.n = 2 ∧ t.c = 32)) ∧ T.length ≤ s.length ∧ Hid (rl s (s.length + 1) (T.drop 0) [] = lexL s) :=
  ⟨_, rfl, fun _ h => tk_next h, fun _ h => tk_lt h, fun _ h => tk_bareW h, tk_one, toks_length s 0, by rw [List.drop_zero]; exact (lexL_rl s).symm⟩
/-- the tokens from a place to the next newline, read so far -/
def Sg (T : List Tok) (fm q : Nat) : Prop := (T.drop fm).takeWhile (fun t => decide (t.c ≠ 10)) = (T.take q).drop fm ++ (T.drop q).takeWhile (fun t => decide (t.c ≠ 10)) ∧ (T.drop fm).dropWhile (fun t => decide (t.c ≠ 10)) = (T.drop q).dropWhile (fun t => decide (t.c ≠ 10))
theorem Sg.start (T : List Tok) (fm : Nat) : Sg T fm fm := by
  have h : (T.take fm).drop fm = [] := List.drop_eq_nil_of_le (by rw [List.length_take]; omega)
  exact ⟨by rw [h, List.nil_append], rfl⟩
theorem Sg.step {T : List Tok} {fm q : Nat} (h : Sg T fm q) (h1 : fm ≤ q) (hq : q < T.length) (hc : T[q].c ≠ 10) : Sg T fm (q + 1) := by
  obtain ⟨a, b⟩ := h
  have hd : T.drop q = T[q] :: T.drop (q + 1) := List.drop_eq_getElem_cons hq
  rw [hd, List.takeWhile_cons_of_pos (by simpa using hc)] at a
  rw [hd, List.dropWhile_cons_of_pos (by simpa using hc)] at b
  refine ⟨?_, b⟩
  rw [a, List.take_add_one, List.getElem?_eq_getElem hq, List.drop_append_of_le_length (by simp <;> omega)]
  simp
theorem Sg.end1 {T : List Tok} {fm q : Nat} (h : Sg T fm q) (hq : T.length ≤ q) : (T.drop fm).takeWhile (fun t => decide (t.c ≠ 10)) = (T.take q).drop fm ∧ (T.drop fm).dropWhile (fun t => decide (t.c ≠ 10)) = T.drop q := by
  obtain ⟨a, b⟩ := h
  rw [List.drop_of_length_le hq] at a b ⊢
  exact ⟨by simpa using a, b⟩
theorem Sg.end2 {T : List Tok} {fm q : Nat} (h : Sg T fm q) (hq : q < T.length) (hc : T[q].c = 10) : (T.drop fm).takeWhile (fun t => decide (t.c ≠ 10)) = (T.take q).drop fm ∧ (T.drop fm).dropWhile (fun t => decide (t.c ≠ 10)) = T.drop q := by
  obtain ⟨a, b⟩ := h
  have hd : T.drop q = T[q] :: T.drop (q + 1) := List.drop_eq_getElem_cons hq
  rw [hd, List.takeWhile_cons_of_neg (by simp [hc]), List.append_nil] at a
  rw [hd, List.dropWhile_cons_of_neg (by simp [hc]), ← hd] at b
  exact ⟨a, b⟩
theorem rl_cons (s : List UInt8) (f : Nat) (t : Tok) (r : List Tok) (outs : List Ln) : rl s (f + 1) (t :: r) outs =
    match ll1 s ((t :: r).length + 1) ((t :: r).takeWhile fun t => t.c ≠ 10) ⟨ln s t.pos, false, []⟩ with
    | .error x => .error x
    | .ok one => rl s f (((t :: r).dropWhile fun t => t.c ≠ 10).drop 1) (fin outs one) := rfl
theorem seg_cons {T : List Tok} {i q : Nat} (hi : i < q) (hq : q ≤ T.length) : (T.take q).drop i = T[i] :: (T.take q).drop (i + 1) := by
  rw [List.drop_eq_getElem_cons (by rw [List.length_take]; omega), List.getElem_take]
theorem seg_nil {T : List Tok} {i q : Nat} (hi : q ≤ i) : (T.take q).drop i = [] := List.drop_of_length_le (by rw [List.length_take]; omega)
theorem ll1_no {s : List UInt8} {g : Nat} {L : List Tok} {one : Ln} (h : ∀ t ∈ L.head?, t.c ≠ 9) : ll1 s (g + 1) L one = ll s (g + 1) L one := by
  match L, h with
  | [], _ => rfl
  | t :: L', h =>
    have := h t rfl
    unfold ll1
    simp only [if_neg this]
theorem ll1_tab {s : List UInt8} {g : Nat} {t : Tok} {L : List Tok} {one : Ln} (h : t.c = 9) : ll1 s g (t :: L) one = ll s g L { one with ind := true } := by
  unfold ll1
  simp only [if_pos h]
/-- what follows a line -/
def aft (s : List UInt8) (f : Nat) (r : List Tok) (outs : List Ln) (R : Except Nat Ln) : Except Nat (List Ln) :=
  match R with
  | .error x => .error x
  | .ok one => rl s f r (fin outs one)
/-- one line read -/
theorem rl_line {s : List UInt8} {f fm q : Nat} {T : List Tok} {outs : List Ln} (hf : fm < T.length) (h1 : (T.drop fm).takeWhile (fun t => decide (t.c ≠ 10)) = (T.take q).drop fm) (h2 : (T.drop fm).dropWhile (fun t => decide (t.c ≠ 10)) = T.drop q) :
    rl s (f + 1) (T.drop fm) outs = aft s f (T.drop (q + 1)) outs (ll1 s ((T.drop fm).length + 1) ((T.take q).drop fm) ⟨ln s T[fm].pos, false, []⟩) := by
  have hd : T.drop fm = T[fm] :: T.drop (fm + 1) := List.drop_eq_getElem_cons hf
  rw [hd] at h1 h2 ⊢
  rw [rl_cons, h1, h2, List.drop_drop]
  rfl
end Go.Proofs.Ythfjeijhnikabaa
