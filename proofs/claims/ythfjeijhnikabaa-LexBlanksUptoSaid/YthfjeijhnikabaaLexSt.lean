/- What stands in memory while lines reads. -/
import Derived.Test.YthfjeijhnikabaaLexEnd
namespace Go.Proofs.Ythfjeijhnikabaa
open Go.RowKit

/-- what stands in memory while the lines are read -/
structure St (J : Jm) (w : World) (g : Nat) (outs : List Ln) (one : Ln) (J' : Jm) (wr : World) (ov wv : Value) (oc : List Value) (M : Nat) : Prop where
  mv : Mv (· = g) J w J' wr
  b1 : LnBox wr (w.heap.size + 1) one.num one.ind wv
  b2 : OBox wr w.heap.size ov
  j1 : J' (w.heap.size + 1) = []
  j2 : J' w.heap.size = []
  ow : Own J' wr (w.heap.size + 1 + 1) 33 3 ov outs.length oc
  ls : LsO J' wr (w.heap.size + 1 + 1) M outs oc
  ww : Own J' wr M 35 5 wv one.ws.length (wsC one.ws)
  m1 : w.heap.size + 1 + 1 ≤ M
  m2 : M ≤ wr.heap.size
section
variable {J J' J2 : Jm} {w wr w2 : World} {g M : Nat} {outs : List Ln} {one : Ln} {ov wv : Value} {oc : List Value}
theorem St.move (h : St J w g outs one J' wr ov wv oc M) (m : Mv (· = g) J' wr J2 w2) (hg : g < w.heap.size) : St J w g outs one J2 w2 ov wv oc M where
  mv := h.mv.then m
  b1 := m.blk h.b1 (by omega)
  b2 := m.blk h.b2 (by omega)
  j1 := (m.old _ (Array.getElem?_eq_some_iff.1 h.b1).1).trans h.j1
  j2 := (m.old _ (Array.getElem?_eq_some_iff.1 h.b2).1).trans h.j2
  ow := m.ownBase h.ow (by intro b h1 _; omega)
  ls := h.ls.mv m (by intro b h1 _; omega)
  ww := m.ownBase h.ww (by intro b h1 _; have := h.m1; omega)
  m1 := h.m1
  m2 := Nat.le_trans h.m2 m.size
theorem St.ind (h : St J w g outs one J' wr ov wv oc M) : St J w g outs { one with ind := true } J' (wr.setCell ⟨w.heap.size + 1, 1, none⟩ (.bool true)) ov wv oc M where
  mv := h.mv.setCell (p := ⟨w.heap.size + 1, 1, none⟩) (fun e => absurd e (by show ¬ w.heap.size + 1 < _; omega)) h.j1 _
  b1 := blk_set_J h.b1 1 _
  b2 := (Below.heap_setCell _ _ _ _ (by show w.heap.size ≠ w.heap.size + 1; omega)).trans h.b2
  j1 := h.j1
  j2 := h.j2
  ow := h.ow.kept fun b e => ⟨Below.heap_setCell _ _ _ _ (by have := (h.ow.lt b e).1; show b ≠ w.heap.size + 1; omega), rfl⟩
  ls := h.ls.imp (fun v n c o _ => o.kept fun b e => ⟨Below.heap_setCell _ _ _ _ (by have := (o.lt b e).1; show b ≠ w.heap.size + 1; omega), rfl⟩) (Nat.le_refl _)
  ww := h.ww.kept fun b e => ⟨Below.heap_setCell _ _ _ _ (by have := (h.ww.lt b e).1; have := h.m1; show b ≠ w.heap.size + 1; omega), rfl⟩
  m1 := h.m1
  m2 := by simpa using h.m2
end
theorem Rd.mw {S : Nat → Prop} {J J' : Jm} {w w' : World} {g k : Nat} {s : List UInt8} (h : Rd J w g s k) (e : Mw S J w J' w') (hs : ¬ S g) : Rd J' w' g s k :=
  ⟨(e.block g h.lt hs).trans h.1, (e.old g h.lt hs).trans h.2.1, h.2.2⟩
theorem pk_nl {l : List UInt8} {n : Nat} (h : pk l = (10, n)) : n = 1 := by
  match l, h with
  | [], h => simp [pk] at h
  | [c], h => simp [pk] at h; omega
  | c :: d :: r, h =>
    unfold pk at h
    by_cases hc : c = 92 ∧ d = 10
    · simp only [if_pos hc] at h; simp at h
    · simp only [if_neg hc] at h; simp at h; omega
theorem Own.apart {J : Jm} {w : World} {base base' : Nat} {T T' : TypeId} {size size' : Nat} {v u : Value} {n n' : Nat} {cs cs' : List Value} (h : Own J w base T size v n cs) (hu : Own J w base' T' size' u n' cs') (hne : T ≠ T') :
    ∀ b, v.ownBlock = some b → some b ≠ u.ownBlock := by
  intro b hb e
  rcases h.1.2 with ⟨rfl, _⟩ | ⟨g1, cap1, cur1, rfl, _, hg1, _⟩
  · simp [Value.ownBlock] at hb
  · rcases hu.1.2 with ⟨rfl, _⟩ | ⟨g2, cap2, cur2, rfl, _, hg2, _⟩
    · simp [Value.ownBlock] at e
    · simp [Value.ownBlock] at hb e
      subst hb; subst e
      rw [hg1] at hg2
      simp at hg2
      exact hne hg2.2
theorem fin_nil {outs : List Ln} {one : Ln} (h : one.ws = []) : fin outs one = outs := if_pos h
theorem fin_cons {outs : List Ln} {one : Ln} (h : one.ws ≠ []) : fin outs one = outs ++ [one] := if_neg h
/-- behind the closure -/
structure StE (J : Jm) (w : World) (g : Nat) (outs : List Ln) (J' : Jm) (wr : World) (ov : Value) (oc : List Value) (one : Ln) (wv : Value) : Prop where
  mv : Mv (· = g) J w J' wr
  b1 : LnBox wr (w.heap.size + 1) one.num one.ind wv
  b2 : OBox wr w.heap.size ov
  j1 : J' (w.heap.size + 1) = []
  j2 : J' w.heap.size = []
  ow : Own J' wr (w.heap.size + 1 + 1) 33 3 ov outs.length oc
  ls : LsO J' wr (w.heap.size + 1 + 1) wr.heap.size outs oc
theorem St.ended {J J' J3 : Jm} {w wr w3 : World} {g M n3 : Nat} {outs : List Ln} {one : Ln} {ov wv ov3 : Value} {oc oc3 : List Value} (h : St J w g outs one J' wr ov wv oc M)
    (hM : Mw (fun b => b = w.heap.size ∨ some b = ov.ownBlock) J' wr J3 w3) (hj : J3 w.heap.size = []) (hB : OBox w3 w.heap.size ov3) (hO : Own J3 w3 (w.heap.size + 1 + 1) 33 3 ov3 n3 oc3)
    (hc : (one.ws = [] ∧ n3 = outs.length ∧ oc3 = oc) ∨ (one.ws ≠ [] ∧ n3 = outs.length + 1 ∧ oc3 = oc ++ [.int .i64 (one.num : Int), .bool one.ind, wv])) : StE J w g (fin outs one) J3 w3 ov3 oc3 one wv := by
  have hob : ∀ b, ov.ownBlock = some b → w.heap.size + 1 + 1 ≤ b := fun b e => (h.ow.lt b e).1
  have hw35 : ∀ v n c base, w.heap.size + 1 + 1 ≤ base → Own J' wr base 35 5 v n c → ∀ b, v.ownBlock = some b → ¬ (b = w.heap.size ∨ some b = ov.ownBlock) := by
    intro v n c base hb o b e h'
    rcases h' with h' | h'
    · have := (o.lt b e).1; omega
    · exact o.apart h.ow (by decide) b e h'
  have hls := (h.ls.mw hM fun v n c o _ => hw35 v n c _ (Nat.le_refl _) o)
  have hww := hM.own h.ww (hw35 _ _ _ _ h.m1 h.ww)
  refine ⟨h.mv.thenMw hM ?_, hM.blk h.b1 ?_, hB, hM.nilAt (Array.getElem?_eq_some_iff.1 h.b1).1 ?_ h.j1, hj, ?_, ?_⟩
  · intro b hb h'
    rcases h' with h' | h'
    · omega
    · have := hob b h'.symm; omega
  · intro h'
    rcases h' with h' | h'
    · omega
    · have := hob _ h'.symm; omega
  · intro h'
    rcases h' with h' | h'
    · omega
    · have := hob _ h'.symm; omega
  · rcases hc with ⟨h0, rfl, rfl⟩ | ⟨h0, rfl, rfl⟩
    · rw [fin_nil h0]; exact hO
    · rw [fin_cons h0, List.length_append]; exact hO
  · have hls' := hls.imp (fun v n c o _ => o) (Nat.le_trans h.m2 hM.size)
    rcases hc with ⟨h0, rfl, rfl⟩ | ⟨h0, rfl, rfl⟩
    · rw [fin_nil h0]; exact hls'
    · rw [fin_cons h0]
      exact hls'.append (.cons (hww.lower h.m1) (fun b e => (hww.lt b e).2) .nil)
theorem Mv.set3 {J : Jm} {w : World} (hI : Inv J w) {b : Nat} (hJ : J b = []) (i j k : Nat) (u v x : Value) :
    Mv (· = b) J w J (((w.setCell ⟨b, i, none⟩ u).setCell ⟨b, j, none⟩ v).setCell ⟨b, k, none⟩ x) :=
  (((Mv.refl (· = b) hI).setCell (p := ⟨b, i, none⟩) (fun _ => rfl) hJ u).setCell (p := ⟨b, j, none⟩) (fun _ => rfl) hJ v).setCell (p := ⟨b, k, none⟩) (fun _ => rfl) hJ x
/-- the line is begun anew -/
theorem StE.fresh {J J' : Jm} {w wr : World} {g : Nat} {outs : List Ln} {one : Ln} {ov wv : Value} {oc : List Value} (h : StE J w g outs J' wr ov oc one wv) (num : Nat) :
    St J w g outs ⟨num, false, []⟩ J' (((wr.setCell ⟨w.heap.size + 1, 0, none⟩ (.int .i64 (num : Int))).setCell ⟨w.heap.size + 1, 1, none⟩ (.bool false)).setCell ⟨w.heap.size + 1, 2, none⟩ (.slice none 0 0)) ov (.slice none 0 0) oc wr.heap.size := by
  have m := Mv.set3 h.mv.inv h.j1 0 1 2 (.int .i64 (num : Int)) (.bool false) (.slice none 0 0)
  have hs : w.heap.size + 1 + 1 ≤ wr.heap.size := (Array.getElem?_eq_some_iff.1 h.b1).1
  exact {
    mv := h.mv.trans m fun b hb e => by omega
    b1 := blk_set_J (blk_set_J (blk_set_J h.b1 0 _) 1 _) 2 _
    b2 := m.blk h.b2 (by omega)
    j1 := h.j1
    j2 := h.j2
    ow := m.ownBase h.ow (by intro b h1 _; omega)
    ls := h.ls.mv m (by intro b h1 _; omega)
    ww := Own.nil _ _ _ _ _
    m1 := hs
    m2 := by simp }
/-- a word more -/
theorem St.add {J J' J2 : Jm} {w wr w2 : World} {g M : Nat} {outs : List Ln} {one : Ln} {ov wv v2 : Value} {oc : List Value} (h : St J w g outs one J' wr ov wv oc M) (x : Wd) (lit : Obj)
    (hg : Grew J' (wr.alloc lit) wv J2 w2 v2) (ho : Own J2 w2 M 35 5 v2 (one.ws.length + 1) (wsC one.ws ++ wcs x)) :
    LnBox w2 (w.heap.size + 1) one.num one.ind wv ∧ Mw (fun b => some b = wv.ownBlock) J' wr J2 w2 ∧
    St J w g outs (one.add x) J2 (w2.setCell ⟨w.heap.size + 1, 2, none⟩ v2) ov v2 oc M := by
  have m : Mw (fun b => some b = wv.ownBlock) J' wr J2 w2 := (((Ext.refl h.mv.inv).alloc lit).mw h.mv.inv _).then hg.mw
  have hM := h.m1
  have hob : ∀ b, b < M → ¬ some b = wv.ownBlock := fun b hb e => by have := (h.ww.lt b e.symm).1; omega
  have b1 := m.blk h.b1 (hob _ (by omega))
  have j1 := m.nilAt (Array.getElem?_eq_some_iff.1 h.b1).1 (hob _ (by omega)) h.j1
  have m2 := (Mv.refl (· = w.heap.size + 1) m.inv).setCell (p := ⟨w.heap.size + 1, 2, none⟩) (fun _ => rfl) j1 v2
  refine ⟨b1, m, ?_⟩
  exact {
    mv := (h.mv.thenMw m (fun b hb => hob b (by omega))).trans m2 fun b hb e => by omega
    b1 := blk_set_J b1 2 _
    b2 := m2.blk (m.blk h.b2 (hob _ (by omega))) (by omega)
    j1 := j1
    j2 := m.nilAt (Array.getElem?_eq_some_iff.1 h.b2).1 (hob _ (by omega)) h.j2
    ow := m2.ownBase (m.own h.ow fun b e => h.ow.apart h.ww (by decide) b e) (by intro b h1 _; omega)
    ls := (h.ls.mw m fun v n c o hb b e => hob b (hb b e)).mv m2 (by intro b h1 _; omega)
    ww := by
      have e1 : (one.add x).ws.length = one.ws.length + 1 := by simp [Ln.add]
      have e2 : wsC (one.add x).ws = wsC one.ws ++ wcs x := by simp [Ln.add, wsC_append, wsC]
      rw [e1, e2]
      exact m2.ownBase ho (by intro b h1 _; omega)
    m1 := hM
    m2 := Nat.le_trans h.m2 (by simpa using m.size) }
theorem WBox.mv {S : Nat → Prop} {J J' : Jm} {w w' : World} {b : Nat} {x : Wd} (h : WBox w b x) (m : Mv S J w J' w') (hs : ¬ S b) : WBox w' b x := m.blk h hs
theorem WBox.text {w : World} {b : Nat} {x : Wd} (h : WBox w b x) (t : List UInt8) : WBox (w.setCell ⟨b, 0, none⟩ (.string (strB t))) b { x with text := t } := blk_set_J h 0 _
theorem WBox.quoted {w : World} {b : Nat} {x : Wd} (h : WBox w b x) : WBox (w.setCell ⟨b, 3, none⟩ (.bool true)) b { x with quoted := true } := blk_set_J h 3 _
theorem WBox.mark {w : World} {b : Nat} {x : Wd} (h : WBox w b x) : WBox (w.setCell ⟨b, 4, none⟩ (.bool true)) b { x with mark := true } := blk_set_J h 4 _
theorem lx_cons (s : List UInt8) (f : Nat) (t : Tok) (r : List Tok) (outs : List Ln) (one : Ln) (fresh : Bool) : lx s (f + 1) (t :: r) outs one fresh =
    if t.c = 10 then lx s f r (fin outs one) ⟨ln s (t.pos + 1), false, []⟩ true
    else if t.c = 32 then lx s f r outs one false
    else if t.c = 9 ∧ fresh = true then lx s f r outs { one with ind := true } false
    else if t.c = 35 then lx s f (r.dropWhile fun t => t.c ≠ 10) outs one false
    else if t.c = 58 ∨ t.c = 61 then lx s f r outs (one.add ⟨[t.c], ln s t.pos, cl s t.pos, false, true⟩) false
    else if t.c = 34 then
      match qt t.pos r [] with
      | .error x => .error x
      | .ok (txt, r') => lx s f r' outs (one.add ⟨txt, ln s t.pos, cl s t.pos, true, false⟩) false
    else if bareB t.c then
      lx s f (r.dropWhile fun t => bareB t.c) outs (one.add ⟨t.c :: (r.takeWhile fun t => bareB t.c).map Tok.c, ln s t.pos, cl s t.pos, false, false⟩) false
    else .error t.pos := rfl
theorem lx_nil (s : List UInt8) (f : Nat) (outs : List Ln) (one : Ln) (fresh : Bool) : lx s (f + 1) [] outs one fresh = .ok (fin outs one) := rfl
theorem toks_length (s : List UInt8) (k : Nat) : (toks s k).length ≤ s.length := by
  induction hn : s.length using Nat.strongRecOn generalizing s k with
  | _ n ih =>
    subst hn
    by_cases h : s = []
    · subst h; simp [toks]
    · have hp := pk_pos h
      rw [toks_step h, List.length_cons]
      have h1 := ih _ (by rw [List.length_drop]; omega) (s.drop (pk s).2) (k + (pk s).2) rfl
      rw [List.length_drop] at h1
      omega
end Go.Proofs.Ythfjeijhnikabaa
