/- Two texts, one behind the other: what the lexer says of both, in plain Lean. -/
import Derived.Test.YthfjeijhnikabaaLexRefP
namespace Go.Proofs.Ythfjeijhnikabaa
open Go.RowKit

theorem toks_two (c d : UInt8) (r : List UInt8) (k : Nat) : toks (c :: d :: r) k = if c = 92 ∧ d = 10 then ⟨32, 2, k⟩ :: toks r (k + 2) else ⟨c, 1, k⟩ :: toks (d :: r) (k + 1) := by rw [toks]
theorem toks_app : ∀ (a b : List UInt8) (k : Nat), (a.getLast? ≠ some 92 ∨ b.head? ≠ some 10) → toks (a ++ b) k = toks a k ++ toks b (k + a.length) := by
  intro a
  induction hn : a.length using Nat.strongRecOn generalizing a with
  | _ n ih =>
    subst hn
    intro b k h
    match a, h with
    | [], _ => simp [toks_nil]
    | [c], h =>
      match b, h with
      | [], _ => simp [toks_nil]
      | d :: r, h =>
        have hc : ¬ (c = 92 ∧ d = 10) := by rintro ⟨rfl, rfl⟩; simp at h
        show toks (c :: d :: r) k = _
        rw [toks_two, if_neg hc]
        rfl
    | c :: d :: r, h =>
      show toks (c :: d :: (r ++ b)) k = _
      rw [toks_two, toks_two]
      by_cases hc : c = 92 ∧ d = 10
      · rw [if_pos hc, if_pos hc, List.cons_append]
        congr 1
        have := ih r.length (by simp; omega) r rfl b (k + 2) (by
          rcases h with h | h
          · left
            match r, h with
            | [], _ => simp
            | x :: r, h => simpa using h
          · exact .inr h)
        rw [this, show k + 2 + r.length = k + (c :: d :: r).length by simp; omega]
      · rw [if_neg hc, if_neg hc, List.cons_append]
        congr 1
        have := ih (d :: r).length (by simp) (d :: r) rfl b (k + 1) (by
          rcases h with h | h
          · left; simpa using h
          · exact .inr h)
        rw [show d :: (r ++ b) = (d :: r) ++ b from rfl, this, show k + 1 + (d :: r).length = k + (c :: d :: r).length by simp; omega]
def Tok.sh (d : Nat) (t : Tok) : Tok := ⟨t.c, t.n, t.pos + d⟩
theorem toks_sh (d : Nat) : ∀ (a : List UInt8) (k : Nat), toks a (k + d) = (toks a k).map (Tok.sh d) := by
  intro a
  induction hn : a.length using Nat.strongRecOn generalizing a with
  | _ n ih =>
    subst hn
    intro k
    match a with
    | [] => rfl
    | [c] => rfl
    | c :: e :: r =>
      rw [toks_two, toks_two]
      by_cases hc : c = 92 ∧ e = 10
      · rw [if_pos hc, if_pos hc, List.map_cons, ← ih r.length (by simp; omega) r rfl (k + 2), show k + 2 + d = k + d + 2 by omega]; rfl
      · rw [if_neg hc, if_neg hc, List.map_cons, ← ih (e :: r).length (by simp) (e :: r) rfl (k + 1), show k + 1 + d = k + d + 1 by omega]; rfl
/-- where a text's tokens stand -/
theorem toks_in : ∀ (a : List UInt8) (k : Nat), ∀ t ∈ toks a k, k ≤ t.pos ∧ t.pos + t.n ≤ k + a.length ∧ 1 ≤ t.n ∧ (t.c = 10 → t.n = 1) ∧ (t.n = 1 ∨ (t.n = 2 ∧ t.c = 32)) := by
  intro a
  induction hn : a.length using Nat.strongRecOn generalizing a with
  | _ n ih =>
    subst hn
    intro k t ht
    match a, ht with
    | [], ht => simp [toks] at ht
    | [c], ht => simp [toks] at ht; subst ht; simp
    | c :: e :: r, ht =>
      rw [toks] at ht
      by_cases hc : c = 92 ∧ e = 10
      · rw [if_pos hc] at ht
        rcases List.mem_cons.1 ht with rfl | ht
        · simp
        · have := ih r.length (by simp; omega) r rfl (k + 2) t ht
          simp only [List.length_cons]
          refine ⟨by omega, by omega, this.2.2⟩
      · rw [if_neg hc] at ht
        rcases List.mem_cons.1 ht with rfl | ht
        · simp
        · have := ih (e :: r).length (by simp) (e :: r) rfl (k + 1) t ht
          simp only [List.length_cons] at this ⊢
          refine ⟨by omega, by omega, this.2.2⟩
theorem qt_split {frm : Nat} {nl : Tok} (hc : nl.c = 10) (hn1 : nl.n = 1) (R : List Tok) : ∀ (L : List Tok) (acc : List UInt8), qt frm (L ++ nl :: R) acc = match qt frm L acc with | .error x => .error x | .ok (t, r) => .ok (t, r ++ nl :: R) := by
  intro L
  induction hn : L.length using Nat.strongRecOn generalizing L with
  | _ n ih =>
    subst hn
    intro acc
    match L with
    | [] => rw [List.nil_append, qt_cons, if_pos ⟨hn1, hc⟩, qt_nil]
    | t :: r =>
      have e : ∀ (r : List Tok) (acc : List UInt8), qt frm (t :: r) acc = if t.n = 1 ∧ t.c = 10 then .error frm else if t.n = 1 ∧ t.c = 34 then .ok (acc, r) else if t.n = 1 ∧ t.c = 92 then
          match r with
          | [] => .error t.pos
          | d :: r' => if d.n = 1 then (match esc d.c with | some e => qt frm r' (acc ++ [e]) | none => .error t.pos) else .error t.pos
        else qt frm r (acc ++ [t.c]) := by
        intro r acc
        rw [qt_cons]
        all_goals (cases r <;> rfl)
      rw [List.cons_append, e, e]
      by_cases h0 : t.n = 1 ∧ t.c = 10
      · simp only [if_pos h0]
      simp only [if_neg h0]
      by_cases h1 : t.n = 1 ∧ t.c = 34
      · simp only [if_pos h1]
      · simp only [if_neg h1]
        by_cases h2 : t.n = 1 ∧ t.c = 92
        · simp only [if_pos h2]
          match r with
          | [] =>
            show (if nl.n = 1 then (match esc nl.c with | some e => qt frm R (acc ++ [e]) | none => .error t.pos) else .error t.pos) = _
            rw [if_pos hn1, hc]; rfl
          | d :: r' =>
            show (if d.n = 1 then (match esc d.c with | some e => qt frm (r' ++ nl :: R) (acc ++ [e]) | none => .error t.pos) else .error t.pos) = _
            by_cases hd : d.n = 1
            · simp only [if_pos hd]
              cases he : esc d.c with
              | none => rfl
              | some e => exact ih r'.length (by simp; omega) r' rfl _
            · simp only [if_neg hd]
        · simp only [if_neg h2]
          exact ih r.length (by simp) r rfl _
theorem lxC_step (s : List UInt8) (t : Tok) (r : List Tok) (outs : List Ln) (one : Ln) (fresh : Bool) : lxC s (t :: r) outs one fresh =
    if t.c = 10 then lxC s r (fin outs one) ⟨ln s (t.pos + 1), false, []⟩ true
    else if t.c = 32 then lxC s r outs one false
    else if t.c = 9 ∧ fresh = true then lxC s r outs { one with ind := true } false
    else if t.c = 35 then lxC s (r.dropWhile fun t => t.c ≠ 10) outs one false
    else if t.c = 58 ∨ t.c = 61 then lxC s r outs (one.add ⟨[t.c], ln s t.pos, cl s t.pos, false, true⟩) false
    else if t.c = 34 then
      match qt t.pos r [] with
      | .error x => .error x
      | .ok (txt, r') => lxC s r' outs (one.add ⟨txt, ln s t.pos, cl s t.pos, true, false⟩) false
    else if bareB t.c then
      lxC s (r.dropWhile fun t => bareB t.c) outs (one.add ⟨t.c :: (r.takeWhile fun t => bareB t.c).map Tok.c, ln s t.pos, cl s t.pos, false, false⟩) false
    else .error t.pos := by
  have hfu : ∀ (T : List Tok) (os : List Ln) (o : Ln) (fr : Bool), T.length ≤ r.length → lx s (r.length + 1) T os o fr = lxC s T os o fr :=
    fun T os o fr h => lx_fuel s _ _ T os o fr (by omega) (by omega)
  have h1 := dropWhile_len (fun t : Tok => decide (t.c ≠ 10)) r
  have h2 := dropWhile_len (fun t : Tok => bareB t.c) r
  show lx s (r.length + 1 + 1) (t :: r) outs one fresh = _
  rw [lx_cons, hfu _ _ _ _ (Nat.le_refl _), hfu _ _ _ _ (Nat.le_refl _), hfu _ _ _ _ (Nat.le_refl _), hfu _ _ _ _ h1, hfu _ _ _ _ (Nat.le_refl _), hfu _ _ _ _ h2]
  cases hq : qt t.pos r [] with
  | error x => rfl
  | ok tr =>
    obtain ⟨txt, r'⟩ := tr
    simp only []
    rw [hfu _ _ _ _ (qt_len hq)]
theorem lxC_nil (s : List UInt8) (outs : List Ln) (one : Ln) (fresh : Bool) : lxC s [] outs one fresh = .ok (fin outs one) := rfl
/-- a text, a newline, a text: the second one is read behind the first one's lines -/
theorem lx_split (s : List UInt8) {nl : Tok} (hc : nl.c = 10) (hn1 : nl.n = 1) (R : List Tok) : ∀ (A : List Tok) (outs : List Ln) (one : Ln) (fresh : Bool),
    lxC s (A ++ nl :: R) outs one fresh = match lxC s A outs one fresh with | .error x => .error x | .ok o => lxC s R o ⟨ln s (nl.pos + 1), false, []⟩ true := by
  have hr : Rest (nl :: R) := .inr ⟨nl, R, rfl, hc, hn1⟩
  intro A
  induction hn : A.length using Nat.strongRecOn generalizing A with
  | _ n ih =>
    subst hn
    intro outs one fresh
    match A with
    | [] => rw [List.nil_append, lxC_nl s hc, lxC_nil]
    | t :: A =>
      have hd10 := drop_rest hr (p := fun t => decide (t.c ≠ 10)) (fun t h => by simp [h]) A
      have hdb := drop_rest hr (p := fun t => bareB t.c) (fun t h => by rw [h]; rfl) A
      have IH : ∀ (B : List Tok) (os : List Ln) (o : Ln) (fr : Bool), B.length ≤ A.length → lxC s (B ++ nl :: R) os o fr = match lxC s B os o fr with | .error x => .error x | .ok o => lxC s R o ⟨ln s (nl.pos + 1), false, []⟩ true :=
        fun B os o fr h => ih B.length (by simp; omega) B rfl os o fr
      have h1 := dropWhile_len (fun t : Tok => decide (t.c ≠ 10)) A
      have h2 := dropWhile_len (fun t : Tok => bareB t.c) A
      rw [List.cons_append, lxC_step, lxC_step, hd10.1, hdb.1, hdb.2, qt_split hc hn1 R A []]
      split
      · exact IH _ _ _ _ (Nat.le_refl _)
      split
      · exact IH _ _ _ _ (Nat.le_refl _)
      split
      · exact IH _ _ _ _ (Nat.le_refl _)
      split
      · exact IH _ _ _ _ h1
      split
      · exact IH _ _ _ _ (Nat.le_refl _)
      split
      · cases hq : qt t.pos A [] with
        | error x => rfl
        | ok tr => obtain ⟨txt, r'⟩ := tr; exact IH _ _ _ _ (qt_len hq)
      split
      · exact IH _ _ _ _ h2
      · rfl
/-- texts that agree on the places of the tokens -/
theorem lx_agree (s s' : List UInt8) : ∀ (T : List Tok), (∀ t ∈ T, ln s t.pos = ln s' t.pos ∧ cl s t.pos = cl s' t.pos ∧ (t.c = 10 → ln s (t.pos + 1) = ln s' (t.pos + 1))) → ∀ (outs : List Ln) (one : Ln) (fresh : Bool), lxC s T outs one fresh = lxC s' T outs one fresh := by
  intro T
  induction hn : T.length using Nat.strongRecOn generalizing T with
  | _ n ih =>
    subst hn
    intro h outs one fresh
    match T, h with
    | [], _ => rfl
    | t :: A, h =>
      have IH : ∀ (B : List Tok), B <:+ A → ∀ (os : List Ln) (o : Ln) (fr : Bool), lxC s B os o fr = lxC s' B os o fr :=
        fun B hB os o fr => ih B.length (by have := hB.length_le; simp; omega) B rfl (fun x hx => h x (List.mem_cons_of_mem _ (hB.mem hx))) os o fr
      obtain ⟨e1, e2, e3⟩ := h t (by simp)
      rw [lxC_step, lxC_step, e1, e2]
      split
      · rename_i hc; rw [e3 hc]; exact IH _ (List.suffix_refl _) _ _ _
      split
      · exact IH _ (List.suffix_refl _) _ _ _
      split
      · exact IH _ (List.suffix_refl _) _ _ _
      split
      · exact IH _ (List.dropWhile_suffix _) _ _ _
      split
      · exact IH _ (List.suffix_refl _) _ _ _
      split
      · cases hq : qt t.pos A [] with
        | error x => rfl
        | ok tr => obtain ⟨txt, r'⟩ := tr; exact IH _ (qt_suffix hq) _ _ _
      split
      · exact IH _ (List.dropWhile_suffix _) _ _ _
      · rfl
def Wd.sh (m : Nat) (x : Wd) : Wd := { x with line := x.line + m }
def Ln.sh (m : Nat) (l : Ln) : Ln := ⟨l.num + m, l.ind, l.ws.map (Wd.sh m)⟩
theorem qt_sh (frm d : Nat) : ∀ (T : List Tok) (acc : List UInt8), qt (frm + d) (T.map (Tok.sh d)) acc = match qt frm T acc with | .error x => .error (x + d) | .ok (t, r) => .ok (t, r.map (Tok.sh d)) := by
  intro T
  induction hn : T.length using Nat.strongRecOn generalizing T with
  | _ n ih =>
    subst hn
    intro acc
    match T with
    | [] => rw [List.map_nil, qt_nil, qt_nil]
    | t :: r =>
      have e : ∀ (frm : Nat) (t : Tok) (r : List Tok) (acc : List UInt8), qt frm (t :: r) acc = if t.n = 1 ∧ t.c = 10 then .error frm else if t.n = 1 ∧ t.c = 34 then .ok (acc, r) else if t.n = 1 ∧ t.c = 92 then
          match r with
          | [] => .error t.pos
          | d :: r' => if d.n = 1 then (match esc d.c with | some e => qt frm r' (acc ++ [e]) | none => .error t.pos) else .error t.pos
        else qt frm r (acc ++ [t.c]) := by
        intro frm t r acc
        rw [qt_cons]
        all_goals (cases r <;> rfl)
      rw [List.map_cons, e, e]
      show (if t.n = 1 ∧ t.c = 10 then .error (frm + d) else if t.n = 1 ∧ t.c = 34 then .ok (acc, r.map (Tok.sh d)) else if t.n = 1 ∧ t.c = 92 then _ else qt (frm + d) (r.map (Tok.sh d)) (acc ++ [t.c])) = _
      by_cases h0 : t.n = 1 ∧ t.c = 10
      · simp only [if_pos h0]
      simp only [if_neg h0]
      by_cases h1 : t.n = 1 ∧ t.c = 34
      · simp only [if_pos h1]
      · simp only [if_neg h1]
        by_cases h2 : t.n = 1 ∧ t.c = 92
        · simp only [if_pos h2]
          match r with
          | [] => rfl
          | x :: r' =>
            show (if x.n = 1 then (match esc x.c with | some e => qt (frm + d) (r'.map (Tok.sh d)) (acc ++ [e]) | none => .error (t.pos + d)) else .error (t.pos + d)) = _
            by_cases hd : x.n = 1
            · simp only [if_pos hd]
              cases he : esc x.c with
              | none => rfl
              | some e => exact ih r'.length (by simp; omega) r' rfl _
            · simp only [if_neg hd]
        · simp only [if_neg h2]
          exact ih r.length (by simp) r rfl _
theorem fin_sh (m : Nat) (pre outs : List Ln) (one : Ln) : fin (pre ++ outs.map (Ln.sh m)) (one.sh m) = pre ++ (fin outs one).map (Ln.sh m) := by
  unfold fin
  by_cases h : one.ws = []
  · rw [if_pos h, if_pos (by simp [Ln.sh, h])]
  · rw [if_neg h, if_neg (by simp [Ln.sh, h]), List.map_append, List.append_assoc]; rfl
theorem drop_map_sh (d : Nat) {p : Tok → Bool} (hp : ∀ t : Tok, p (t.sh d) = p t) (L : List Tok) : (L.map (Tok.sh d)).dropWhile p = (L.dropWhile p).map (Tok.sh d) ∧ ((L.map (Tok.sh d)).takeWhile p).map Tok.c = (L.takeWhile p).map Tok.c := by
  induction L with
  | nil => exact ⟨rfl, rfl⟩
  | cons a L ih =>
    rw [List.map_cons]
    cases h : p a with
    | true =>
      have h' : p (a.sh d) = true := by rw [hp]; exact h
      rw [List.dropWhile_cons_of_pos h', List.dropWhile_cons_of_pos h, List.takeWhile_cons_of_pos h', List.takeWhile_cons_of_pos h, ih.1, List.map_cons, List.map_cons, ih.2]
      exact ⟨rfl, rfl⟩
    | false =>
      have h' : ¬ p (a.sh d) = true := by rw [hp, h]; simp
      rw [List.dropWhile_cons_of_neg h', List.dropWhile_cons_of_neg (by simp [h]), List.takeWhile_cons_of_neg h', List.takeWhile_cons_of_neg (by simp [h])]
      exact ⟨rfl, rfl⟩
/-- a text read further on -/
theorem lx_sh (s b : List UInt8) (d m : Nat) : ∀ (T : List Tok), (∀ t ∈ T, ln s (t.pos + d) = ln b t.pos + m ∧ cl s (t.pos + d) = cl b t.pos ∧ (t.c = 10 → ln s (t.pos + d + 1) = ln b (t.pos + 1) + m)) →
    ∀ (pre outs : List Ln) (one : Ln) (fresh : Bool), lxC s (T.map (Tok.sh d)) (pre ++ outs.map (Ln.sh m)) (one.sh m) fresh = match lxC b T outs one fresh with | .error x => .error (x + d) | .ok o => .ok (pre ++ o.map (Ln.sh m)) := by
  intro T
  induction hn : T.length using Nat.strongRecOn generalizing T with
  | _ n ih =>
    subst hn
    intro h pre outs one fresh
    match T, h with
    | [], _ => rw [List.map_nil, lxC_nil, lxC_nil, fin_sh]
    | t :: A, h =>
      have IH : ∀ (B : List Tok), B <:+ A → ∀ (os : List Ln) (o : Ln) (fr : Bool), lxC s (B.map (Tok.sh d)) (pre ++ os.map (Ln.sh m)) (o.sh m) fr = match lxC b B os o fr with | .error x => .error (x + d) | .ok o => .ok (pre ++ o.map (Ln.sh m)) :=
        fun B hB os o fr => ih B.length (by have := hB.length_le; simp; omega) B rfl (fun x hx => h x (List.mem_cons_of_mem _ (hB.mem hx))) pre os o fr
      obtain ⟨e1, e2, e3⟩ := h t (by simp)
      have hadd : ∀ x : Wd, (one.add x).sh m = (one.sh m).add (x.sh m) := fun x => by simp [Ln.add, Ln.sh]
      have hw : ∀ (tx : List UInt8) (l c : Nat) (q k : Bool), (⟨tx, l + m, c, q, k⟩ : Wd) = Wd.sh m ⟨tx, l, c, q, k⟩ := fun _ _ _ _ _ => rfl
      have hd10 := drop_map_sh d (p := fun t => decide (t.c ≠ 10)) (fun t => rfl) A
      have hdb := drop_map_sh d (p := fun t => bareB t.c) (fun t => rfl) A
      rw [List.map_cons, lxC_step, lxC_step, hd10.1, hdb.1, hdb.2]
      show (if t.c = 10 then lxC s _ _ ⟨ln s (t.pos + d + 1), false, []⟩ true else if t.c = 32 then _ else if t.c = 9 ∧ fresh = true then _ else if t.c = 35 then _ else if t.c = 58 ∨ t.c = 61 then lxC s _ _ ((one.sh m).add ⟨[t.c], ln s (t.pos + d), cl s (t.pos + d), false, true⟩) false
        else if t.c = 34 then (match qt (t.pos + d) (A.map (Tok.sh d)) [] with | .error x => .error x | .ok (txt, r') => lxC s r' _ ((one.sh m).add ⟨txt, ln s (t.pos + d), cl s (t.pos + d), true, false⟩) false)
        else if bareB t.c then lxC s _ _ ((one.sh m).add ⟨t.c :: _, ln s (t.pos + d), cl s (t.pos + d), false, false⟩) false else .error (t.pos + d)) = _
      rw [e1, e2, hw, ← hadd, hw, ← hadd, qt_sh]
      split
      · rename_i hc
        rw [e3 hc, fin_sh]
        exact IH _ (List.suffix_refl _) (fin outs one) ⟨ln b (t.pos + 1), false, []⟩ true
      split
      · exact IH _ (List.suffix_refl _) _ _ _
      split
      · exact IH _ (List.suffix_refl _) _ { one with ind := true } _
      split
      · exact IH _ (List.dropWhile_suffix _) _ _ _
      split
      · exact IH _ (List.suffix_refl _) _ _ _
      split
      · cases hq : qt t.pos A [] with
        | error x => rfl
        | ok tr =>
          obtain ⟨txt, r'⟩ := tr
          simp only []
          rw [hw, ← hadd]
          exact IH _ (qt_suffix hq) _ _ _
      split
      · exact IH _ (List.dropWhile_suffix _) _ _ _
      · rfl
theorem lc_fold (l : List UInt8) (x y m : Nat) : l.foldl lcStep (x + m, y) = ((l.foldl lcStep (x, y)).1 + m, (l.foldl lcStep (x, y)).2) := by
  induction l generalizing x y with
  | nil => rfl
  | cons c l ih =>
    rw [List.foldl_cons, List.foldl_cons]
    unfold lcStep
    split
    · rw [show x + m + 1 = (x + 1) + m by omega]; exact ih _ _
    · exact ih _ _
theorem lc_app (a l : List UInt8) : lc (a ++ 10 :: l) = ((lc l).1 + (lc a).1, (lc l).2) := by
  unfold lc
  rw [List.foldl_append, List.foldl_cons]
  show List.foldl lcStep (lcStep (lc a) 10) l = _
  have : lcStep (lc a) 10 = (1 + (lc a).1, 0) := by unfold lcStep; simp; omega
  rw [this, lc_fold]
  rfl
theorem ln_ahead (a b : List UInt8) {p : Nat} (h : p ≤ a.length) : ln (a ++ b) p = ln a p ∧ cl (a ++ b) p = cl a p := by
  unfold ln cl
  rw [List.take_append_of_le_length h]
  exact ⟨rfl, rfl⟩
theorem ln_behind (a b : List UInt8) (p : Nat) : ln (a ++ 10 :: b) (p + (a.length + 1)) = ln b p + (lc a).1 ∧ cl (a ++ 10 :: b) (p + (a.length + 1)) = cl b p := by
  have : (a ++ 10 :: b).take (p + (a.length + 1)) = a ++ 10 :: b.take p := by
    rw [show p + (a.length + 1) = a.length + (p + 1) by omega, List.take_length_add_append, List.take_succ_cons]
  unfold ln cl
  rw [this, lc_app]
  exact ⟨rfl, rfl⟩
/-- the lines of two texts, one behind the other -/
theorem lexL_two (a b : List UInt8) (h : a.getLast? ≠ some 92) : lexL (a ++ 10 :: b) = match lexL a with
    | .error x => .error x
    | .ok la => match lexL b with
      | .error y => .error (y + (a.length + 1))
      | .ok lb => .ok (la ++ lb.map (Ln.sh (lc a).1)) := by
  have hlex : ∀ s : List UInt8, lexL s = lxC s (toks s 0) [] ⟨1, false, []⟩ true := fun s => lx_fuel s _ _ _ _ _ _ (Nat.lt_succ_of_le (toks_length s 0)) (Nat.lt_succ_self _)
  have ht : toks (a ++ 10 :: b) 0 = toks a 0 ++ ⟨10, 1, a.length⟩ :: (toks b 0).map (Tok.sh (a.length + 1)) := by
    rw [toks_app a (10 :: b) 0 (.inl h), ← toks_sh]
    congr 1
    match b with
    | [] => simp [toks]
    | x :: r => rw [toks, if_neg (by simp)]; simp
  rw [hlex (a ++ 10 :: b), ht, lx_split _ rfl rfl, lx_agree (a ++ 10 :: b) a (toks a 0), ← hlex a]
  · cases lexL a with
    | error x => rfl
    | ok la =>
      simp only []
      have h1 := ln_behind a b 0
      rw [Nat.zero_add] at h1
      have h2 := lx_sh (a ++ 10 :: b) b (a.length + 1) (lc a).1 (toks b 0) (fun t _ => ⟨(ln_behind a b t.pos).1, (ln_behind a b t.pos).2, fun _ => by rw [show t.pos + (a.length + 1) + 1 = (t.pos + 1) + (a.length + 1) by omega]; exact (ln_behind a b _).1⟩) la [] ⟨ln b 0, false, []⟩ true
      rw [List.map_nil, List.append_nil] at h2
      rw [h1.1]
      refine Eq.trans h2 ?_
      rw [hlex b]
      rfl
  · intro t htm
    obtain ⟨_, h2, h3, _⟩ := toks_in a 0 t htm
    have e1 := ln_ahead a (10 :: b) (p := t.pos) (by omega)
    have e2 := ln_ahead a (10 :: b) (p := t.pos + 1) (by omega)
    exact ⟨e1.1, e1.2, fun _ => e2.1⟩
end Go.Proofs.Ythfjeijhnikabaa
