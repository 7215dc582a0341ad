/- The document's lexer, in plain Lean: line by line; it answers as the one pass does. -/
import Derived.Test.YthfjeijhnikabaaLexSt
import Derived.Test.YthfjeijhnikabaaLexLn
namespace Go.Proofs.Ythfjeijhnikabaa
open Go.RowKit

theorem qt_suffix {frm : Nat} : ∀ {l : List Tok} {acc txt : List UInt8} {rest : List Tok}, qt frm l acc = .ok (txt, rest) → rest <:+ l := by
  intro l
  induction hn : l.length using Nat.strongRecOn generalizing l with
  | _ n ih =>
    subst hn
    intro acc txt rest h
    match l, h with
    | [], h => rw [qt_nil] at h; cases h
    | t :: r, h =>
      rw [qt_cons] at h
      split at h
      · cases h
      · split at h
        · cases h; exact List.suffix_cons _ _
        · split at h
          · match r, h with
            | [], h => cases h
            | d :: r', h =>
              dsimp only at h
              split at h
              · split at h
                · exact ((ih r'.length (by simp; omega) rfl h).trans (List.suffix_cons _ _)).trans (List.suffix_cons _ _)
                · cases h
              · cases h
          · exact (ih r.length (by simp) rfl h).trans (List.suffix_cons _ _)
theorem qt_line {frm : Nat} {nl : Tok} (hc : nl.c = 10) (hn1 : nl.n = 1) (R : List Tok) : ∀ (L : List Tok), (∀ t ∈ L, t.c ≠ 10) → ∀ acc, qt frm (L ++ nl :: R) acc = match qt frm L acc with | .error x => .error x | .ok (t, r) => .ok (t, r ++ nl :: R) := by
  intro L
  induction hn : L.length using Nat.strongRecOn generalizing L with
  | _ n ih =>
    subst hn
    intro hL acc
    match L, hL with
    | [], _ => rw [List.nil_append, qt_cons, if_pos ⟨hn1, hc⟩, qt_nil]
    | t :: r, hL =>
      have ht := hL t (by simp)
      have e : ∀ (r : List Tok) (acc : List UInt8), qt frm (t :: r) acc = if t.n = 1 ∧ t.c = 34 then .ok (acc, r) else if t.n = 1 ∧ t.c = 92 then
          match r with
          | [] => .error t.pos
          | d :: r' => if d.n = 1 then (match esc d.c with | some e => qt frm r' (acc ++ [e]) | none => .error t.pos) else .error t.pos
        else qt frm r (acc ++ [t.c]) := by
        intro r acc
        rw [qt_cons, if_neg (fun e => ht e.2)]
        all_goals (cases r <;> rfl)
      rw [List.cons_append, e, e]
      by_cases h1 : t.n = 1 ∧ t.c = 34
      · simp only [if_pos h1]
      · simp only [if_neg h1]
        by_cases h2 : t.n = 1 ∧ t.c = 92
        · simp only [if_pos h2]
          match r, hL with
          | [], _ =>
            show (if nl.n = 1 then (match esc nl.c with | some e => qt frm R (acc ++ [e]) | none => .error t.pos) else .error t.pos) = _
            rw [if_pos hn1, hc]; rfl
          | d :: r', hL =>
            show (if d.n = 1 then (match esc d.c with | some e => qt frm (r' ++ nl :: R) (acc ++ [e]) | none => .error t.pos) else .error t.pos) = _
            by_cases hd : d.n = 1
            · simp only [if_pos hd]
              cases he : esc d.c with
              | none => rfl
              | some e => exact ih r'.length (by simp; omega) r' rfl (fun x hx => hL x (by simp [hx])) _
            · simp only [if_neg hd]
        · simp only [if_neg h2]
          exact ih r.length (by simp) r rfl (fun x hx => hL x (by simp [hx])) _
theorem dropWhile_len {α : Type} (p : α → Bool) (l : List α) : (l.dropWhile p).length ≤ l.length := by
  induction l with
  | nil => simp
  | cons a r ih => rw [List.dropWhile_cons]; split <;> simp <;> omega
theorem lx_fuel (s : List UInt8) : ∀ (f g : Nat) (T : List Tok) (outs : List Ln) (one : Ln) (fresh : Bool), T.length < f → T.length < g → lx s f T outs one fresh = lx s g T outs one fresh := by
  intro f
  induction f with
  | zero => intro g T outs one fresh h; omega
  | succ f ih =>
    intro g T outs one fresh hf hg
    obtain ⟨g, rfl⟩ : ∃ g', g = g' + 1 := ⟨g - 1, by omega⟩
    match T, hf, hg with
    | [], _, _ => rfl
    | t :: r, hf, hg =>
      rw [List.length_cons] at hf hg
      rw [lx_cons, lx_cons]
      have h1 := dropWhile_len (fun t : Tok => decide (t.c ≠ 10)) r
      have h2 := dropWhile_len (fun t : Tok => bareB t.c) r
      cases hq : qt t.pos r [] with
      | error x =>
        simp only []
        rw [ih g r _ _ _ (by omega) (by omega), ih g r _ _ _ (by omega) (by omega), ih g r _ _ _ (by omega) (by omega), ih g _ _ _ _ (by omega) (by omega : (r.dropWhile _).length < g), ih g r _ _ _ (by omega) (by omega), ih g _ _ _ _ (by omega) (by omega : (r.dropWhile fun t : Tok => bareB t.c).length < g)]
      | ok tr =>
        obtain ⟨txt, r'⟩ := tr
        have h3 := qt_len hq
        simp only []
        rw [ih g r _ _ _ (by omega) (by omega), ih g r _ _ _ (by omega) (by omega), ih g r _ _ _ (by omega) (by omega), ih g _ _ _ _ (by omega) (by omega : (r.dropWhile _).length < g), ih g r _ _ _ (by omega) (by omega), ih g r' _ _ _ (by omega) (by omega), ih g _ _ _ _ (by omega) (by omega : (r.dropWhile fun t : Tok => bareB t.c).length < g)]
/-- one line's tokens -/
def ll (s : List UInt8) : Nat → List Tok → Ln → Except Nat Ln
  | 0, _, one => .ok one
  | _ + 1, [], one => .ok one
  | f + 1, t :: r, one =>
    if t.c = 35 then .ok one
    else if t.c = 32 then ll s f r one
    else if t.c = 58 ∨ t.c = 61 then ll s f r (one.add ⟨[t.c], ln s t.pos, cl s t.pos, false, true⟩)
    else if t.c = 34 then
      match qt t.pos r [] with
      | .error x => .error x
      | .ok (txt, r') => ll s f r' (one.add ⟨txt, ln s t.pos, cl s t.pos, true, false⟩)
    else if bareB t.c then
      ll s f (r.dropWhile fun t => bareB t.c) (one.add ⟨t.c :: (r.takeWhile fun t => bareB t.c).map Tok.c, ln s t.pos, cl s t.pos, false, false⟩)
    else .error t.pos
theorem ll_cons (s : List UInt8) (f : Nat) (t : Tok) (r : List Tok) (one : Ln) : ll s (f + 1) (t :: r) one =
    if t.c = 35 then .ok one
    else if t.c = 32 then ll s f r one
    else if t.c = 58 ∨ t.c = 61 then ll s f r (one.add ⟨[t.c], ln s t.pos, cl s t.pos, false, true⟩)
    else if t.c = 34 then
      match qt t.pos r [] with
      | .error x => .error x
      | .ok (txt, r') => ll s f r' (one.add ⟨txt, ln s t.pos, cl s t.pos, true, false⟩)
    else if bareB t.c then
      ll s f (r.dropWhile fun t => bareB t.c) (one.add ⟨t.c :: (r.takeWhile fun t => bareB t.c).map Tok.c, ln s t.pos, cl s t.pos, false, false⟩)
    else .error t.pos := rfl
/-- what stands behind a line: nothing, or a newline and more -/
def Rest (rest : List Tok) : Prop := rest = [] ∨ ∃ nl R, rest = nl :: R ∧ nl.c = 10 ∧ nl.n = 1
def lxC (s : List UInt8) (T : List Tok) (outs : List Ln) (one : Ln) (fresh : Bool) : Except Nat (List Ln) := lx s (T.length + 1) T outs one fresh
theorem drop_rest {rest : List Tok} (hr : Rest rest) {p : Tok → Bool} (hp : ∀ t : Tok, t.c = 10 → p t = false) (L : List Tok) :
    (L ++ rest).dropWhile p = L.dropWhile p ++ rest ∧ (L ++ rest).takeWhile p = L.takeWhile p := by
  induction L with
  | nil =>
    rcases hr with rfl | ⟨nl, R, rfl, hc, _⟩
    · exact ⟨rfl, rfl⟩
    · rw [List.nil_append, List.dropWhile_cons_of_neg (by simp [hp nl hc]), List.takeWhile_cons_of_neg (by simp [hp nl hc])]
      exact ⟨rfl, rfl⟩
  | cons a L ih =>
    rw [List.cons_append]
    cases h : p a with
    | true => rw [List.dropWhile_cons_of_pos h, List.takeWhile_cons_of_pos h, List.dropWhile_cons_of_pos h, List.takeWhile_cons_of_pos h, ih.1, ih.2]; exact ⟨rfl, rfl⟩
    | false => rw [List.dropWhile_cons_of_neg (by simp [h]), List.takeWhile_cons_of_neg (by simp [h]), List.dropWhile_cons_of_neg (by simp [h]), List.takeWhile_cons_of_neg (by simp [h])]; exact ⟨rfl, rfl⟩
theorem qt_rest {frm : Nat} {rest : List Tok} (hr : Rest rest) (L : List Tok) (hL : ∀ t ∈ L, t.c ≠ 10) (acc : List UInt8) : qt frm (L ++ rest) acc = match qt frm L acc with | .error x => .error x | .ok (t, r) => .ok (t, r ++ rest) := by
  rcases hr with rfl | ⟨nl, R, rfl, hc, hn⟩
  · rw [List.append_nil]
    cases qt frm L acc with
    | error x => rfl
    | ok tr => obtain ⟨t, r⟩ := tr; simp
  · exact qt_line hc hn R L hL acc
theorem drop_all {L : List Tok} (hL : ∀ t ∈ L, t.c ≠ 10) : L.dropWhile (fun t => decide (t.c ≠ 10)) = [] := by
  induction L with
  | nil => rfl
  | cons a L ih => rw [List.dropWhile_cons_of_pos (by simpa using hL a (by simp))]; exact ih fun t ht => hL t (List.mem_cons_of_mem _ ht)
theorem lx_line (s : List UInt8) {rest : List Tok} (hr : Rest rest) : ∀ (g : Nat) (L : List Tok) (outs : List Ln) (one : Ln), (∀ t ∈ L, t.c ≠ 10) → L.length < g →
    lxC s (L ++ rest) outs one false = match ll s g L one with | .error x => .error x | .ok one' => lxC s rest outs one' false := by
  intro g
  induction g with
  | zero => intro L outs one _ h; omega
  | succ g ih =>
    intro L outs one hL hg
    match L, hL, hg with
    | [], _, _ => rfl
    | t :: L', hL, hg =>
      have ht := hL t (by simp)
      have hL' : ∀ x ∈ L', x.c ≠ 10 := fun x hx => hL x (List.mem_cons_of_mem _ hx)
      rw [List.length_cons] at hg
      have hfu : ∀ (T : List Tok) (o : Ln), T.length ≤ (L' ++ rest).length → lx s ((L' ++ rest).length + 1) T outs o false = lxC s T outs o false :=
        fun T o h => lx_fuel s _ _ T outs o false (by omega) (by omega)
      unfold lxC
      rw [List.cons_append, List.length_cons, lx_cons, ll_cons, if_neg ht]
      have hd10 := drop_rest hr (p := fun t => decide (t.c ≠ 10)) (fun t h => by simp [h]) L'
      have hdb := drop_rest hr (p := fun t => bareB t.c) (fun t h => by rw [h]; rfl) L'
      rw [hd10.1, drop_all hL', List.nil_append, hdb.1, hdb.2, qt_rest hr L' hL']
      have hdl := dropWhile_len (fun t : Tok => bareB t.c) L'
      by_cases h35 : t.c = 35
      · rw [if_neg (by rw [h35]; decide), if_neg (by simp), if_pos h35, if_pos h35, hfu _ _ (by simp)]
        rfl
      · rw [if_neg h35, if_neg h35]
        by_cases h32 : t.c = 32
        · rw [if_pos h32, if_pos h32, hfu _ _ (Nat.le_refl _)]
          exact ih L' outs one hL' (by omega)
        · rw [if_neg h32, if_neg h32, if_neg (by simp)]
          by_cases hm : t.c = 58 ∨ t.c = 61
          · rw [if_pos hm, if_pos hm, hfu _ _ (Nat.le_refl _)]
            exact ih L' outs _ hL' (by omega)
          · rw [if_neg hm, if_neg hm]
            by_cases h34 : t.c = 34
            · rw [if_pos h34, if_pos h34]
              cases hq : qt t.pos L' [] with
              | error x => rfl
              | ok tr =>
                obtain ⟨txt, r'⟩ := tr
                have hs := qt_suffix hq
                have hl := qt_len hq
                show lx s _ (r' ++ rest) outs _ false = _
                rw [hfu _ _ (by simp; omega)]
                exact ih r' outs _ (fun x hx => hL' x (hs.mem hx)) (by omega)
            · rw [if_neg h34, if_neg h34]
              by_cases hb : bareB t.c = true
              · rw [if_pos hb, if_pos hb, hfu _ _ (by simp; omega)]
                exact ih _ outs _ (fun x hx => hL' x ((List.dropWhile_suffix _).mem hx)) (by omega)
              · rw [if_neg hb, if_neg hb]
theorem lxC_nl (s : List UInt8) {nl : Tok} (hc : nl.c = 10) (R : List Tok) (outs : List Ln) (one : Ln) (fr : Bool) : lxC s (nl :: R) outs one fr = lxC s R (fin outs one) ⟨ln s (nl.pos + 1), false, []⟩ true := by
  unfold lxC
  rw [List.length_cons, lx_cons, if_pos hc]
theorem lxC_fresh (s : List UInt8) {rest : List Tok} (hr : Rest rest) (outs : List Ln) (one : Ln) : lxC s rest outs one true = lxC s rest outs one false := by
  rcases hr with rfl | ⟨nl, R, rfl, hc, _⟩
  · rfl
  · rw [lxC_nl s hc, lxC_nl s hc]
/-- a line, its first byte looked at -/
def ll1 (s : List UInt8) (g : Nat) (L : List Tok) (one : Ln) : Except Nat Ln :=
  match L with
  | [] => .ok one
  | t :: L' => if t.c = 9 then ll s g L' { one with ind := true } else ll s g (t :: L') one
theorem lx_first (s : List UInt8) {rest : List Tok} (hr : Rest rest) (g : Nat) (L : List Tok) (outs : List Ln) (one : Ln) (hL : ∀ t ∈ L, t.c ≠ 10) (hg : L.length < g) :
    lxC s (L ++ rest) outs one true = match ll1 s g L one with | .error x => .error x | .ok one' => lxC s rest outs one' false := by
  match L, hL, hg with
  | [], _, _ =>
    exact lxC_fresh s hr outs one
  | t :: L', hL, hg =>
    have ht := hL t (by simp)
    unfold ll1
    by_cases h9 : t.c = 9
    · simp only [if_pos h9]
      unfold lxC
      rw [List.cons_append, List.length_cons, lx_cons, if_neg ht, if_neg (by rw [h9]; decide), if_pos ⟨h9, rfl⟩]
      exact lx_line s hr g L' outs _ (fun x hx => hL x (List.mem_cons_of_mem _ hx)) (by simp at hg; omega)
    · simp only [if_neg h9]
      have e : lxC s (t :: L' ++ rest) outs one true = lxC s (t :: L' ++ rest) outs one false := by
        unfold lxC
        rw [List.cons_append, List.length_cons, lx_cons, lx_cons, if_neg ht, if_neg ht]
        by_cases h32 : t.c = 32
        · rw [if_pos h32, if_pos h32]
        · rw [if_neg h32, if_neg h32, if_neg (show ¬ (t.c = 9 ∧ true = true) from fun e => h9 e.1), if_neg (show ¬ (t.c = 9 ∧ false = true) from fun e => h9 e.1)]
      rw [e]
      exact lx_line s hr g (t :: L') outs one hL hg
/-- all lines -/
def rl (s : List UInt8) : Nat → List Tok → List Ln → Except Nat (List Ln)
  | 0, _, outs => .ok outs
  | _ + 1, [], outs => .ok outs
  | f + 1, t :: r, outs =>
    match ll1 s ((t :: r).length + 1) ((t :: r).takeWhile fun t => t.c ≠ 10) ⟨ln s t.pos, false, []⟩ with
    | .error x => .error x
    | .ok one => rl s f (((t :: r).dropWhile fun t => t.c ≠ 10).drop 1) (fin outs one)
theorem toks_split {s : List UInt8} {t : Tok} {R : List Tok} : ∀ (L : List Tok) (k : Nat), toks (s.drop k) k = L ++ t :: R → pk (s.drop t.pos) = (t.c, t.n) ∧ R = toks (s.drop (t.pos + t.n)) (t.pos + t.n)
  | [], k, h => by
    have hne : s.drop k ≠ [] := by intro e; rw [e] at h; simp [toks] at h
    rw [toks_step hne, List.nil_append] at h
    simp only [List.cons.injEq] at h
    obtain ⟨h1, h2⟩ := h
    subst h1
    rw [List.drop_drop] at h2
    exact ⟨rfl, h2.symm⟩
  | a :: L, k, h => by
    have hne : s.drop k ≠ [] := by intro e; rw [e] at h; simp [toks] at h
    rw [toks_step hne, List.cons_append] at h
    simp only [List.cons.injEq] at h
    rw [List.drop_drop] at h
    exact toks_split L _ h.2
theorem takeWhile_all {L : List Tok} : ∀ t ∈ L.takeWhile (fun t => decide (t.c ≠ 10)), t.c ≠ 10 := by
  induction L with
  | nil => intro t h; simp at h
  | cons a L ih =>
    intro t h
    by_cases ha : a.c = 10
    · rw [List.takeWhile_cons_of_neg (by simp [ha])] at h; simp at h
    · rw [List.takeWhile_cons_of_pos (by simpa using ha)] at h
      rcases List.mem_cons.1 h with rfl | h
      · exact ha
      · exact ih t h
theorem dropWhile_head {L R : List Tok} {nl : Tok} (h : L.dropWhile (fun t => decide (t.c ≠ 10)) = nl :: R) : nl.c = 10 := by
  induction L with
  | nil => simp at h
  | cons a L ih =>
    by_cases ha : a.c = 10
    · rw [List.dropWhile_cons_of_neg (by simp [ha])] at h
      simp only [List.cons.injEq] at h
      rw [← h.1]; exact ha
    · rw [List.dropWhile_cons_of_pos (by simpa using ha)] at h
      exact ih h
theorem rl_lx (s : List UInt8) : ∀ (f k : Nat) (outs : List Ln), (toks (s.drop k) k).length < f → lxC s (toks (s.drop k) k) outs ⟨ln s k, false, []⟩ true = rl s f (toks (s.drop k) k) outs := by
  intro f
  induction f with
  | zero => intro k outs h; omega
  | succ f ih =>
    intro k outs hf
    cases hT : toks (s.drop k) k with
    | nil => rfl
    | cons t r =>
      have hne : s.drop k ≠ [] := by intro e; rw [e] at hT; simp [toks] at hT
      have hpos : t.pos = k := by rw [toks_step hne] at hT; simp only [List.cons.injEq] at hT; rw [← hT.1]
      have hsplit := List.takeWhile_append_dropWhile (p := fun t : Tok => decide (t.c ≠ 10)) (l := t :: r)
      have hlen := congrArg List.length hsplit
      rw [List.length_append] at hlen
      rw [hT] at hf
      unfold rl
      rw [hpos]
      cases hrest : (t :: r).dropWhile (fun t => decide (t.c ≠ 10)) with
      | nil =>
        have h1 := lx_first s (rest := []) (.inl rfl) ((t :: r).length + 1) ((t :: r).takeWhile fun t => decide (t.c ≠ 10)) outs ⟨ln s k, false, []⟩ takeWhile_all (by omega)
        rw [← hrest, hsplit] at h1
        rw [h1]
        cases ll1 s ((t :: r).length + 1) ((t :: r).takeWhile fun t => decide (t.c ≠ 10)) ⟨ln s k, false, []⟩ with
        | error x => rfl
        | ok one => rw [hrest]; cases f <;> rfl
      | cons nl R =>
        have hc := dropWhile_head hrest
        have hsp : toks (s.drop k) k = (t :: r).takeWhile (fun t => decide (t.c ≠ 10)) ++ nl :: R := by rw [hT, ← hrest, hsplit]
        obtain ⟨hpk, hR⟩ := toks_split _ _ hsp
        rw [hc] at hpk
        have hn := pk_nl hpk
        have hr : Rest (nl :: R) := .inr ⟨nl, R, rfl, hc, hn⟩
        have h1 := lx_first s hr ((t :: r).length + 1) ((t :: r).takeWhile fun t => decide (t.c ≠ 10)) outs ⟨ln s k, false, []⟩ takeWhile_all (by omega)
        rw [← hrest, hsplit] at h1
        rw [h1]
        cases ll1 s ((t :: r).length + 1) ((t :: r).takeWhile fun t => decide (t.c ≠ 10)) ⟨ln s k, false, []⟩ with
        | error x => rfl
        | ok one =>
          rw [hn] at hR
          have h2 := lxC_nl s hc R outs one false
          show lxC s ((t :: r).dropWhile fun t => decide (t.c ≠ 10)) outs one false = rl s f R (fin outs one)
          rw [hrest, h2]
          have h3 := ih (nl.pos + 1) (fin outs one) (by rw [← hR]; rw [hrest, List.length_cons] at hlen; simp only [List.length_cons] at hlen hf ⊢; omega)
          rw [← hR] at h3
          exact h3
/-- the one pass answers as the document does, line by line -/
theorem lexL_rl (s : List UInt8) : lexL s = rl s (s.length + 1) (toks s 0) [] := by
  have h := rl_lx s (s.length + 1) 0 [] (by rw [List.drop_zero]; exact Nat.lt_succ_of_le (toks_length s 0))
  rw [List.drop_zero] at h
  rw [← h]
  exact lx_fuel s _ _ _ _ _ _ (Nat.lt_succ_of_le (toks_length s 0)) (Nat.lt_succ_self _)
end Go.Proofs.Ythfjeijhnikabaa
