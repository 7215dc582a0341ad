/- Texts written of lines, whatever the blanks: what the lexer says of them, in plain Lean. -/
import Derived.Test.YthfjeijhnikabaaLexPos
import Derived.Test.YthfjeijhnikabaaLexQuo
import Derived.Test.YthfjeijhnikabaaLexLst
namespace Go.Proofs.Ythfjeijhnikabaa
open Go.RowKit
set_option linter.unusedVariables false

abbrev Wq := List UInt8 × Bool × Bool
abbrev Lq := Bool × List Wq
/-- a word's text -/
def wt (x : Wq) : List UInt8 := if x.2.2 = true then x.1 else if x.2.1 = true then quoteL x.1 else showL x.1
/-- a word that a text may hold -/
def gw (x : Wq) : Prop := if x.2.1 = true then x.2.2 = false else (x.2.2 = decide (x.1 = [58] ∨ x.1 = [61])) ∧ (x.2.2 = false → plainB x.1 = true)
theorem qt_app (frm : Nat) (R : List Tok) : ∀ (n : Nat) (L : List Tok) (acc t : List UInt8) (r : List Tok), L.length ≤ n → qt frm L acc = .ok (t, r) → qt frm (L ++ R) acc = .ok (t, r ++ R) := by
  intro n
  induction n using Nat.strongRecOn with
  | _ n ih =>
    intro L acc t r hn h
    match L, hn, h with
    | [], _, h => rw [qt_nil] at h; cases h
    | x :: L, hn, h =>
      rw [List.cons_append, qt_cons]
      rw [qt_cons] at h
      simp only [List.length_cons] at hn
      by_cases h1 : x.n = 1 ∧ x.c = 10
      · rw [if_pos h1] at h; cases h
      rw [if_neg h1] at h ⊢
      by_cases h2 : x.n = 1 ∧ x.c = 34
      · rw [if_pos h2] at h ⊢; cases h; rfl
      rw [if_neg h2] at h ⊢
      by_cases h3 : x.n = 1 ∧ x.c = 92
      · rw [if_pos h3] at h ⊢
        match L, hn, h with
        | [], _, h => cases h
        | d :: L, hn, h =>
          simp only [List.cons_append] at h ⊢
          by_cases h4 : d.n = 1
          · rw [if_pos h4] at h ⊢
            cases he : esc d.c with
            | none => rw [he] at h; cases h
            | some e =>
              rw [he] at h
              exact ih L.length (by simp at hn; omega) L _ _ _ (Nat.le_refl _) h
          · rw [if_neg h4] at h; cases h
      · rw [if_neg h3] at h ⊢
        exact ih L.length (by omega) L _ _ _ (Nat.le_refl _) h
theorem while_app {p : Tok → Bool} {r : List Tok} (hr : ∀ t ∈ r.head?, p t = false) : ∀ {L : List Tok}, (∀ t ∈ L, p t = true) → (L ++ r).dropWhile p = r ∧ (L ++ r).takeWhile p = L
  | [], _ => by
    cases r with
    | nil => exact ⟨rfl, rfl⟩
    | cons x r => have := hr x rfl; simp [this]
  | x :: L, h => by
    obtain ⟨a, b⟩ := while_app hr (L := L) (fun t ht => h t (List.mem_cons_of_mem _ ht))
    have hx := h x List.mem_cons_self
    rw [List.cons_append, List.dropWhile_cons_of_pos hx, List.takeWhile_cons_of_pos hx, a, b]
    exact ⟨rfl, rfl⟩
theorem tk_mem : ∀ (s : List UInt8) (k : Nat), ∀ t ∈ tk s k, t.c ∈ s
  | [], _, t, h => by cases h
  | c :: r, k, t, h => by
    rcases List.mem_cons.1 h with rfl | h
    · exact List.mem_cons_self
    · exact List.mem_cons_of_mem _ (tk_mem r (k + 1) t h)
theorem tk_c : ∀ (s : List UInt8) (k : Nat), (tk s k).map Tok.c = s
  | [], _ => rfl
  | c :: r, k => by simp [tk, tk_c r (k + 1)]
theorem lx_quoted (s : List UInt8) (t : List UInt8) (k : Nat) (r : List Tok) (outs : List Ln) (one : Ln) (fr : Bool) :
    lxC s (toks (quoteL t) k ++ r) outs one fr = lxC s r outs (one.add ⟨t, ln s k, cl s k, true, false⟩) false := by
  have h10 : ∀ c ∈ quoteL t, c ≠ 10 := by
    intro c hc
    simp only [quoteL, List.cons_append, List.mem_cons, List.mem_append, List.mem_flatMap, List.not_mem_nil, or_false] at hc
    rcases hc with rfl | ⟨x, _, hx⟩ | rfl
    · decide
    · exact qb_no10 x c hx
    · decide
  rw [toks_tk _ _ h10]
  show lxC s (⟨34, 1, k⟩ :: (tk (t.flatMap qb ++ [34]) (k + 1) ++ r)) _ _ _ = _
  rw [lxC_step, if_neg (by simp), if_neg (by simp), if_neg (by simp), if_neg (by simp), if_neg (by simp), if_pos rfl]
  rw [qt_app k r _ _ [] t [] (Nat.le_refl _) (by simpa using qt_quote k t [] (k + 1))]
  rfl
theorem lx_word {x : Wq} (h : gw x) (s : List UInt8) (k : Nat) (r : List Tok) (hr : ∀ t ∈ r.head?, bareB t.c = false) (outs : List Ln) (one : Ln) (fr : Bool) :
    ∃ y, wst y = x ∧ lxC s (toks (wt x) k ++ r) outs one fr = lxC s r outs (one.add y) false := by
  obtain ⟨t, q, m⟩ := x
  unfold gw at h
  unfold wt
  simp only at h ⊢
  cases q with
  | true =>
    simp only [if_true] at h
    subst h
    simp only [Bool.false_eq_true, if_false, if_true]
    exact ⟨_, rfl, lx_quoted s t k r outs one fr⟩
  | false =>
    simp only [Bool.false_eq_true, if_false] at h ⊢
    obtain ⟨h1, h2⟩ := h
    cases m with
    | true =>
      have h3 := of_decide_eq_true h1.symm
      simp only [if_true]
      rcases h3 with rfl | rfl
      · refine ⟨⟨[58], ln s k, cl s k, false, true⟩, rfl, ?_⟩
        show lxC s (⟨58, 1, k⟩ :: r) _ _ _ = _
        rw [lxC_step, if_neg (by simp), if_neg (by simp), if_neg (by simp), if_neg (by simp), if_pos (.inl rfl)]
      · refine ⟨⟨[61], ln s k, cl s k, false, true⟩, rfl, ?_⟩
        show lxC s (⟨61, 1, k⟩ :: r) _ _ _ = _
        rw [lxC_step, if_neg (by simp), if_neg (by simp), if_neg (by simp), if_neg (by simp), if_pos (.inr rfl)]
    | false =>
      have hp := h2 rfl
      simp only [Bool.false_eq_true, if_false]
      unfold showL
      rw [if_pos hp]
      simp only [plainB, Bool.and_eq_true, Bool.not_eq_true'] at hp
      obtain ⟨hp, hne⟩ := hp
      match t, hp, hne with
      | c :: u, hp, _ =>
        have h10 : ∀ x ∈ c :: u, x ≠ 10 := fun x hx => (bare_ne (List.all_eq_true.1 hp x hx)).1
        rw [toks_tk _ _ h10]
        obtain ⟨n1, n2, n3, n4, n5, n6, n7⟩ := bare_ne (List.all_eq_true.1 hp c List.mem_cons_self)
        obtain ⟨d1, d2⟩ := while_app (p := fun t : Tok => bareB t.c) hr (L := tk u (k + 1)) (fun t ht => List.all_eq_true.1 hp _ (List.mem_cons_of_mem _ (tk_mem u _ t ht)))
        refine ⟨⟨c :: u, ln s k, cl s k, false, false⟩, rfl, ?_⟩
        show lxC s (⟨c, 1, k⟩ :: (tk u (k + 1) ++ r)) _ _ _ = _
        rw [lxC_step, if_neg n1, if_neg n2, if_neg (fun e => n3 e.1), if_neg n4, if_neg (fun e => e.elim n5 n6), if_neg n7, if_pos (List.all_eq_true.1 hp c List.mem_cons_self), d1, d2, tk_c]
/-- the last byte is no backslash -/
def L92 (l : List UInt8) : Prop := l.getLast? ≠ some 92
theorem L92.app {l m : List UInt8} (h : L92 m) (hm : m ≠ []) : L92 (l ++ m) := by
  unfold L92 at *
  rw [List.getLast?_append]
  obtain ⟨x, hx⟩ : ∃ x, m.getLast? = some x := by
    cases h : m.getLast? with
    | none => exact absurd (List.getLast?_eq_none_iff.1 h) hm
    | some x => exact ⟨x, rfl⟩
  rw [hx] at h ⊢
  simpa using h
theorem quoteL_last (t : List UInt8) : L92 (quoteL t) := by
  have : quoteL t = (34 :: t.flatMap qb) ++ [34] := by simp [quoteL]
  rw [this]
  exact L92.app (by simp [L92]) (by simp)
theorem wt_last {x : Wq} (h : gw x) : L92 (wt x) ∧ wt x ≠ [] := by
  obtain ⟨t, q, m⟩ := x
  unfold gw at h
  unfold wt
  simp only at h ⊢
  cases q with
  | true =>
    simp only [if_true] at h
    subst h
    exact ⟨quoteL_last t, by simp [quoteL]⟩
  | false =>
    simp only [Bool.false_eq_true, if_false] at h ⊢
    obtain ⟨h1, h2⟩ := h
    cases m with
    | true =>
      have h3 := of_decide_eq_true h1.symm
      simp only [if_true]
      rcases h3 with rfl | rfl <;> exact ⟨by simp [L92], by simp⟩
    | false =>
      have hp := h2 rfl
      simp only [Bool.false_eq_true, if_false]
      unfold showL
      rw [if_pos hp]
      simp only [plainB, Bool.and_eq_true, Bool.not_eq_true'] at hp
      refine ⟨fun e => ?_, by intro e; simp [e] at hp⟩
      have := List.all_eq_true.1 hp.1 92 (List.mem_of_getLast? e)
      revert this; decide
/-- ways to part two words -/
structure Blank (b : List UInt8) : Prop where
  ne : b ≠ []
  last : L92 b
  all : ∀ k, ∀ t ∈ toks b k, t.c = 32
theorem Blank.ex {b : List UInt8} (h : Blank b) (k : Nat) : ∃ t L, toks b k = t :: L ∧ t.c = 32 ∧ ∀ t ∈ L, t.c = 32 := by
  have := toks_step h.ne k
  have ha := h.all k
  rw [this] at ha
  exact ⟨_, _, this, ha _ List.mem_cons_self, fun t ht => ha t (List.mem_cons_of_mem _ ht)⟩
theorem lx_spaces (s : List UInt8) (r : List Tok) (outs : List Ln) (one : Ln) : ∀ (L : List Tok) (fr : Bool), (∀ t ∈ L, t.c = 32) → L ≠ [] ∨ fr = false → lxC s (L ++ r) outs one fr = lxC s r outs one false
  | [], fr, _, h => by
    rcases h with h | rfl
    · exact absurd rfl h
    · rfl
  | t :: L, fr, h, _ => by
    have ht := h t List.mem_cons_self
    rw [List.cons_append, lxC_step, if_neg (by simp [ht]), if_pos ht]
    exact lx_spaces s r outs one L false (fun x hx => h x (List.mem_cons_of_mem _ hx)) (.inr rfl)
/-- ways to end a line -/
structure Ender (e : List UInt8) : Prop where
  ne : e ≠ []
  last : L92 e
  head : ∀ k, ∀ t ∈ (toks e k).head?, bareB t.c = false
  ends : ∀ (s : List UInt8) (k : Nat) (r : List Tok) (outs : List Ln) (one : Ln), ∃ n, lxC s (toks e k ++ r) outs one false = lxC s r (fin outs one) ⟨n, false, []⟩ true
/-- the texts of a row of words, of lines -/
inductive Wt : List Wq → List UInt8 → Prop where
  | one {x : Wq} (h : gw x) : Wt [x] (wt x)
  | snoc {ws : List Wq} {t b : List UInt8} {x : Wq} (h : Wt ws t) (hb : Blank b) (hx : gw x) : Wt (ws ++ [x]) (t ++ b ++ wt x)
inductive Txt : List Lq → List UInt8 → Prop where
  | nil : Txt [] []
  | snoc {ls : List Lq} {t u e : List UInt8} {ws : List Wq} (ind : Bool) (h : Txt ls t) (hw : Wt ws u) (he : Ender e) : Txt (ls ++ [(ind, ws)]) (t ++ ((if ind = true then [9] else []) ++ u ++ e))
theorem Wt.last {ws : List Wq} {t : List UInt8} (h : Wt ws t) : L92 t ∧ t ≠ [] := by
  cases h with
  | one h => exact wt_last h
  | snoc h hb hx => exact ⟨(wt_last hx).1.app (wt_last hx).2, by simp [(wt_last hx).2]⟩
theorem Txt.last {ls : List Lq} {t : List UInt8} (h : Txt ls t) : L92 t := by
  cases h with
  | nil => simp [L92]
  | snoc ind h hw he => exact (he.last.app he.ne).app (by simp [he.ne])
theorem Wt.lex {ws : List Wq} {t : List UInt8} (h : Wt ws t) : ∀ (s : List UInt8) (k : Nat) (r : List Tok), (∀ t ∈ r.head?, bareB t.c = false) → ∀ (outs : List Ln) (one : Ln) (fr : Bool),
    ∃ ys : List Wd, ys.map wst = ws ∧ lxC s (toks t k ++ r) outs one fr = lxC s r outs { one with ws := one.ws ++ ys } false := by
  induction h with
  | one h =>
    intro s k r hr outs one fr
    obtain ⟨y, h1, h2⟩ := lx_word h s k r hr outs one fr
    exact ⟨[y], by simp [h1], h2⟩
  | snoc h hb hx ih =>
    rename_i ws t b x
    intro s k r hr outs one fr
    rw [List.append_assoc, toks_app _ _ _ (.inl h.last.1), toks_app _ _ _ (.inl hb.last), List.append_assoc, List.append_assoc]
    obtain ⟨t1, L, e1, e2, e3⟩ := hb.ex (k + t.length)
    obtain ⟨ys, h1, h2⟩ := ih s k (toks b (k + t.length) ++ (toks (wt x) (k + t.length + b.length) ++ r)) (by rw [e1]; intro t ht; simp at ht; subst ht; rw [e2]; decide) outs one fr
    obtain ⟨y, h3, h4⟩ := lx_word hx s (k + t.length + b.length) r hr outs { one with ws := one.ws ++ ys } false
    refine ⟨ys ++ [y], by simp [h1, h3], ?_⟩
    rw [h2, lx_spaces s _ _ _ _ _ (hb.all _) (.inr rfl), h4]
    simp [Ln.add]
theorem Wt.head {ws : List Wq} {t : List UInt8} (h : Wt ws t) : ws ≠ [] := by cases h <;> simp
theorem Txt.lex {ls : List Lq} {t : List UInt8} (h : Txt ls t) : ∀ (s : List UInt8) (k n0 : Nat) (r : List Tok), ∃ R n, R.map lst = ls ∧ lxC s (toks t k ++ r) [] ⟨n0, false, []⟩ true = lxC s r R ⟨n, false, []⟩ true := by
  induction h with
  | nil => intro s k n0 r; exact ⟨[], n0, rfl, rfl⟩
  | snoc ind h hw he ih =>
    rename_i ls t u e ws
    intro s k n0 r
    have hl : L92 ((if ind = true then [9] else []) ++ u) := hw.last.1.app hw.last.2
    rw [toks_app _ _ _ (.inl h.last), toks_app _ _ _ (.inl hl), toks_app _ u _ (.inl (by split <;> simp)), List.append_assoc, List.append_assoc, List.append_assoc]
    obtain ⟨R, n, h1, h2⟩ := ih s k n0 (toks (if ind = true then [9] else []) (k + t.length) ++ (toks u (k + t.length + (if ind = true then [(9 : UInt8)] else []).length) ++ (toks e (k + t.length + ((if ind = true then [9] else []) ++ u).length) ++ r)))
    have hhd : ∀ K, ∀ x ∈ (toks e K ++ r).head?, bareB x.c = false := by
      intro K x hx
      refine he.head K x ?_
      rw [toks_step he.ne] at hx ⊢
      simpa using hx
    cases ind with
    | true =>
      obtain ⟨ys, h3, h4⟩ := hw.lex s (k + t.length + 1) _ (hhd _) R ⟨n, true, []⟩ false
      obtain ⟨m, h5⟩ := he.ends s (k + t.length + ((if true = true then [9] else []) ++ u).length) r R { (⟨n, true, []⟩ : Ln) with ws := [] ++ ys }
      refine ⟨R ++ [⟨n, true, ys⟩], m, ?_, ?_⟩
      · simp [h1, lst, h3]
      · rw [h2]
        show lxC s (⟨9, 1, k + t.length⟩ :: _) _ _ _ = _
        rw [lxC_step, if_neg (by simp), if_neg (by simp), if_pos ⟨rfl, rfl⟩]
        refine Eq.trans h4 (Eq.trans h5 ?_)
        have : ys ≠ [] := by intro e; exact hw.head (by rw [← h3, e]; rfl)
        simp [fin, this]
    | false =>
      obtain ⟨ys, h3, h4⟩ := hw.lex s (k + t.length) _ (hhd _) R ⟨n, false, []⟩ true
      obtain ⟨m, h5⟩ := he.ends s (k + t.length + ((if false = true then [9] else []) ++ u).length) r R { (⟨n, false, []⟩ : Ln) with ws := [] ++ ys }
      refine ⟨R ++ [⟨n, false, ys⟩], m, ?_, ?_⟩
      · simp [h1, lst, h3]
      · rw [h2]
        refine Eq.trans h4 (Eq.trans h5 ?_)
        have : ys ≠ [] := by intro e; exact hw.head (by rw [← h3, e]; rfl)
        simp [fin, this]
theorem Txt.lexed {ls : List Lq} {t : List UInt8} (h : Txt ls t) : ∃ R, lexL t = .ok R ∧ R.map lst = ls := by
  have hlex : lexL t = lxC t (toks t 0) [] ⟨1, false, []⟩ true := lx_fuel t _ _ _ _ _ _ (Nat.lt_succ_of_le (toks_length t 0)) (Nat.lt_succ_self _)
  obtain ⟨R, n, h1, h2⟩ := h.lex t 0 1 []
  rw [List.append_nil] at h2
  refine ⟨R, ?_, h1⟩
  rw [hlex, h2, lxC_nil]
  rfl
theorem blank_sp : Blank [32] := ⟨by simp, by simp [L92], fun k t ht => by simp [toks] at ht; subst ht; rfl⟩
theorem ender_nl : Ender [10] := ⟨by simp, by simp [L92], fun k t ht => by simp [toks] at ht; subst ht; rfl, fun s k r outs one => ⟨_, by show lxC s (⟨10, 1, k⟩ :: r) _ _ _ = _; rw [lxC_step, if_pos rfl]⟩⟩
end Go.Proofs.Ythfjeijhnikabaa
