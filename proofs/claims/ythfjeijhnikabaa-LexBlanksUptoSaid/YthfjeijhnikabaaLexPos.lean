/- Where the words of a text stand, in plain Lean. -/
import Derived.Test.YthfjeijhnikabaaLexTw
import Derived.Test.YthfjeijhnikabaaLexQuo
namespace Go.Proofs.Ythfjeijhnikabaa
open Go.RowKit
set_option linter.unusedVariables false

/-- a word stands at a place -/
def At (s : List UInt8) (p : Nat) (x : Wd) : Prop := x.line = ln s p ∧ x.col = cl s p ∧ p < s.length ∧
  if x.quoted = true then s[p]? = some 34 ∧ x.mark = false else x.text ≠ [] ∧ x.text <+: s.drop p ∧ (x.mark = decide (x.text = [58] ∨ x.text = [61])) ∧ (x.mark = false → plainB x.text = true)
/-- words at rising places -/
def Run (s : List UInt8) (lo : Nat) : List Wd → Nat → Prop
  | [], hi => lo ≤ hi
  | x :: r, hi => ∃ p, lo ≤ p ∧ At s p x ∧ Run s (p + 1) r hi
theorem Run.le {s : List UInt8} : ∀ {ws : List Wd} {lo hi : Nat}, Run s lo ws hi → lo + ws.length ≤ hi
  | [], _, _, h => h
  | x :: r, lo, hi, ⟨p, h1, _, h3⟩ => by have := Run.le h3; simp only [List.length_cons]; omega
theorem Run.hi {s : List UInt8} : ∀ {ws : List Wd} {lo hi hi' : Nat}, Run s lo ws hi → hi ≤ hi' → Run s lo ws hi'
  | [], _, _, _, h, h' => Nat.le_trans h h'
  | x :: r, lo, hi, hi', ⟨p, h1, h2, h3⟩, h' => ⟨p, h1, h2, Run.hi h3 h'⟩
theorem Run.lo {s : List UInt8} : ∀ {ws : List Wd} {lo lo' hi : Nat}, Run s lo ws hi → lo' ≤ lo → Run s lo' ws hi
  | [], _, _, _, h, h' => Nat.le_trans h' h
  | x :: r, lo, lo', hi, ⟨p, h1, h2, h3⟩, h' => ⟨p, Nat.le_trans h' h1, h2, h3⟩
theorem Run.snoc {s : List UInt8} : ∀ {ws : List Wd} {lo q hi : Nat} {x : Wd}, Run s lo ws q → At s q x → q + 1 ≤ hi → Run s lo (ws ++ [x]) hi
  | [], lo, q, hi, x, h, hx, h' => ⟨q, h, hx, h'⟩
  | y :: r, lo, q, hi, x, ⟨p, h1, h2, h3⟩, hx, h' => ⟨p, h1, h2, Run.snoc h3 hx h'⟩
/-- a line begins at a place -/
def LineAt (s : List UInt8) (k : Nat) (l : Ln) : Prop := l.num = ln s k ∧ cl s k = 0 ∧ l.ind = decide (s[k]? = some 9)
def RunL (s : List UInt8) (lo : Nat) : List Ln → Nat → Prop
  | [], hi => lo ≤ hi
  | l :: r, hi => ∃ k mid, lo ≤ k ∧ l.ws ≠ [] ∧ LineAt s k l ∧ Run s k l.ws mid ∧ RunL s mid r hi
theorem RunL.le {s : List UInt8} : ∀ {ls : List Ln} {lo hi : Nat}, RunL s lo ls hi → lo + ls.length ≤ hi ∧ ∀ l ∈ ls, l.ws.length ≤ hi
  | [], _, _, h => ⟨h, fun _ h => by cases h⟩
  | l :: r, lo, hi, ⟨k, mid, h1, h2, _, h4, h5⟩ => by
    have a := h4.le
    have b := h5.le
    have c := List.length_pos_iff.2 h2
    refine ⟨by simp only [List.length_cons]; omega, fun x hx => ?_⟩
    rcases List.mem_cons.1 hx with rfl | hx
    · omega
    · exact b.2 x hx
theorem RunL.hi {s : List UInt8} : ∀ {ls : List Ln} {lo hi hi' : Nat}, RunL s lo ls hi → hi ≤ hi' → RunL s lo ls hi'
  | [], _, _, _, h, h' => Nat.le_trans h h'
  | l :: r, lo, hi, hi', ⟨k, mid, h1, h2, h3, h4, h5⟩, h' => ⟨k, mid, h1, h2, h3, h4, RunL.hi h5 h'⟩
theorem RunL.snoc {s : List UInt8} : ∀ {ls : List Ln} {lo k hi : Nat} {l : Ln}, RunL s lo ls k → l.ws ≠ [] → LineAt s k l → Run s k l.ws hi → RunL s lo (ls ++ [l]) hi
  | [], lo, k, hi, l, h, h1, h2, h3 => ⟨k, hi, h, h1, h2, h3, Nat.le_refl _⟩
  | y :: r, lo, k, hi, l, ⟨k', mid, a, b, c, d, e⟩, h1, h2, h3 => ⟨k', mid, a, b, c, d, RunL.snoc e h1 h2 h3⟩
theorem toks_suffix {s : List UInt8} {q : Nat} (hq : q ≤ s.length) : ∀ {n : Nat} {T' : List Tok}, n = s.length - q → T' <:+ toks (s.drop q) q → ∃ q', q ≤ q' ∧ q' ≤ s.length ∧ T' = toks (s.drop q') q' := by
  intro n
  induction n using Nat.strongRecOn generalizing q with
  | _ n ih =>
    intro T' hn h
    by_cases he : q = s.length
    · subst he
      rw [List.drop_length, toks_nil] at h
      refine ⟨s.length, Nat.le_refl _, Nat.le_refl _, ?_⟩
      rw [List.drop_length, toks_nil]
      exact List.suffix_nil.1 h
    · have hlt : q < s.length := by omega
      cases hpk : pk (s.drop q) with
      | mk c m =>
        obtain ⟨h1, h2⟩ := pk_le hlt hpk
        rw [toks_at hlt hpk] at h
        rcases List.suffix_cons_iff.1 h with h | h
        · exact ⟨q, Nat.le_refl _, hq, by rw [toks_at hlt hpk]; exact h⟩
        · obtain ⟨q', a, b, c'⟩ := ih (s.length - (q + m)) (by omega) (q := q + m) h2 rfl h
          exact ⟨q', by omega, b, c'⟩
theorem bare_prefix {s : List UInt8} : ∀ {n q : Nat}, q ≤ s.length → n = s.length - q → ((toks (s.drop q) q).takeWhile fun t => bareB t.c).map Tok.c <+: s.drop q := by
  intro n
  induction n using Nat.strongRecOn with
  | _ n ih =>
    intro q hq hn
    by_cases he : q = s.length
    · subst he; rw [List.drop_length, toks_nil]; exact List.nil_prefix
    · have hlt : q < s.length := by omega
      cases hpk : pk (s.drop q) with
      | mk c m =>
        obtain ⟨h1, h2⟩ := pk_le hlt hpk
        rw [toks_at hlt hpk]
        by_cases hb : bareB c = true
        · have hm : m = 1 := pk_one hpk (by rintro rfl; revert hb; decide)
          subst hm
          rw [List.takeWhile_cons_of_pos (p := fun t : Tok => bareB t.c) (a := ⟨c, 1, q⟩) hb, List.map_cons]
          have := pk_head hlt hpk
          rw [this]
          exact List.cons_prefix_cons.2 ⟨rfl, ih (s.length - (q + 1)) (by omega) h2 rfl⟩
        · rw [List.takeWhile_cons_of_neg (p := fun t : Tok => bareB t.c) (a := ⟨c, m, q⟩) hb]
          exact List.nil_prefix
theorem mem_takeW {L : List Tok} {t : Tok} (h : t ∈ L.takeWhile fun t => bareB t.c) : bareB t.c = true := by
  induction L with
  | nil => simp at h
  | cons a L ih =>
    by_cases ha : bareB a.c = true
    · rw [List.takeWhile_cons_of_pos (p := fun t : Tok => bareB t.c) ha] at h
      rcases List.mem_cons.1 h with rfl | h
      · exact ha
      · exact ih h
    · rw [List.takeWhile_cons_of_neg (p := fun t : Tok => bareB t.c) ha] at h
      simp at h
/-- between two tokens -/
structure Pst (s : List UInt8) (q k : Nat) (outs : List Ln) (one : Ln) (fresh : Bool) : Prop where
  outs : RunL s 0 outs k
  num : one.num = ln s k
  col : cl s k = 0
  ws : Run s k one.ws q
  fr : fresh = true → q = k ∧ one.ind = false ∧ one.ws = []
  nf : fresh = false → one.ind = decide (s[k]? = some 9)
theorem Pst.fin {s : List UInt8} {q k : Nat} {outs : List Ln} {one : Ln} {fresh : Bool} (h : Pst s q k outs one fresh) {hi : Nat} (hq : q ≤ hi) : RunL s 0 (fin outs one) hi := by
  have hk := h.ws.le
  by_cases h0 : one.ws = []
  · rw [fin_nil h0]; exact h.outs.hi (by omega)
  · rw [fin_cons h0]
    refine h.outs.snoc h0 ⟨h.num, h.col, h.nf ?_⟩ (h.ws.hi hq)
    cases fresh with
    | false => rfl
    | true => exact absurd (h.fr rfl).2.2 h0
theorem bytes_pk {s : List UInt8} {q : Nat} (h : q < s.length) {c : UInt8} {n : Nat} (hpk : pk (s.drop q) = (c, n)) : s[q]? = some c ∨ (s[q]? = some 92 ∧ c = 32 ∧ n = 2) := by
  rw [List.drop_eq_getElem_cons h] at hpk
  have hq : s[q]? = some s[q] := List.getElem?_eq_getElem h
  generalize s.drop (q + 1) = r at hpk
  match r, hpk with
  | [], hpk => simp [pk] at hpk; left; rw [hq, hpk.1]
  | d :: r, hpk =>
    unfold pk at hpk
    by_cases hx : s[q] = 92 ∧ d = 10
    · simp only [if_pos hx, Prod.mk.injEq] at hpk
      exact .inr ⟨by rw [hq, hx.1], hpk.1.symm, hpk.2.symm⟩
    · simp only [if_neg hx, Prod.mk.injEq] at hpk
      left; rw [hq, hpk.1]
theorem lx_run (s : List UInt8) : ∀ (n q k : Nat) (outs : List Ln) (one : Ln) (fresh : Bool), n = s.length - q → q ≤ s.length → Pst s q k outs one fresh → ∀ r, lxC s (toks (s.drop q) q) outs one fresh = .ok r → RunL s 0 r s.length := by
  intro n
  induction n using Nat.strongRecOn with
  | _ n ih =>
    intro q k outs one fresh hn hq P r hr
    by_cases he : q = s.length
    · subst he
      rw [List.drop_length, toks_nil, lxC_nil] at hr
      cases hr
      exact P.fin (Nat.le_refl _)
    have hlt : q < s.length := by omega
    cases hpk : pk (s.drop q) with
    | mk c m =>
      obtain ⟨h1, h2⟩ := pk_le hlt hpk
      have hb := bytes_pk hlt hpk
      rw [toks_at hlt hpk, lxC_step] at hr
      have IH : ∀ (T' : List Tok) (k' : Nat) (os : List Ln) (o : Ln) (fr : Bool), T' <:+ toks (s.drop (q + m)) (q + m) → (∀ q', q + m ≤ q' → q' ≤ s.length → T' = toks (s.drop q') q' → Pst s q' k' os o fr) → lxC s T' os o fr = .ok r → RunL s 0 r s.length := by
        intro T' k' os o fr hs hp hr
        obtain ⟨q', a, b, rfl⟩ := toks_suffix h2 rfl hs
        exact ih (s.length - q') (by omega) q' k' os o fr rfl b (hp q' a b rfl) r hr
      dsimp only at hr
      have hind : c ≠ 10 → ¬ (c = 9 ∧ fresh = true) → one.ind = decide (s[k]? = some 9) := by
        intro h10 h9
        cases fresh with
        | false => exact P.nf rfl
        | true =>
          obtain ⟨rfl, hi, _⟩ := P.fr rfl
          rw [hi]
          refine (decide_eq_false ?_).symm
          rcases hb with hb | ⟨hb, _⟩
          · rw [hb]; intro e; cases e; exact h9 ⟨rfl, rfl⟩
          · rw [hb]; decide
      have hgo : ∀ q', q + m ≤ q' → c ≠ 10 → ¬ (c = 9 ∧ fresh = true) → Pst s q' k outs one false := fun q' a h10 h9 =>
        { outs := P.outs, num := P.num, col := P.col, ws := P.ws.hi (by omega), fr := (fun e => by cases e), nf := fun _ => hind h10 h9 }
      have hadd : ∀ q' x, q + m ≤ q' → c ≠ 10 → ¬ (c = 9 ∧ fresh = true) → At s q x → Pst s q' k outs (one.add x) false := fun q' x a h10 h9 hx =>
        { outs := P.outs, num := P.num, col := P.col, ws := P.ws.snoc hx (by omega), fr := (fun e => by cases e), nf := fun _ => hind h10 h9 }
      by_cases h10 : c = 10
      · rw [if_pos h10] at hr
        have hb' : s[q]? = some 10 := by
          rcases hb with hb | ⟨_, hc, _⟩
          · rw [hb, h10]
          · rw [h10] at hc; exact absurd hc (by decide)
        have hlc := lc_at hb'
        refine IH _ (q + 1) _ _ _ (List.suffix_refl _) (fun q' a _ ht => ?_) hr
        have hm : m = 1 := pk_nl (h10 ▸ hpk)
        subst hm
        have hq' : q' = q + 1 ∨ q + 1 < q' := by omega
        have hqe : q' = q + 1 := by
          by_cases h3 : q + 1 = s.length
          · omega
          · rcases hq' with h | h
            · exact h
            · exfalso
              cases hp2 : pk (s.drop (q + 1)) with
              | mk c2 m2 =>
                rw [toks_at (by omega) hp2] at ht
                have hne : q' < s.length := by
                  rcases Nat.lt_or_ge q' s.length with h | h
                  · exact h
                  · rw [List.drop_of_length_le h, toks_nil] at ht; cases ht
                cases hp3 : pk (s.drop q') with
                | mk c3 m3 =>
                  rw [toks_at hne hp3] at ht
                  simp only [List.cons.injEq, Tok.mk.injEq] at ht
                  omega
        subst hqe
        exact { outs := P.fin (by omega), num := rfl, col := by unfold cl; rw [hlc]; rfl, ws := Nat.le_refl _, fr := fun _ => ⟨rfl, rfl, rfl⟩, nf := fun e => by cases e }
      rw [if_neg h10] at hr
      by_cases h32 : c = 32
      · rw [if_pos h32] at hr
        exact IH _ k _ _ _ (List.suffix_refl _) (fun q' a _ _ => hgo q' a h10 (fun e => absurd (h32 ▸ e.1) (by decide))) hr
      rw [if_neg h32] at hr
      by_cases h9 : c = 9 ∧ fresh = true
      · rw [if_pos h9] at hr
        obtain ⟨rfl, rfl⟩ := h9
        obtain ⟨rfl, _, hw⟩ := P.fr rfl
        refine IH _ q _ _ _ (List.suffix_refl _) (fun q' a _ _ => ?_) hr
        refine { outs := P.outs, num := P.num, col := P.col, ws := P.ws.hi (by omega), fr := (fun e => by cases e), nf := fun _ => ?_ }
        rcases hb with hb | ⟨_, hc, _⟩
        · rw [hb]; rfl
        · exact absurd hc (by decide)
      rw [if_neg h9] at hr
      by_cases h35 : c = 35
      · rw [if_pos h35] at hr
        exact IH _ k _ _ _ (List.dropWhile_suffix _) (fun q' a _ _ => hgo q' a h10 h9) hr
      rw [if_neg h35] at hr
      have hcq : s[q]? = some c := by
        rcases hb with hb | ⟨_, hc, _⟩
        · exact hb
        · exact absurd hc h32
      have hsd : s.drop q = c :: s.drop (q + 1) := by
        rw [List.drop_eq_getElem_cons hlt]; congr 1; exact (List.getElem?_eq_some_iff.1 hcq).2
      by_cases hm : c = 58 ∨ c = 61
      · rw [if_pos hm] at hr
        refine IH _ k _ _ _ (List.suffix_refl _) (fun q' a _ _ => hadd q' _ a h10 h9 ⟨rfl, rfl, hlt, ?_⟩) hr
        rw [if_neg (by simp)]
        refine ⟨by simp, ?_, ?_, fun e => by cases e⟩
        · show [c] <+: s.drop q
          rw [hsd]; exact ⟨_, rfl⟩
        · rcases hm with rfl | rfl <;> rfl
      rw [if_neg hm] at hr
      by_cases h34 : c = 34
      · rw [if_pos h34] at hr
        cases hqt : qt q (toks (s.drop (q + m)) (q + m)) [] with
        | error x => rw [hqt] at hr; cases hr
        | ok tr =>
          obtain ⟨txt, r'⟩ := tr
          rw [hqt] at hr
          refine IH _ k _ _ _ (qt_suffix hqt) (fun q' a _ _ => hadd q' _ a h10 h9 ⟨rfl, rfl, hlt, ?_⟩) hr
          rw [if_pos rfl]
          exact ⟨by rw [hcq, h34], rfl⟩
      rw [if_neg h34] at hr
      by_cases hbb : bareB c = true
      · rw [if_pos hbb] at hr
        have hm1 : m = 1 := pk_one hpk h32
        subst hm1
        refine IH _ k _ _ _ (List.dropWhile_suffix _) (fun q' a _ _ => hadd q' _ a h10 h9 ⟨rfl, rfl, hlt, ?_⟩) hr
        rw [if_neg (by simp)]
        have hall : ∀ x ∈ c :: ((toks (s.drop (q + 1)) (q + 1)).takeWhile fun t => bareB t.c).map Tok.c, bareB x = true := by
          intro x hx
          rcases List.mem_cons.1 hx with rfl | hx
          · exact hbb
          · obtain ⟨t, ht, rfl⟩ := List.mem_map.1 hx
            exact mem_takeW ht
        refine ⟨by simp, ?_, ?_, fun _ => ?_⟩
        · show c :: _ <+: s.drop q
          rw [hsd]
          exact List.cons_prefix_cons.2 ⟨rfl, bare_prefix h2 rfl⟩
        · refine (decide_eq_false ?_).symm
          rintro (e | e)
          · simp only [List.cons.injEq] at e; exact hm (.inl e.1)
          · simp only [List.cons.injEq] at e; exact hm (.inr e.1)
        · unfold plainB
          simp only [Bool.and_eq_true]
          exact ⟨List.all_eq_true.2 hall, rfl⟩
      · rw [if_neg hbb] at hr
        cases hr
theorem lexL_run {s : List UInt8} {ls : List Ln} (h : lexL s = .ok ls) : RunL s 0 ls s.length := by
  have hlex : lexL s = lxC s (toks (s.drop 0) 0) [] ⟨1, false, []⟩ true := by rw [List.drop_zero]; exact lx_fuel s _ _ _ _ _ _ (Nat.lt_succ_of_le (toks_length s 0)) (Nat.lt_succ_self _)
  rw [hlex] at h
  exact lx_run s _ 0 0 [] _ true rfl (Nat.zero_le _) { outs := Nat.le_refl _, num := rfl, col := rfl, ws := Nat.le_refl _, fr := fun _ => ⟨rfl, rfl, rfl⟩, nf := fun e => by cases e } ls h
end Go.Proofs.Ythfjeijhnikabaa
