/- Quote, Plain, Show: the code's and the document's, and what is read of them. -/
import Derived.Test.YthfjeijhnikabaaLexTop
namespace Go.Proofs.Ythfjeijhnikabaa
open Go.RowKit

def qb (c : UInt8) : List UInt8 := if c = 10 then [92, 110] else if c = 9 then [92, 116] else if c = 34 ∨ c = 92 then [92, c] else [c]
def quoteL (s : List UInt8) : List UInt8 := 34 :: s.flatMap qb ++ [34]
def plainB (s : List UInt8) : Bool := s.all bareB && !s.isEmpty
def showL (s : List UInt8) : List UInt8 := if plainB s then s else quoteL s
theorem qb_len (c : UInt8) : 1 ≤ (qb c).length ∧ (qb c).length ≤ 2 := by
  unfold qb; split
  · simp
  · split
    · simp
    · split <;> simp
theorem quoteL_len (s : List UInt8) : (quoteL s).length ≤ 2 * s.length + 2 := by
  have : (s.flatMap qb).length ≤ 2 * s.length := by
    induction s with
    | nil => simp
    | cons c r ih => have := (qb_len c).2; simp only [List.flatMap_cons, List.length_append, List.length_cons]; omega
  simp only [quoteL, List.cons_append, List.length_cons, List.length_append, List.length_nil]; omega
/-- the bytes as they are, no joins -/
def tk : List UInt8 → Nat → List Tok
  | [], _ => []
  | c :: r, k => ⟨c, 1, k⟩ :: tk r (k + 1)
theorem toks_tk : ∀ (s : List UInt8) (k : Nat), (∀ c ∈ s, c ≠ 10) → toks s k = tk s k
  | [], _, _ => rfl
  | [c], _, _ => rfl
  | c :: d :: r, k, h => by
    have hd : ¬ (c = 92 ∧ d = 10) := fun e => h d (by simp) e.2
    have e : toks (c :: d :: r) k = if c = 92 ∧ d = 10 then ⟨32, 2, k⟩ :: toks r (k + 2) else ⟨c, 1, k⟩ :: toks (d :: r) (k + 1) := by rw [toks]
    rw [e, if_neg hd, toks_tk (d :: r) (k + 1) (fun x hx => h x (List.mem_cons_of_mem _ hx))]
    rfl
theorem qb_no10 (c : UInt8) : ∀ x ∈ qb c, x ≠ 10 := by
  intro x hx
  unfold qb at hx
  split at hx
  · simp at hx; rcases hx with rfl | rfl <;> decide
  · split at hx
    · simp at hx; rcases hx with rfl | rfl <;> decide
    · split at hx
      · rename_i h; simp at hx; rcases hx with rfl | rfl
        · decide
        · rcases h with rfl | rfl <;> decide
      · simp at hx; subst hx; assumption
theorem qt_quote (frm : Nat) : ∀ (s acc : List UInt8) (k : Nat), qt frm (tk (s.flatMap qb ++ [34]) k) acc = .ok (acc ++ s, [])
  | [], acc, k => by
    show qt frm [⟨34, 1, k⟩] acc = _
    rw [qt_cons, if_neg (by simp), if_pos ⟨rfl, rfl⟩, List.append_nil]
  | c :: s, acc, k => by
    rw [List.flatMap_cons, List.append_assoc]
    unfold qb
    by_cases h10 : c = 10
    · subst h10
      rw [if_pos rfl]
      show qt frm (⟨92, 1, k⟩ :: ⟨110, 1, k + 1⟩ :: tk (s.flatMap qb ++ [34]) (k + 1 + 1)) acc = _
      rw [qt_cons, if_neg (by simp), if_neg (by simp), if_pos ⟨rfl, rfl⟩]
      show (match esc 110 with | some e => qt frm (tk (s.flatMap qb ++ [34]) (k + 1 + 1)) (acc ++ [e]) | none => .error k) = _
      simp only [show esc 110 = some 10 from rfl]
      rw [qt_quote frm s, List.append_assoc]; rfl
    by_cases h9 : c = 9
    · subst h9
      rw [if_neg h10, if_pos rfl]
      show qt frm (⟨92, 1, k⟩ :: ⟨116, 1, k + 1⟩ :: tk (s.flatMap qb ++ [34]) (k + 1 + 1)) acc = _
      rw [qt_cons, if_neg (by simp), if_neg (by simp), if_pos ⟨rfl, rfl⟩]
      show (match esc 116 with | some e => qt frm (tk (s.flatMap qb ++ [34]) (k + 1 + 1)) (acc ++ [e]) | none => .error k) = _
      simp only [show esc 116 = some 9 from rfl]
      rw [qt_quote frm s, List.append_assoc]; rfl
    by_cases hq : c = 34 ∨ c = 92
    · rw [if_neg h10, if_neg h9, if_pos hq]
      show qt frm (⟨92, 1, k⟩ :: ⟨c, 1, k + 1⟩ :: tk (s.flatMap qb ++ [34]) (k + 1 + 1)) acc = _
      rw [qt_cons, if_neg (by simp), if_neg (by simp), if_pos ⟨rfl, rfl⟩]
      show (match esc c with | some e => qt frm (tk (s.flatMap qb ++ [34]) (k + 1 + 1)) (acc ++ [e]) | none => .error k) = _
      have he : esc c = some c := by rcases hq with rfl | rfl <;> rfl
      simp only [he]
      rw [qt_quote frm s, List.append_assoc]; rfl
    · rw [if_neg h10, if_neg h9, if_neg hq]
      show qt frm (⟨c, 1, k⟩ :: tk (s.flatMap qb ++ [34]) (k + 1)) acc = _
      rw [qt_cons, if_neg (by simp [h10]), if_neg (by simp; intro e; exact hq (.inl e)), if_neg (by simp; intro e; exact hq (.inr e)), qt_quote frm s, List.append_assoc]; rfl
theorem lexL_quote (s : List UInt8) : lexL (quoteL s) = .ok [⟨1, false, [⟨s, 1, 0, true, false⟩]⟩] := by
  have h10 : ∀ c ∈ quoteL s, c ≠ 10 := by
    intro c hc
    simp only [quoteL, List.cons_append, List.mem_cons, List.mem_append, List.mem_flatMap, List.not_mem_nil, or_false] at hc
    rcases hc with rfl | ⟨x, _, hx⟩ | rfl
    · decide
    · exact qb_no10 x c hx
    · decide
  unfold lexL
  rw [toks_tk _ _ h10]
  show lx _ ((s.flatMap qb ++ [34]).length + 1 + 1) (⟨34, 1, 0⟩ :: tk (s.flatMap qb ++ [34]) 1) _ _ _ = _
  rw [lx_cons, if_neg (by decide), if_neg (by decide), if_neg (by simp), if_neg (by decide), if_neg (by decide), if_pos rfl]
  show (match qt 0 (tk (s.flatMap qb ++ [34]) 1) [] with | .error x => _ | .ok (txt, r') => _) = _
  rw [qt_quote]
  rfl
theorem tk_bare : ∀ (s : List UInt8) (k : Nat), s.all bareB = true → (tk s k).dropWhile (fun t => bareB t.c) = [] ∧ ((tk s k).takeWhile fun t => bareB t.c).map Tok.c = s
  | [], _, _ => ⟨rfl, rfl⟩
  | c :: r, k, h => by
    simp only [List.all_cons, Bool.and_eq_true] at h
    obtain ⟨h1, h2⟩ := tk_bare r (k + 1) h.2
    unfold tk
    rw [List.dropWhile_cons_of_pos (p := fun t : Tok => bareB t.c) (a := ⟨c, 1, k⟩) h.1, List.takeWhile_cons_of_pos (p := fun t : Tok => bareB t.c) (a := ⟨c, 1, k⟩) h.1, List.map_cons, h2]
    exact ⟨h1, rfl⟩
theorem bare_ne {c : UInt8} (h : bareB c = true) : c ≠ 10 ∧ c ≠ 32 ∧ c ≠ 9 ∧ c ≠ 35 ∧ c ≠ 58 ∧ c ≠ 61 ∧ c ≠ 34 := by
  refine ⟨?_, ?_, ?_, ?_, ?_, ?_, ?_⟩ <;> (rintro rfl; revert h; decide)
theorem lexL_plain {s : List UInt8} (h : plainB s = true) : lexL s = .ok [⟨1, false, [⟨s, 1, 0, false, false⟩]⟩] := by
  simp only [plainB, Bool.and_eq_true, Bool.not_eq_true'] at h
  obtain ⟨h, hne⟩ := h
  match s, h, hne with
  | c :: r, h, _ =>
    have h10 : ∀ x ∈ c :: r, x ≠ 10 := fun x hx => (bare_ne (List.all_eq_true.1 h x hx)).1
    unfold lexL
    rw [toks_tk _ _ h10]
    simp only [List.all_cons, Bool.and_eq_true] at h
    obtain ⟨n1, n2, n3, n4, n5, n6, n7⟩ := bare_ne h.1
    obtain ⟨d1, d2⟩ := tk_bare r 1 h.2
    show lx _ (r.length + 1 + 1) (⟨c, 1, 0⟩ :: tk r 1) _ _ _ = _
    rw [lx_cons, if_neg n1, if_neg n2, if_neg (fun e => n3 e.1), if_neg n4, if_neg (fun e => e.elim n5 n6), if_neg n7, if_pos h.1, d1, d2]
    rfl
end Go.Proofs.Ythfjeijhnikabaa
