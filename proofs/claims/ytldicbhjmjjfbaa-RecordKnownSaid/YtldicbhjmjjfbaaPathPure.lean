/- Paths: what a segment and what a path is, in plain words. -/
import Derived.Test.YtldicbhjmjjfbaaJStr
import Derived.Lib.Bytealg
import Derived.Lib.IndexLaws
namespace Go.Proofs.Ytldicbhjmjjfbaa
set_option linter.unusedVariables false

/-- may a byte stand in a segment? -/
def mayB (c : Nat) : Bool := (decide (97 ≤ c) && decide (c ≤ 122)) || (decide (48 ≤ c) && decide (c ≤ 57)) || decide (c = 95) || decide (c = 46) || decide (c = 45)
def seg (s : List UInt8) : Bool := decide (s ≠ []) && decide (s.length ≤ 32) && decide (s ≠ [46]) && decide (s ≠ [46, 46]) && s.all fun c => mayB c.toNat
/-- the piece ahead of the first slash, and the pieces behind it -/
def pcs : List UInt8 → List UInt8 × List (List UInt8)
  | [] => ([], [])
  | x :: l => if x = 47 then ([], (pcs l).1 :: (pcs l).2) else (x :: (pcs l).1, (pcs l).2)
theorem pcs_cons (x : UInt8) (l : List UInt8) : pcs (x :: l) = if x = 47 then ([], (pcs l).1 :: (pcs l).2) else (x :: (pcs l).1, (pcs l).2) := rfl
def pieces (l : List UInt8) : List (List UInt8) := (pcs l).1 :: (pcs l).2
def segs (l : List UInt8) : Bool := (pieces l).all seg
def isP (l : List UInt8) : Bool := decide (l.length ≤ 60) && segs l
/-- a text parted at its first slash -/
def cutS : List UInt8 → List UInt8 × Option (List UInt8)
  | [] => ([], none)
  | x :: l => if x = 47 then ([], some l) else (x :: (cutS l).1, (cutS l).2)
theorem cutS_none : ∀ {l : List UInt8}, (cutS l).2 = none → (cutS l).1 = l ∧ Lib.indexByte l 47 = -1 ∧ pieces l = [l]
  | [], _ => ⟨rfl, rfl, rfl⟩
  | x :: l, h => by
    unfold cutS at h ⊢
    unfold pieces Lib.indexByte
    rw [pcs_cons]
    split at h
    · cases h
    · rename_i hx
      obtain ⟨h1, h2, h3⟩ := cutS_none (l := l) h
      unfold pieces at h3
      rw [if_neg hx, if_neg hx, h2, h1]
      simp only [List.cons.injEq] at h3
      rw [h3.1, h3.2]
      simp [hx]
theorem cutS_some : ∀ {l r : List UInt8}, (cutS l).2 = some r → l = (cutS l).1 ++ 47 :: r ∧ Lib.indexByte l 47 = ((cutS l).1.length : Int) ∧ pieces l = (cutS l).1 :: pieces r
  | [], r, h => by simp [cutS] at h
  | x :: l, r, h => by
    unfold cutS at h ⊢
    unfold pieces Lib.indexByte
    rw [pcs_cons]
    split at h
    · rename_i hx
      simp only [Option.some.injEq] at h
      subst h
      rw [if_pos hx, if_pos hx, hx]
      simp
    · rename_i hx
      obtain ⟨h1, h2, h3⟩ := cutS_some (l := l) h
      unfold pieces at h3
      simp only [List.cons.injEq] at h3
      rw [if_neg hx, if_neg hx, h2, h3.1, h3.2]
      refine ⟨by simp only [List.cons_append]; exact congrArg _ h1, ?_, rfl⟩
      have hne : ¬ (((cutS l).1.length : Int) = -1) := by omega
      simp [hx, hne]
theorem cutS_one (l : List UInt8) : (cutS l).2 = none ↔ Lib.indexByte l 47 = -1 := by
  cases h : (cutS l).2 with
  | none => simp [(cutS_none h).2.1]
  | some r => have := (cutS_some h).2.1; simp [this]
theorem segs_none {l : List UInt8} (h : (cutS l).2 = none) : segs l = seg (cutS l).1 := by
  obtain ⟨h1, _, h3⟩ := cutS_none h
  unfold segs; rw [h3, h1]; simp
theorem segs_some {l r : List UInt8} (h : (cutS l).2 = some r) : segs l = (seg (cutS l).1 && segs r) := by
  obtain ⟨_, _, h3⟩ := cutS_some h
  unfold segs; rw [h3]; simp
/-- the pieces, gone over byte by byte: done ones, the one under way, what is left -/
theorem pieces_app (c l : List UInt8) (hc : ∀ x ∈ c, x ≠ 47) : pieces (c ++ l) = (c ++ (pcs l).1) :: (pcs l).2 := by
  unfold pieces
  induction c with
  | nil => rfl
  | cons x c ih =>
    have hx : x ≠ 47 := hc x (.head _)
    have := ih fun y hy => hc y (.tail _ hy)
    simp only [List.cons.injEq] at this
    simp only [List.cons_append, pcs, if_neg hx, this.1, this.2]
theorem pieces_slash (l : List UInt8) : pcs (47 :: l) = ([], pieces l) := by simp [pcs, pieces]
theorem pcs_other {x : UInt8} (hx : x ≠ 47) (l : List UInt8) : pcs (x :: l) = (x :: (pcs l).1, (pcs l).2) := by simp [pcs, hx]
/-- what stands done while the text is gone over -/
def Pcd (l : List UInt8) (i from_ : Nat) (ps : List (List UInt8)) : Prop :=
  from_ ≤ i ∧ pieces l = ps ++ (((l.take i).drop from_ ++ (pcs (l.drop i)).1) :: (pcs (l.drop i)).2)
theorem Pcd.zero (l : List UInt8) : Pcd l 0 0 [] := ⟨by omega, by simp [pieces]⟩
theorem drop_cons {α : Type} {l : List α} {i : Nat} (h : i < l.length) : l.drop i = l[i] :: l.drop (i + 1) := by simp
theorem Pcd.slash {l : List UInt8} {i f : Nat} {ps : List (List UInt8)} (h : Pcd l i f ps) (hi : i < l.length) (hx : l[i] = 47) : Pcd l (i + 1) (i + 1) (ps ++ [(l.take i).drop f]) := by
  obtain ⟨h1, h2⟩ := h
  refine ⟨by omega, ?_⟩
  rw [h2, drop_cons hi, hx, pieces_slash]
  simp [pieces]
theorem Pcd.other {l : List UInt8} {i f : Nat} {ps : List (List UInt8)} (h : Pcd l i f ps) (hi : i < l.length) (hx : l[i] ≠ 47) : Pcd l (i + 1) f ps := by
  obtain ⟨h1, h2⟩ := h
  refine ⟨by omega, ?_⟩
  rw [h2, drop_cons hi, pcs_other hx, List.take_succ_eq_append_getElem hi, List.drop_append_of_le_length (by simp; omega)]
  simp
theorem Pcd.last {l : List UInt8} {f : Nat} {ps : List (List UInt8)} (h : Pcd l l.length f ps) : pieces l = ps ++ [l.drop f] := by
  obtain ⟨h1, h2⟩ := h
  rw [h2]; simp [pcs]
theorem pieces_len : ∀ l : List UInt8, (pieces l).length ≤ l.length + 1
  | [] => by simp [pieces, pcs]
  | x :: l => by
    have := pieces_len l
    unfold pieces at *
    rw [pcs_cons]
    split <;> simp at * <;> omega
theorem piece_le : ∀ (l x : List UInt8), x ∈ pieces l → x.length ≤ l.length
  | [], x, h => by simp [pieces, pcs] at h; simp [h]
  | y :: l, x, h => by
    have ih := fun x => piece_le l x
    unfold pieces at h ih
    rw [pcs_cons] at h
    simp only [List.mem_cons] at ih
    split at h
    · simp only [List.mem_cons] at h
      rcases h with rfl | h
      · simp
      · have := ih x h; simp; omega
    · simp only [List.mem_cons] at h
      rcases h with rfl | h
      · have := ih (pcs l).1 (.inl rfl); simp; omega
      · have := ih x (.inr h); simp; omega
/-- as the document has a byte of a segment -/
def notMay (c : Nat) : Bool := ((((decide (c < 97) || decide (c > 122)) && (decide (c < 48) || decide (c > 57))) && decide (c ≠ 95)) && decide (c ≠ 46)) && decide (c ≠ 45)
theorem notMay_eq (c : Nat) : notMay c = !mayB c := by
  unfold notMay mayB
  rw [Bool.eq_iff_iff]
  simp
theorem all_take_succ {p : UInt8 → Bool} {l : List UInt8} {i : Nat} (hi : i < l.length) (h : (l.take i).all p = true) : (l.take (i + 1)).all p = p l[i] := by
  rw [List.take_succ_eq_append_getElem hi, List.all_append, h]; simp
end Go.Proofs.Ytldicbhjmjjfbaa
