/- Rows of bytes of the call's own. -/
import Derived.Test.YtldicbhjmjjfbaaJLib
namespace Go.Proofs.Ytldicbhjmjjfbaa
open Go.RowKit

theorem Own.litB {J : Jm} {w : World} (_hI : Inv J w) (l : List UInt8) {n : Nat} (hn : l.length = n) (hm : n ≤ maxLen) :
    Own (J.put w.heap.size (bcs l)) (w.alloc (.cells (bcs l).toArray 5)) w.heap.size 5 1 (.slice (some ⟨w.heap.size, 0, none⟩) n n) n (bcs l) := by
  subst hn
  refine ⟨⟨by simp, .inr ⟨w.heap.size, l.length, (bcs l).toArray, rfl, Nat.le_refl _, heap_alloc_new _ _, Nat.le_refl _, hm, by simp, ?_⟩⟩, fun b h => ?_⟩
  · simp [List.take_of_length_le]
  · simp [Value.ownBlock] at h; subst h; exact Jm.put_same _ _ _
/-- a row of bytes of the call's own -/
abbrev Rb (J : Jm) (w : World) (B : Nat) (v : Value) (l : List UInt8) : Prop := Own J w B 5 1 v l.length (bcs l)
theorem Rb.lit {J : Jm} {w : World} {B n m : Nat} {v : Value} {pre l : List UInt8} (h : Own J w B 5 1 v (n + m) (bcs pre ++ bcs l)) (hn : n = pre.length) (hm : m = l.length) : Rb J w B v (pre ++ l) := by
  subst hn hm; unfold Rb; rw [List.length_append, bcs_append]; exact h
theorem Rb.str {J : Jm} {w : World} {B n : Nat} {v : Value} {pre l : List UInt8} (h : Own J w B 5 1 v (n + (strB l).size) (bcs pre ++ bcs (strB l).data.toList)) (hn : n = pre.length) : Rb J w B v (pre ++ l) := by
  rw [strB_size, strB_data] at h; exact Rb.lit h hn rfl
end Go.Proofs.Ytldicbhjmjjfbaa
