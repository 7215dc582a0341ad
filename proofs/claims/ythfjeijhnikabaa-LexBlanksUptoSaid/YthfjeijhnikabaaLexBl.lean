/- The ways to part words and to end lines: what they are, and their walks. -/
import Derived.Test.YthfjeijhnikabaaLexText
import Derived.Test.YthfjeijhnikabaaLexR
namespace Go.Proofs.Ythfjeijhnikabaa
open Go.RowKit
set_option linter.unusedVariables false

def bl (i : Nat) : List UInt8 := if i % 5 = 0 then [32] else if i % 5 = 1 then [32, 32] else if i % 5 = 2 then [32, 92, 10] else if i % 5 = 3 then [32, 92, 10, 32] else [32, 92, 10, 32, 32, 92, 10]
def be (i : Nat) : List UInt8 := if i % 5 = 0 then [10] else if i % 5 = 1 then [32, 35, 32, 34, 97, 58, 32, 92, 120, 10] else if i % 5 = 2 then [32, 32, 10, 10] else if i % 5 = 3 then [35, 9, 255, 10, 32, 10, 35, 32, 109, 111, 114, 101, 10] else [32, 10, 9, 10]
theorem bl_len (i : Nat) : (bl i).length ≤ 16 := by unfold bl; repeat (first | split | simp)
theorem be_len (i : Nat) : (be i).length ≤ 16 := by unfold be; repeat (first | split | simp)
theorem blank_1 : Blank [32, 32] := ⟨by simp, by simp [L92], fun k t ht => by
  have e : toks [32, 32] k = [⟨32, 1, k⟩, ⟨32, 1, k + 1⟩] := rfl
  rw [e] at ht; simp at ht; rcases ht with rfl | rfl <;> rfl⟩
theorem blank_2 : Blank [32, 92, 10] := ⟨by simp, by simp [L92], fun k t ht => by
  have e : toks [32, 92, 10] k = [⟨32, 1, k⟩, ⟨32, 2, k + 1⟩] := rfl
  rw [e] at ht; simp at ht; rcases ht with rfl | rfl <;> rfl⟩
theorem blank_3 : Blank [32, 92, 10, 32] := ⟨by simp, by simp [L92], fun k t ht => by
  have e : toks [32, 92, 10, 32] k = [⟨32, 1, k⟩, ⟨32, 2, k + 1⟩, ⟨32, 1, k + 3⟩] := rfl
  rw [e] at ht; simp at ht; rcases ht with rfl | rfl | rfl <;> rfl⟩
theorem blank_4 : Blank [32, 92, 10, 32, 32, 92, 10] := ⟨by simp, by simp [L92], fun k t ht => by
  have e : toks [32, 92, 10, 32, 32, 92, 10] k = [⟨32, 1, k⟩, ⟨32, 2, k + 1⟩, ⟨32, 1, k + 3⟩, ⟨32, 1, k + 4⟩, ⟨32, 2, k + 5⟩] := rfl
  rw [e] at ht; simp at ht; rcases ht with rfl | rfl | rfl | rfl | rfl <;> rfl⟩
theorem bl_blank (i : Nat) : Blank (bl i) := by
  unfold bl
  split
  · exact blank_sp
  split
  · exact blank_1
  split
  · exact blank_2
  split
  · exact blank_3
  · exact blank_4
theorem ender_1 : Ender [32, 35, 32, 34, 97, 58, 32, 92, 120, 10] := ⟨by simp, by simp [L92], fun k t ht => by
    have e : (toks [32, 35, 32, 34, 97, 58, 32, 92, 120, 10] k).head? = some ⟨32, 1, k⟩ := rfl
    rw [e] at ht; simp at ht; subst ht; rfl,
  fun s k r outs one => ⟨ln s (k + 9 + 1), by
    show lxC s (⟨32, 1, k⟩ :: ⟨35, 1, k + 1⟩ :: ⟨32, 1, k + 2⟩ :: ⟨34, 1, k + 3⟩ :: ⟨97, 1, k + 4⟩ :: ⟨58, 1, k + 5⟩ :: ⟨32, 1, k + 6⟩ :: ⟨92, 1, k + 7⟩ :: ⟨120, 1, k + 8⟩ :: ⟨10, 1, k + 9⟩ :: r) outs one false = _
    rw [lxC_step, if_neg (by simp), if_pos rfl, lxC_step, if_neg (by simp), if_neg (by simp), if_neg (by simp), if_pos rfl]
    simp only [List.dropWhile_cons, show ((32 : UInt8) ≠ 10) from by decide, show ((34 : UInt8) ≠ 10) from by decide, show ((97 : UInt8) ≠ 10) from by decide, show ((58 : UInt8) ≠ 10) from by decide, show ((92 : UInt8) ≠ 10) from by decide, show ((120 : UInt8) ≠ 10) from by decide, decide_true, if_true, ne_eq, not_true_eq_false, decide_false, Bool.false_eq_true, if_false, not_false_eq_true]
    rw [lxC_step, if_pos rfl]⟩⟩
theorem ender_2 : Ender [32, 32, 10, 10] := ⟨by simp, by simp [L92], fun k t ht => by
    have e : (toks [32, 32, 10, 10] k).head? = some ⟨32, 1, k⟩ := rfl
    rw [e] at ht; simp at ht; subst ht; rfl,
  fun s k r outs one => ⟨ln s (k + 3 + 1), by
    show lxC s (⟨32, 1, k⟩ :: ⟨32, 1, k + 1⟩ :: ⟨10, 1, k + 2⟩ :: ⟨10, 1, k + 3⟩ :: r) outs one false = _
    rw [lxC_step, if_neg (by simp), if_pos rfl, lxC_step, if_neg (by simp), if_pos rfl, lxC_step, if_pos rfl, lxC_step, if_pos rfl]
    rfl⟩⟩
theorem ender_3 : Ender [35, 9, 255, 10, 32, 10, 35, 32, 109, 111, 114, 101, 10] := ⟨by simp, by simp [L92], fun k t ht => by
    have e : (toks [35, 9, 255, 10, 32, 10, 35, 32, 109, 111, 114, 101, 10] k).head? = some ⟨35, 1, k⟩ := rfl
    rw [e] at ht; simp at ht; subst ht; rfl,
  fun s k r outs one => ⟨ln s (k + 12 + 1), by
    show lxC s (⟨35, 1, k⟩ :: ⟨9, 1, k + 1⟩ :: ⟨255, 1, k + 2⟩ :: ⟨10, 1, k + 3⟩ :: ⟨32, 1, k + 4⟩ :: ⟨10, 1, k + 5⟩ :: ⟨35, 1, k + 6⟩ :: ⟨32, 1, k + 7⟩ :: ⟨109, 1, k + 8⟩ :: ⟨111, 1, k + 9⟩ :: ⟨114, 1, k + 10⟩ :: ⟨101, 1, k + 11⟩ :: ⟨10, 1, k + 12⟩ :: r) outs one false = _
    rw [lxC_step, if_neg (by simp), if_neg (by simp), if_neg (by simp), if_pos rfl]
    simp only [List.dropWhile_cons, show ((9 : UInt8) ≠ 10) from by decide, show ((255 : UInt8) ≠ 10) from by decide, decide_true, if_true, ne_eq, not_true_eq_false, decide_false, Bool.false_eq_true, if_false, not_false_eq_true]
    rw [lxC_step, if_pos rfl, lxC_step, if_neg (by simp), if_pos rfl, lxC_step, if_pos rfl, lxC_step, if_neg (by simp), if_neg (by simp), if_neg (by simp), if_pos rfl]
    simp only [List.dropWhile_cons, show ((32 : UInt8) ≠ 10) from by decide, show ((109 : UInt8) ≠ 10) from by decide, show ((111 : UInt8) ≠ 10) from by decide, show ((114 : UInt8) ≠ 10) from by decide, show ((101 : UInt8) ≠ 10) from by decide, decide_true, if_true, ne_eq, not_true_eq_false, decide_false, Bool.false_eq_true, if_false, not_false_eq_true]
    rw [lxC_step, if_pos rfl]
    rfl⟩⟩
theorem ender_4 : Ender [32, 10, 9, 10] := ⟨by simp, by simp [L92], fun k t ht => by
    have e : (toks [32, 10, 9, 10] k).head? = some ⟨32, 1, k⟩ := rfl
    rw [e] at ht; simp at ht; subst ht; rfl,
  fun s k r outs one => ⟨ln s (k + 3 + 1), by
    show lxC s (⟨32, 1, k⟩ :: ⟨10, 1, k + 1⟩ :: ⟨9, 1, k + 2⟩ :: ⟨10, 1, k + 3⟩ :: r) outs one false = _
    rw [lxC_step, if_neg (by simp), if_pos rfl, lxC_step, if_pos rfl, lxC_step, if_neg (by simp), if_neg (by simp), if_pos ⟨rfl, rfl⟩, lxC_step, if_pos rfl]
    rfl⟩⟩
theorem be_ender (i : Nat) : Ender (be i) := by
  unfold be
  split
  · exact ender_nl
  split
  · exact ender_1
  split
  · exact ender_2
  split
  · exact ender_3
  · exact ender_4
set_option maxRecDepth 100000 in
set_option maxHeartbeats 2000000 in
theorem blank_calls (i : Nat) (hi : i < 256) (w : World) : Calls Try.prog 27 #[.int .i64 i] w fun e w' => e = .returned (.string (strB (bl i))) ∧ Below w.heap.size w w' := by
  go_enter Try.func27, Try.ntmps27
  have i0 : (0 : Int) ≤ (i : Int) := by omega
  rcases (by omega : i % 5 = 0 ∨ i % 5 = 1 ∨ i % 5 = 2 ∨ i % 5 = 3 ∨ i % 5 = 4) with h | h | h | h | h
  · have hr : (i : Int).tmod 5 = 0 := by rw [Int.tmod_eq_emod_of_nonneg i0]; omega
    have hr2 : (i : Int) % 5 = 0 := by omega
    go_wp2_with fail
    go_ret
    refine ⟨?_, (Below.refl _ _).alloc (Nat.le_refl _) _⟩
    show Ending.returned _ = .returned (.string (strB (bl i)))
    unfold bl; simp only [h]; rfl
  · have hr : (i : Int).tmod 5 = 1 := by rw [Int.tmod_eq_emod_of_nonneg i0]; omega
    have hr2 : (i : Int) % 5 = 1 := by omega
    go_wp2_with fail
    go_ret
    refine ⟨?_, (Below.refl _ _).alloc (Nat.le_refl _) _⟩
    show Ending.returned _ = .returned (.string (strB (bl i)))
    unfold bl; simp only [h]; rfl
  · have hr : (i : Int).tmod 5 = 2 := by rw [Int.tmod_eq_emod_of_nonneg i0]; omega
    have hr2 : (i : Int) % 5 = 2 := by omega
    go_wp2_with fail
    go_ret
    refine ⟨?_, (Below.refl _ _).alloc (Nat.le_refl _) _⟩
    show Ending.returned _ = .returned (.string (strB (bl i)))
    unfold bl; simp only [h]; rfl
  · have hr : (i : Int).tmod 5 = 3 := by rw [Int.tmod_eq_emod_of_nonneg i0]; omega
    have hr2 : (i : Int) % 5 = 3 := by omega
    go_wp2_with fail
    go_ret
    refine ⟨?_, (Below.refl _ _).alloc (Nat.le_refl _) _⟩
    show Ending.returned _ = .returned (.string (strB (bl i)))
    unfold bl; simp only [h]; rfl
  · have hr : (i : Int).tmod 5 = 4 := by rw [Int.tmod_eq_emod_of_nonneg i0]; omega
    have hr2 : (i : Int) % 5 = 4 := by omega
    go_wp2_with fail
    go_ret
    refine ⟨?_, (Below.refl _ _).alloc (Nat.le_refl _) _⟩
    show Ending.returned _ = .returned (.string (strB (bl i)))
    unfold bl; simp only [h]; rfl
set_option maxRecDepth 100000 in
set_option maxHeartbeats 2000000 in
theorem behind_calls (i : Nat) (hi : i < 256) (w : World) : Calls Try.prog 28 #[.int .i64 i] w fun e w' => e = .returned (.string (strB (be i))) ∧ Below w.heap.size w w' := by
  go_enter Try.func28, Try.ntmps28
  have i0 : (0 : Int) ≤ (i : Int) := by omega
  rcases (by omega : i % 5 = 0 ∨ i % 5 = 1 ∨ i % 5 = 2 ∨ i % 5 = 3 ∨ i % 5 = 4) with h | h | h | h | h
  · have hr : (i : Int).tmod 5 = 0 := by rw [Int.tmod_eq_emod_of_nonneg i0]; omega
    have hr2 : (i : Int) % 5 = 0 := by omega
    go_wp2_with fail
    go_ret
    refine ⟨?_, (Below.refl _ _).alloc (Nat.le_refl _) _⟩
    show Ending.returned _ = .returned (.string (strB (be i)))
    unfold be; simp only [h]; rfl
  · have hr : (i : Int).tmod 5 = 1 := by rw [Int.tmod_eq_emod_of_nonneg i0]; omega
    have hr2 : (i : Int) % 5 = 1 := by omega
    go_wp2_with fail
    go_ret
    refine ⟨?_, (Below.refl _ _).alloc (Nat.le_refl _) _⟩
    show Ending.returned _ = .returned (.string (strB (be i)))
    unfold be; simp only [h]; rfl
  · have hr : (i : Int).tmod 5 = 2 := by rw [Int.tmod_eq_emod_of_nonneg i0]; omega
    have hr2 : (i : Int) % 5 = 2 := by omega
    go_wp2_with fail
    go_ret
    refine ⟨?_, (Below.refl _ _).alloc (Nat.le_refl _) _⟩
    show Ending.returned _ = .returned (.string (strB (be i)))
    unfold be; simp only [h]; rfl
  · have hr : (i : Int).tmod 5 = 3 := by rw [Int.tmod_eq_emod_of_nonneg i0]; omega
    have hr2 : (i : Int) % 5 = 3 := by omega
    go_wp2_with fail
    go_ret
    refine ⟨?_, (Below.refl _ _).alloc (Nat.le_refl _) _⟩
    show Ending.returned _ = .returned (.string (strB (be i)))
    unfold be; simp only [h]; rfl
  · have hr : (i : Int).tmod 5 = 4 := by rw [Int.tmod_eq_emod_of_nonneg i0]; omega
    have hr2 : (i : Int) % 5 = 4 := by omega
    go_wp2_with fail
    go_ret
    refine ⟨?_, (Below.refl _ _).alloc (Nat.le_refl _) _⟩
    show Ending.returned _ = .returned (.string (strB (be i)))
    unfold be; simp only [h]; rfl
end Go.Proofs.Ythfjeijhnikabaa
