/- slices.Clone of items, of kids and of bytes. -/
import Derived.Test.YtnnkgjaahmflmaaCellGetM
import Derived.Test.YtnnkgjaahmflmaaLEqual
import Derived.WalkSpells
namespace Go.Proofs.Ytnnkgjaahmflmaa
open Go.RowKit
set_option linter.unusedVariables false

set_option maxHeartbeats 1000000 in
theorem cloneC_calls {J : Jm} {w : World} (hI : Inv J w) {v : Value} {l : List Cl} (hb : Sl J 4 v l.length (clC l)) (hl : l.length ≤ 1048576) :
    Calls Try.prog 37 #[v] w fun e w' => ∃ v' J', e = .returned v' ∧ Ext J w J' w' ∧ Own J' w' w.heap.size 55 4 v' l.length (clC l) ∧ (v' = .slice none 0 0 ↔ v = .slice none 0 0) := by
  obtain ⟨A, c, rfl, hn, hm⟩ := hb.form
  have hm' := hm
  unfold maxLen at hm'
  cases A with
  | none =>
    have h0 : c = 0 := by obtain ⟨_, A, c', hv, _, _, h0, _⟩ := hb; cases hv; exact h0 rfl
    subst h0
    have hl0 : l = [] := List.eq_nil_of_length_eq_zero (by omega)
    subst hl0
    have hq := fun (W : World) => Lib.run_eql_slice_nil (P := Try.prog) W 22 55 none 0 0 0 0 Try.underlying22
    go_enter Try.func37, Try.ntmps37
    go_wp2
    go_ret
    exact ⟨_, J, rfl, Ext.refl hI, Own.nil _ _ _ _ _, by simp⟩
  | some a =>
    have hq := fun (W : World) => Lib.run_eql_slice_nil (P := Try.prog) W 22 55 (some a) l.length c 0 0 Try.underlying22
    go_enter Try.func37, Try.ntmps37
    go_wp2_with (first | (at_builtin; go_must (refine wpList_append_J (J := J) (s := .tmp 5) (x := .tmp 6) (t := 22) (e := 55) (base := w.heap.size) (v := .slice (some ⟨w.heap.size, 0, none⟩) 0 0) (n := 0) (xs := []) rfl (.agg #[.string ByteArray.empty, .string ByteArray.empty, .int .i64 0, .int .i64 0]) 4 48 rfl Try.underlying22 info_cell rfl rfl (hI.alloc _) (Own.made hI _ _ 4 #[] 0 (Nat.le_refl _) (by decide) rfl) rfl hb (clC_one l) (by simp only [maxLen]; omega) (by omega) (by simp) ?_; intro v' w' J' ho hg hv')))
    go_ret
    have hE : Ext J w J' w' := ((Ext.refl hI).alloc _).grew (Own.made hI _ _ 4 #[] 0 (Nat.le_refl _) (by decide) rfl) hg
    refine ⟨v', J', rfl, hE, ?_, ?_⟩
    · simpa using ho
    · rw [hv']; simp
set_option maxHeartbeats 1000000 in
theorem cloneK_calls {J : Jm} {w : World} (hI : Inv J w) {v : Value} {l : List Int} (hb : Sl J 1 v l.length (kcs l)) (hl : l.length ≤ 1048576) :
    Calls Try.prog 39 #[v] w fun e w' => ∃ v' J', e = .returned v' ∧ Ext J w J' w' ∧ Own J' w' w.heap.size 3 1 v' l.length (kcs l) ∧ (v' = .slice none 0 0 ↔ v = .slice none 0 0) := by
  obtain ⟨A, c, rfl, hn, hm⟩ := hb.form
  have hm' := hm
  unfold maxLen at hm'
  cases A with
  | none =>
    have h0 : c = 0 := by obtain ⟨_, A, c', hv, _, _, h0, _⟩ := hb; cases hv; exact h0 rfl
    subst h0
    have hl0 : l = [] := List.eq_nil_of_length_eq_zero (by omega)
    subst hl0
    have hq := fun (W : World) => Lib.run_eql_slice_nil (P := Try.prog) W 23 3 none 0 0 0 0 Try.underlying23
    go_enter Try.func39, Try.ntmps39
    go_wp2
    go_ret
    exact ⟨_, J, rfl, Ext.refl hI, Own.nil _ _ _ _ _, by simp⟩
  | some a =>
    have hq := fun (W : World) => Lib.run_eql_slice_nil (P := Try.prog) W 23 3 (some a) l.length c 0 0 Try.underlying23
    go_enter Try.func39, Try.ntmps39
    go_wp2_with (first | (at_builtin; go_must (refine wpList_append_J (J := J) (s := .tmp 5) (x := .tmp 6) (t := 23) (e := 3) (base := w.heap.size) (v := .slice (some ⟨w.heap.size, 0, none⟩) 0 0) (n := 0) (xs := []) rfl (.int .i64 0) 1 8 rfl Try.underlying23 info_int rfl rfl (hI.alloc _) (Own.made hI _ _ 1 #[] 0 (Nat.le_refl _) (by decide) rfl) rfl hb (kcs_one l) (by simp only [maxLen]; omega) (by omega) (by simp) ?_; intro v' w' J' ho hg hv')))
    go_ret
    have hE : Ext J w J' w' := ((Ext.refl hI).alloc _).grew (Own.made hI _ _ 1 #[] 0 (Nat.le_refl _) (by decide) rfl) hg
    refine ⟨v', J', rfl, hE, ?_, ?_⟩
    · simpa using ho
    · rw [hv']; simp
set_option maxHeartbeats 1000000 in
theorem cloneB_calls {J : Jm} {w : World} (hI : Inv J w) {v : Value} {l : List UInt8} (hb : Sl J 1 v l.length (bcs l)) (hl : l.length ≤ 1048576) :
    Calls Try.prog 21 #[v] w fun e w' => ∃ v' J', e = .returned v' ∧ Ext J w J' w' ∧ Own J' w' w.heap.size 5 1 v' l.length (bcs l) ∧ (v' = .slice none 0 0 ↔ v = .slice none 0 0) := by
  obtain ⟨A, c, rfl, hn, hm⟩ := hb.form
  have hm' := hm
  unfold maxLen at hm'
  cases A with
  | none =>
    have h0 : c = 0 := by obtain ⟨_, A, c', hv, _, _, h0, _⟩ := hb; cases hv; exact h0 rfl
    subst h0
    have hl0 : l = [] := List.eq_nil_of_length_eq_zero (by omega)
    subst hl0
    have hq := fun (W : World) => Lib.run_eql_slice_nil (P := Try.prog) W 30 5 none 0 0 0 0 Try.underlying30
    go_enter Try.func21, Try.ntmps21
    go_wp2
    go_ret
    exact ⟨_, J, rfl, Ext.refl hI, Own.nil _ _ _ _ _, by simp⟩
  | some a =>
    have hq := fun (W : World) => Lib.run_eql_slice_nil (P := Try.prog) W 30 5 (some a) l.length c 0 0 Try.underlying30
    go_enter Try.func21, Try.ntmps21
    go_wp2_with (first | (at_builtin; go_must (refine wpList_append_J (J := J) (s := .tmp 5) (x := .tmp 6) (t := 30) (e := 5) (base := w.heap.size) (v := .slice (some ⟨w.heap.size, 0, none⟩) 0 0) (n := 0) (xs := []) rfl (.int .u8 0) 1 1 rfl Try.underlying30 info_u8 rfl rfl (hI.alloc _) (Own.made hI _ _ 1 #[] 0 (Nat.le_refl _) (by decide) rfl) rfl hb (bcs_one l) (by simp only [maxLen]; omega) (by omega) (by simp) ?_; intro v' w' J' ho hg hv')))
    go_ret
    have hE : Ext J w J' w' := ((Ext.refl hI).alloc _).grew (Own.made hI _ _ 1 #[] 0 (Nat.le_refl _) (by decide) rfl) hg
    refine ⟨v', J', rfl, hE, ?_, ?_⟩
    · simpa using ho
    · rw [hv']; simp
end Go.Proofs.Ytnnkgjaahmflmaa
