/- slices.Clone, of strings, makes a row of the call's own. -/
import Derived.Test.YtldicbhjmjjfbaaJStr
import Derived.WalkSpells
namespace Go.Proofs.Ytldicbhjmjjfbaa
open Go.RowKit

set_option maxHeartbeats 1000000 in
theorem strclone_calls {J : Jm} {w : World} (hI : Inv J w) {v : Value} {l : List (List UInt8)} (hb : Ss J v l) (hl : l.length ≤ 8796093022208) :
    Calls Try.prog 41 #[v] w fun e w' => ∃ v' J', e = .returned v' ∧ Ext J w J' w' ∧ Own J' w' w.heap.size 9 1 v' l.length (scs l) ∧ (v' = .slice none 0 0 ↔ v = .slice none 0 0) := by
  obtain ⟨A, c, rfl, hn, hm⟩ := hb.form
  have hm' := hm
  unfold maxLen at hm'
  cases A with
  | none =>
    have h0 : c = 0 := by obtain ⟨_, A, c', hv, _, _, h0, _⟩ := hb; cases hv; exact h0 rfl
    subst h0
    have hl0 : l = [] := List.eq_nil_of_length_eq_zero (by omega)
    subst hl0
    have hq := fun (W : World) => Lib.run_eql_slice_nil (P := Try.prog) W 24 9 none 0 0 0 0 Try.underlying24
    go_enter Try.func41, Try.ntmps41
    go_wp2
    go_ret
    exact ⟨_, J, rfl, Ext.refl hI, Own.nil _ _ _ _ _, by simp⟩
  | some a =>
    have hq := fun (W : World) => Lib.run_eql_slice_nil (P := Try.prog) W 24 9 (some a) l.length c 0 0 Try.underlying24
    go_enter Try.func41, Try.ntmps41
    go_wp2_with (first | (at_builtin; go_must (refine wpList_append_J (J := J) (s := .tmp 5) (x := .tmp 6) (t := 24) (e := 9) (base := w.heap.size) (v := .slice (some ⟨w.heap.size, 0, none⟩) 0 0) (n := 0) (xs := []) rfl (.string (strB [])) 1 16 rfl Try.underlying24 info_str rfl rfl (hI.alloc _) (Own.made hI _ _ 1 #[] 0 (Nat.le_refl _) (by decide) rfl) rfl hb (scs_one l) (by simp only [maxLen]; omega) (by omega) (by simp) ?_; intro v' w' J' ho hg hv')))
    go_ret
    have hE : Ext J w J' w' := ((Ext.refl hI).alloc _).grew (Own.made hI _ _ 1 #[] 0 (Nat.le_refl _) (by decide) rfl) hg
    refine ⟨v', J', rfl, hE, ?_, ?_⟩
    · simpa using ho
    · rw [hv']; simp

end Go.Proofs.Ytldicbhjmjjfbaa
