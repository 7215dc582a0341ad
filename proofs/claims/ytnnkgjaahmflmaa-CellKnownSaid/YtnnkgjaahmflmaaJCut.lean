/- A row of the call's own, cut short. -/
import Derived.Test.YtnnkgjaahmflmaaJLib
namespace Go.Proofs.Ytnnkgjaahmflmaa
open Go.RowKit

theorem Own.cut {J : Jm} {w : World} {base : Nat} {T : TypeId} {v : Value} {n : Nat} {cs : List Value} (h : Own J w base T 1 v n cs) (k : Nat) (hk : k ≤ n) (hn : 0 < n) :
    ∃ g cap, v = .slice (some ⟨g, 0, none⟩) n cap ∧ base ≤ g ∧ n ≤ cap ∧ cap ≤ maxLen ∧ Own (J.put g (cs.take k)) w base T 1 (.slice (some ⟨g, 0, none⟩) k cap) k (cs.take k) ∧ J g = cs ∧ (cs.take k).length = k ∧
      ∃ cur, w.heap[g]? = some (.cells cur T (0, 0)) ∧ cs.take k <+: cur.toList := by
  obtain ⟨⟨hl, hv⟩, hJ⟩ := h
  rcases hv with ⟨rfl, rfl⟩ | ⟨g, cap, cur, rfl, hb, hg, hnc, hm, hsz, htk⟩
  · omega
  · have hlk : (cs.take k).length = k := by rw [List.length_take, hl]; omega
    have hpre : cs.take k = cur.toList.take k := by rw [← htk, List.take_take]; congr 1; omega
    refine ⟨g, cap, rfl, hb, hnc, hm, ⟨⟨by rw [hlk]; omega, .inr ⟨g, cap, cur, rfl, hb, hg, by omega, hm, hsz, ?_⟩⟩, ?_⟩, hJ g rfl, hlk, cur, hg, ?_⟩
    · rw [Nat.mul_one]; exact hpre.symm
    · intro b e
      simp [Value.ownBlock] at e
      subst e
      exact Jm.put_same _ _ _
    · rw [hpre]; exact List.take_prefix _ _
theorem Ext.cleared {J J1 J2 : Jm} {w w1 w2 : World} (h : Ext J w J1 w1) {base : Nat} {T : TypeId} {v : Value} {n : Nat} {cs : List Value} (ho : Own J1 w1 base T 1 v n cs) (hb : w.heap.size ≤ base)
    (hI : Inv J2 w2) (hg : w1.grownBy w2 v.ownBlock) (hj : ∀ b, some b ≠ v.ownBlock → J2 b = J1 b) : Ext J w J2 w2 := by
  have hne : ∀ b, b < w.heap.size → some b ≠ v.ownBlock := fun b hlt e => by have := (ho.lt b e.symm).1; omega
  exact ⟨h.below.grown hg h.below.size (fun k hk => Nat.le_trans hb (ho.lt k hk).1), hI, fun b hlt => (hj b (hne b hlt)).trans (h.old b hlt)⟩
theorem bcs_cut (l k : List UInt8) : (bcs l ++ bcs k).take l.length = bcs l := by
  rw [List.take_append_of_le_length (by simp), List.take_of_length_le (by simp)]
end Go.Proofs.Ytnnkgjaahmflmaa
