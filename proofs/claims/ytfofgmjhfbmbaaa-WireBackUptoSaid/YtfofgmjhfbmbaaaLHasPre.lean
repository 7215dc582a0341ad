/- bytes.HasPrefix. -/
import Derived.Test.YtfofgmjhfbmbaaaLEqual
import Derived.WalkSpells
import Derived.StillTailTactics
namespace Go.Proofs.Ytfofgmjhfbmbaaa
open Go.RowKit

set_option maxHeartbeats 1000000 in
theorem hasprefix_calls {J : Jm} {w : World} (hI : Inv J w) {v u : Value} {l k : List UInt8} (hb : Bs J v l) (hc : Bs J u k) :
    Calls Try.prog 20 #[v, u] w fun e w' => e = .returned (.bool (decide (k <+: l))) ∧ w' = w := by
  obtain ⟨A, c, rfl, hn, hm⟩ := hb.form
  obtain ⟨A', c', rfl, hn', hm'⟩ := id hc.form
  unfold maxLen at hm hm'
  have HC := Lib.hid hc
  have HB := Lib.hid hb
  by_cases hlen : k.length ≤ l.length
  · have hl2 : (k.length : Int) ≤ l.length := by omega
    have ht := hb.take k.length hlen
    have hP : (l.take k.length == k) = decide (k <+: l) := by
      rw [Bool.eq_iff_iff, beq_iff_eq, decide_eq_true_iff]
      exact ⟨fun h => h ▸ List.take_prefix _ _, fun h => (List.prefix_iff_eq_take.1 h).symm⟩
    have HP := Lib.hid hP
    have hkl : (l.take k.length).length = k.length := by simp [hlen]
    clear hb hc hP
    go_enter Try.func20, Try.ntmps20
    go_wp2_with (go_at_call 10; go_must (refine (equal_calls hI ht HC.out).mono ?_; rintro e w1 ⟨rfl, rfl⟩))
    go_ret
    exact ⟨by rw [← HP.out]; rfl, rfl⟩
  · have hl2 : ¬ (k.length : Int) ≤ l.length := by omega
    have HN : Hid (¬ k <+: l) := fun h => hlen h.length_le
    clear hb hc
    go_enter Try.func20, Try.ntmps20
    go_wp2
    go_ret
    exact ⟨by rw [decide_eq_false HN.out]; rfl, rfl⟩
end Go.Proofs.Ytfofgmjhfbmbaaa
