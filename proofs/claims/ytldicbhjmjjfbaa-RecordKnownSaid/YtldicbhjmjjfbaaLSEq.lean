/- slices.Equal of strings. -/
import Derived.Test.YtldicbhjmjjfbaaJStr
import Derived.WalkSpells
namespace Go.Proofs.Ytldicbhjmjjfbaa
open Go.RowKit

theorem _root_.Go.RowKit.Below.drews {B : Nat} {a w : World} (h : Below B a w) (n : Nat) : Below B a (w.drewN n) := ⟨h.os, h.tape, h.output, h.size, h.block⟩
theorem strB_beq (a b : List UInt8) : ((strB a).toList == (strB b).toList) = (a == b) := by rw [strB_toList, strB_toList]
set_option maxHeartbeats 1000000 in
theorem sequal_calls {J : Jm} {w : World} (hI : Inv J w) {v u : Value} {l k : List (List UInt8)} (hb : Ss J v l) (hc : Ss J u k) :
    Calls Try.prog 26 #[v, u] w fun e w' => e = .returned (.bool (decide (l = k))) ∧ Below w.heap.size w w' := by
  obtain ⟨A, c, rfl, hn, hm⟩ := hb.form
  obtain ⟨A', c', rfl, hn', hm'⟩ := hc.form
  unfold maxLen at hm hm'
  go_enter Try.func26, Try.ntmps26
  by_cases hlen : l.length = k.length
  · have hlenI : (l.length : Int) = k.length := by omega
    go_wp2
    go_loopw [13] (fun i wr => ∃ (j : Nat), j ≤ l.length ∧ i = .int .i64 j ∧ Hid (l.take j = k.take j) ∧ Below w.heap.size w wr) (fun i _ => l.length - (intOf i).toNat)
    case atStart => exact ⟨0, by omega, rfl, by simp [Hid], Below.refl _ _⟩
    case round =>
      obtain ⟨j, hj, rfl, HT, hB⟩ := hrel
      have HB := Lib.hid hB
      have hIr := hI.below hB
      clear hB
      by_cases hlt : j < l.length
      · obtain ⟨b, o, rfl, hx⟩ := hb.cell hIr hlt
        obtain ⟨b', o', rfl, hy⟩ := hc.cell hIr (show j < k.length by omega)
        have i0 : (0 : Int) ≤ (j : Int) := by omega
        have i1 : (j : Int) < l.length := by omega
        have i2 : (j : Int) < k.length := by omega
        have hs := strB_beq l[j] k[j]
        by_cases he : l[j] = k[j]
        · have hs2 : ((strB l[j]).toList == (strB k[j]).toList) = true := by rw [hs]; simp [he]
          have HT2 : Hid (l.take (j + 1) = k.take (j + 1)) := by rw [Hid, List.take_succ_eq_append_getElem hlt, List.take_succ_eq_append_getElem (show j < k.length by omega), HT.out, he]
          clear hs
          generalize l[j] = s1 at *
          generalize k[j] = s2 at *
          go_wp2
          go_quiet (fail)
          go_wp2
          go_roundw
          case rel => exact ⟨j + 1, by omega, by go_num, HT2, HB.out.drews _⟩
          case measure => simp [intOf]; omega
        · have hs2 : ((strB l[j]).toList == (strB k[j]).toList) = false := by rw [hs]; simp [he]
          have HN : Hid (l ≠ k) := by intro h; subst h; exact he rfl
          clear hs he
          generalize l[j] = s1 at *
          generalize k[j] = s2 at *
          go_wp2
          go_quiet (fail)
          go_wp2
          go_ret
          exact ⟨by rw [decide_eq_false HN.out]; rfl, HB.out.drews _⟩
      · obtain rfl : j = l.length := by omega
        have HE : Hid (l = k) := by
          have h1 := HT.out
          rw [List.take_length, hlen, List.take_length] at h1
          exact h1
        go_wp2
        go_ret
        exact ⟨by rw [decide_eq_true HE.out]; rfl, HB.out⟩
  · have hlenI : ¬ (l.length : Int) = k.length := by omega
    have HN : Hid (l ≠ k) := by intro h; subst h; exact hlen rfl
    go_wp2
    go_ret
    exact ⟨by rw [decide_eq_false HN.out]; rfl, Below.refl _ _⟩
end Go.Proofs.Ytldicbhjmjjfbaa
