/- SumMore: a sum goes part by part. The walk of the statement. -/
import Derived.Test.YtmagkejehbaodaaSumWorks
namespace Go.Proofs.Ytmagkejehbaodaa
open Go.RowKit

theorem BsL.two {J : Jm} {w : World} (hI : Inv J w) {va vb : Value} {a b : List UInt8} (ha : Bs J va a) (hb : Bs J vb b) : BsL (J.put w.heap.size [va, vb]) (.slice (some ⟨w.heap.size, 0, none⟩) 2 2) [a, b] := by
  have hle := Jm.le_new hI [va, vb]
  refine ⟨[va, vb], Sl.of_block J (size := 1) rfl (by decide), fun i x hx => ?_⟩
  rcases i with _ | _ | i
  · simp at hx; subst hx; exact ⟨va, rfl, ha.mono hle⟩
  · simp at hx; subst hx; exact ⟨vb, rfl, hb.mono hle⟩
  · simp at hx
set_option maxHeartbeats 2000000 in
theorem sumMore_walk {J : Jm} {w : World} (hI : Inv J w) (s : Nat) (hs : s < 4294967296) {va : Value} {a : List UInt8} (ha : Bs J va a) (_ : a.length ≤ 140737488351232) {vb : Value} {b : List UInt8} (hb : Bs J vb b) (_ : b.length ≤ 140737488351232) :
    Calls Try.prog 8 #[.int .u32 s, va, vb] w fun e w' => e = .returned (.bool true) ∧ Below w.heap.size w w' := by
  obtain ⟨A, c, rfl, hn, hm⟩ := ha.form
  obtain ⟨B, d, rfl, hn', hm'⟩ := hb.form
  unfold maxLen at hm hm'
  by_cases h1 : a.length ≤ 3000
  · by_cases h2 : b.length ≤ 3000
    · have hab : total [a, b] ≤ 140737488355328 := by simp [total]; omega
      have hfl : [a, b].flatten = a ++ b := by simp
      have HAB := Lib.hid hab
      have HFL := Lib.hid hfl
      clear hab hfl
      go_enter Try.func8, Try.ntmps8
      go_wp2_with fail
      refine (works_calls hI).mono ?_
      rintro e w1 ⟨rfl, hb1⟩
      go_wp2_with fail
      have hE1 := ((Ext.refl hI).step hb1).litV 23 [.slice A a.length c, .slice B b.length d]
      refine (concat_calls hE1.inv (BsL.two (hI.below hb1) ha hb) HAB.out).mono ?_
      rintro e w2 ⟨v2, J2, rfl, hE2, ho2⟩
      rw [HFL.out] at ho2
      have hE := hE1.trans hE2
      have hv2 := ho2.bs
      have ha2 := hE.bs hI ha
      have hb2 := hE.bs hI hb
      have HE := Lib.hid hE
      clear hE1 hE2 ho2 hE hb1
      go_wp2_with fail
      refine (more_calls HE.out.inv s hs ha2).mono ?_
      rintro e w3 ⟨rfl, hb3⟩
      have HE3 := Lib.hid (HE.out.step hb3)
      clear hb3
      go_wp2_with fail
      refine (more_calls HE3.out.inv _ (more_lt hs a) hb2).mono ?_
      rintro e w4 ⟨rfl, hb4⟩
      have HE4 := Lib.hid (HE3.out.step hb4)
      clear hb4
      go_wp2_with fail
      refine (more_calls HE4.out.inv s hs hv2).mono ?_
      rw [more_append]
      rintro e w5 ⟨rfl, hb5⟩
      have HE5 := Lib.hid (HE4.out.step hb5)
      clear hb5
      go_wp2_with fail
      refine (more_calls HE5.out.inv 0 (by decide) ha2).mono ?_
      rintro e w6 ⟨rfl, hb6⟩
      have HE6 := Lib.hid (HE5.out.step hb6)
      clear hb6
      go_wp2_with fail
      refine (of_calls HE6.out.inv ha2).mono ?_
      rintro e w7 ⟨rfl, hb7⟩
      have HE7 := Lib.hid (HE6.out.step hb7)
      clear hb7
      go_wp2_with fail
      refine (of_calls HE7.out.inv ha2).mono ?_
      rintro e w8 ⟨rfl, hb8⟩
      have HE8 := Lib.hid (HE7.out.step hb8)
      clear hb8
      go_wp2_with fail
      refine (more_calls HE8.out.inv _ (more_lt (by decide) a) hb2).mono ?_
      rintro e w9 ⟨rfl, hb9⟩
      have HE9 := Lib.hid (HE8.out.step hb9)
      clear hb9
      go_wp2_with fail
      refine (of_calls HE9.out.inv hv2).mono ?_
      rw [more_append]
      rintro e w10 ⟨rfl, hb10⟩
      have HE10 := Lib.hid (HE9.out.step hb10)
      clear hb10
      go_wp2_with fail
      refine (more_calls HE10.out.inv s hs (Bs.nil _)).mono ?_
      rw [more_nil]
      rintro e w11 ⟨rfl, hb11⟩
      have HE11 := Lib.hid (HE10.out.step hb11)
      clear hb11
      go_wp2_with fail
      go_ret
      exact ⟨rfl, HE11.out.below⟩
    · go_enter Try.func8, Try.ntmps8
      go_wp2_with (go_at_call 9; go_must (refine (works_calls hI).mono ?_; rintro e w1 ⟨rfl, hb1⟩))
      go_ret
      exact ⟨rfl, hb1⟩
  · go_enter Try.func8, Try.ntmps8
    go_wp2_with (go_at_call 9; go_must (refine (works_calls hI).mono ?_; rintro e w1 ⟨rfl, hb1⟩))
    go_ret
    exact ⟨rfl, hb1⟩
end Go.Proofs.Ytmagkejehbaodaa
