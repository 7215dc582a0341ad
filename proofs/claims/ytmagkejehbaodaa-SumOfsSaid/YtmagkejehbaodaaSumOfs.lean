/- SumOfs: the sum of any bytes, and sealed bytes, are what the register says. The walk of the statement. -/
import Derived.Test.YtmagkejehbaodaaSumWorks
namespace Go.Proofs.Ytmagkejehbaodaa
open Go.RowKit

set_option maxHeartbeats 2000000 in
theorem sumOfs_walk {J : Jm} {w : World} (hI : Inv J w) {v : Value} {l : List UInt8} (hb : Bs J v l) (_ : l.length ≤ 140737488351232) :
    Calls Try.prog 6 #[v] w fun e w' => e = .returned (.bool true) ∧ Below w.heap.size w w' := by
  obtain ⟨A, c, rfl, hn, hm⟩ := hb.form
  unfold maxLen at hm
  by_cases h1 : l.length ≤ 3000
  · go_enter Try.func6, Try.ntmps6
    go_wp2_with fail
    refine (works_calls hI).mono ?_
    rintro e w1 ⟨rfl, hb1⟩
    have HE1 := Lib.hid ((Ext.refl hI).step hb1)
    clear hb1
    go_wp2_with fail
    refine (sclone_calls HE1.out.inv hb (by omega)).mono ?_
    rintro e w2 ⟨v2, J2, rfl, hE2, ho2, -⟩
    have HE2 := Lib.hid (HE1.out.trans hE2)
    have hv2 := ho2.bs
    have hl2 := HE2.out.bs hI hb
    clear hE2 ho2
    obtain ⟨A2, c2, rfl, hn2, hm2⟩ := hv2.form
    unfold maxLen at hm2
    go_wp2_with fail
    refine (seal_calls HE2.out.inv hv2 (by omega)).mono ?_
    rintro e w3 ⟨g, J3, rfl, hE3, hg3, hb3, hJ3⟩
    have hE3' := hE3.put hg3 hb3 (cs := bcs (sealed l)) (by simp)
    have hv3 := hE3'.bs HE2.out.inv hv2
    have hl3 := hE3'.bs HE2.out.inv hl2
    have hs3 : Bs (J3.put g (bcs (sealed l))) (.slice (some ⟨g, 0, none⟩) (l.length + 4) (l.length + 4)) (sealed l) := Bs.of_block J3 (sealed_length l) (by simp only [maxLen]; omega)
    have HE3 := Lib.hid (HE2.out.trans hE3')
    clear hE3 hg3 hb3 hJ3 hE3'
    go_wp2_with fail
    refine (of_calls HE3.out.inv hv3).mono ?_
    rintro e w4 ⟨rfl, hb4⟩
    have HE4 := Lib.hid (HE3.out.step hb4)
    clear hb4
    go_wp2_with fail
    refine (refof_calls HE4.out.inv hl3).mono ?_
    rintro e w5 ⟨rfl, rfl⟩
    go_wp2_with fail
    refine (refseal_calls HE4.out.inv hl3 (by omega)).mono ?_
    rintro e w5 ⟨v5, J5, rfl, hE5, ho5⟩
    have hv5 := ho5.bs
    have hv5' := hE5.bs HE4.out.inv hv3
    have hl5 := hE5.bs HE4.out.inv hl3
    have hs5 := hE5.bs HE4.out.inv hs3
    have HE5 := Lib.hid (HE4.out.trans hE5)
    clear hE5 ho5
    go_wp2_with fail
    refine (equal_calls HE5.out.inv hs5 hv5).mono ?_
    rintro e w6 ⟨rfl, rfl⟩
    go_wp2_with fail
    refine (equal_calls HE5.out.inv hv5' hl5).mono ?_
    rintro e w6 ⟨rfl, rfl⟩
    go_wp2_with fail
    go_ret
    exact ⟨by simp, HE5.out.below⟩
  · go_enter Try.func6, Try.ntmps6
    go_wp2_with (go_at_call 9; go_must (refine (works_calls hI).mono ?_; rintro e w1 ⟨rfl, hb1⟩))
    go_ret
    exact ⟨rfl, hb1⟩
end Go.Proofs.Ytmagkejehbaodaa
