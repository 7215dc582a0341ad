/- SumKnown: the document's examples. The walk of the statement. -/
import Derived.Test.YtmagkejehbaodaaSumWorks
namespace Go.Proofs.Ytmagkejehbaodaa
open Go.RowKit

set_option maxHeartbeats 4000000 in
theorem sumKnown_walk {J : Jm} {w : World} (hI : Inv J w) : Calls Try.prog 3 #[] w fun e w' => e = .returned (.bool true) ∧ Below w.heap.size w w' := by
  have h1 : more 0 [49, 50, 51, 52] = 2615402659 := by decide +kernel
  have h2 : more 2615402659 [53, 54, 55, 56, 57] = 3421780262 := by decide +kernel
  have h3 : more 0 [97] = 3904355907 := by decide +kernel
  have h4 : sealed [97] = [97, 67, 190, 183, 232] := by decide +kernel
  have H1 := Lib.hid h1
  have H2 := Lib.hid h2
  have H3 := Lib.hid h3
  have H4 := Lib.hid h4
  clear h1 h2 h3 h4
  have kc := fun (w : World) (C : Array Value) (n c : Nat) => Lib.run_convert_bytes_const (P := Try.prog) w 23 5 C n c Try.underlying23 Try.underlying5
  go_enter Try.func3, Try.ntmps3
  go_wp2_with fail
  refine (works_calls hI).mono ?_
  rintro e w1 ⟨rfl, hb1⟩
  have HE1 := Lib.hid ((Ext.refl hI).step hb1)
  clear hb1
  go_wp2_with fail
  have hE2 := HE1.out.lit 5 [98, 67, 190, 183, 232]
  refine (open_no hE2.inv (Bs.of_block (l := [98, 67, 190, 183, 232]) _ rfl (by decide)) (by decide) (by decide +kernel)).mono ?_
  rintro e w2 ⟨rfl, hb2⟩
  have HE2 := Lib.hid (hE2.step hb2)
  clear hE2 hb2
  go_wp2_with fail
  have hE2 := HE2.out.lit 5 [0, 0, 0]
  refine (open_no hE2.inv (Bs.of_block (l := [0, 0, 0]) _ rfl (by decide)) (by decide) (by decide +kernel)).mono ?_
  rintro e w3 ⟨rfl, hb2⟩
  have HE3 := Lib.hid (hE2.step hb2)
  clear hE2 hb2
  go_wp2_with fail
  have hE2 := HE3.out.lit 5 [0, 0, 0, 0]
  refine (open_yes hE2.inv (Bs.of_block (l := [0, 0, 0, 0]) _ rfl (by decide)) (by decide) (by decide +kernel)).mono ?_
  rintro e w4 ⟨v4, J4, rfl, hE4, ho4, -⟩
  have HE4 := Lib.hid (hE2.trans hE4)
  obtain ⟨A4, c4, rfl, hn4, hm4⟩ := ho4.sl.form
  simp only [List.length_cons, List.length_nil, Nat.reduceAdd, Nat.reduceSub] at hn4 ⊢
  clear hE2 hE4 ho4
  go_wp2_with fail
  refine (of_calls HE4.out.inv (Bs.nil _)).mono ?_
  rw [more_nil]
  rintro e w5 ⟨rfl, hb5⟩
  have HE5 := Lib.hid (HE4.out.step hb5)
  clear hb5
  go_wp2_with fail
  have hE6 := HE5.out.litF 5 [97] (1, 2)
  refine (of_calls hE6.inv (Bs.of_block (l := [97]) _ rfl (by decide))).mono ?_
  rw [H3.out]
  rintro e w6 ⟨rfl, hb6⟩
  have HE6 := Lib.hid (hE6.step hb6)
  clear hE6 hb6
  go_wp2_with fail
  have hE7 := HE6.out.litF 5 [49, 50, 51, 52] (4, 5)
  refine (of_calls hE7.inv (Bs.of_block (l := [49, 50, 51, 52]) _ rfl (by decide))).mono ?_
  rw [H1.out]
  rintro e w7 ⟨rfl, hb7⟩
  have HE7 := Lib.hid (hE7.step hb7)
  clear hE7 hb7
  go_wp2_with fail
  have hE8 := HE7.out.litF 5 [53, 54, 55, 56, 57] (5, 6)
  refine (more_calls hE8.inv 2615402659 (by decide) (Bs.of_block (l := [53, 54, 55, 56, 57]) _ rfl (by decide))).mono ?_
  rw [H2.out]
  rintro e w8 ⟨rfl, hb8⟩
  have HE8 := Lib.hid (hE8.step hb8)
  clear hE8 hb8
  go_wp2_with fail
  have hE9 := HE8.out.litF 5 [97] (1, 2)
  refine (seal_calls hE9.inv (Bs.of_block (l := [97]) _ rfl (by decide)) (by decide)).mono ?_
  rw [H4.out]
  rintro e w9 ⟨g, J9, rfl, hE, hg, hb9, hJ9⟩
  have hE' := hE.put hg hb9 (cs := bcs [97, 67, 190, 183, 232]) (by simp)
  have hs9 : Bs (J9.put g (bcs [97, 67, 190, 183, 232])) (.slice (some ⟨g, 0, none⟩) ([97].length + 4) ([97].length + 4)) [97, 67, 190, 183, 232] := Bs.of_block J9 rfl (by decide)
  have HE9 := Lib.hid (hE9.trans hE')
  clear hE9 hE hE' hg hb9 hJ9
  go_wp2_with fail
  have hE10 := HE9.out.lit 5 [97, 67, 190, 183, 232]
  refine (equal_calls hE10.inv (hs9.mono (Jm.le_new HE9.out.inv _)) (Bs.of_block (l := [97, 67, 190, 183, 232]) _ rfl (by decide))).mono ?_
  rintro e w10 ⟨rfl, rfl⟩
  have HE10 := Lib.hid hE10
  clear hE10 hs9
  go_wp2_with fail
  go_ret
  exact ⟨rfl, HE10.out.below⟩
end Go.Proofs.Ytmagkejehbaodaa
