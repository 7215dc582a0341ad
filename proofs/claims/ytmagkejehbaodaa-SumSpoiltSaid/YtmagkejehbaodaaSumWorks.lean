/- works() of brickyardlaw02 is true; the statements over numbers and parts. -/
import Derived.Test.YtmagkejehbaodaaSumRef
import Derived.Test.YtmagkejehbaodaaSumCat
namespace Go.Proofs.Ytmagkejehbaodaa
open Go.RowKit

set_option maxHeartbeats 1000000 in
theorem works_calls {J : Jm} {w : World} (hI : Inv J w) : Calls Try.prog 9 #[] w fun e w' => e = .returned (.bool true) ∧ Below w.heap.size w w' := by
  have h1 : more 0 [49, 50, 51, 52, 53, 54, 55, 56, 57] = 3421780262 := by decide +kernel
  have H1 := Lib.hid h1
  clear h1
  have kc := fun (w : World) (C : Array Value) (n c : Nat) => Lib.run_convert_bytes_const (P := Try.prog) w 23 5 C n c Try.underlying23 Try.underlying5
  go_enter Try.func9, Try.ntmps9
  go_wp2_with (first | (go_at_call 10; go_must (have hE1 := (Ext.refl hI).lit 5 [97, 67, 190, 183, 232]; refine (open_yes hE1.inv (Bs.of_block (l := [97, 67, 190, 183, 232]) _ rfl (by decide)) (by decide) (by decide +kernel)).mono ?_; rintro e w1 ⟨v1, J1, rfl, hE2, ho, -⟩; have HE := Lib.hid (hE1.trans hE2); have HO := Lib.hid ho; clear hE1 hE2 ho)) | (go_at_call 11; go_must (have hE1 := HE.out.litF 5 [49, 50, 51, 52, 53, 54, 55, 56, 57] (9, 10); refine (of_calls hE1.inv (Bs.of_block (l := [49, 50, 51, 52, 53, 54, 55, 56, 57]) _ rfl (by decide))).mono ?_; rw [H1.out]; rintro e w2 ⟨rfl, hb2⟩; have HE2 := Lib.hid (hE1.trans (Ext.of_below hE1.inv hb2)); have HO2 := Lib.hid ((HO.out.bs).mono (by exact ((Ext.refl HE.out.inv).litF 5 [49, 50, 51, 52, 53, 54, 55, 56, 57] (9, 10)).le HE.out.inv)); clear hE1 hb2)) | (go_at_call 13; go_must (have hE1 := HE2.out.litF 5 [97] (1, 2); refine (equal_calls hE1.inv (l := [97]) (k := [97]) (HO2.out.mono (((Ext.refl HE2.out.inv).litF 5 [97] (1, 2)).le HE2.out.inv)) (Bs.of_block (l := [97]) _ rfl (by decide))).mono ?_; rintro e w3 ⟨rfl, rfl⟩; have HE3 := Lib.hid hE1; clear hE1)))
  go_ret
  exact ⟨rfl, HE3.out.below⟩
end Go.Proofs.Ytmagkejehbaodaa
