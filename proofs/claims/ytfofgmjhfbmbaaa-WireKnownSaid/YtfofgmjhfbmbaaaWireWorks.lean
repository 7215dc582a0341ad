/- works of the statements of package wire. -/
import Derived.Test.YtfofgmjhfbmbaaaWireF
import Derived.Test.YtfofgmjhfbmbaaaLSEq
namespace Go.Proofs.Ytfofgmjhfbmbaaa
open Go.RowKit

theorem uv300 : uv 300 = [172, 2] := by rw [uv_ge (by decide), uv_lt (by decide)]; decide
theorem ul_a : ul [[97], []] = [2, 1, 97, 0] := by
  simp only [ul, uts, ut, List.length_cons, List.length_nil, List.map_cons, List.map_nil, List.flatten_cons, List.flatten_nil]
  rw [uv_lt (by decide), uv_lt (by decide), uv_lt (by decide)]; decide
theorem rd_works : askU [172, 2, 2, 1, 97, 0] 1000 = .ok (300, 2) := by
  unfold askU
  have h := rdU_uv (n := 300) (by decide) [2, 1, 97, 0]
  rw [uv300] at h
  rw [show ([172, 2, 2, 1, 97, 0] : List UInt8) = [172, 2] ++ [2, 1, 97, 0] from rfl, h]
  rfl
theorem rdL_works : rdL [2, 1, 97, 0] 9 9 = .ok ([[97], []], 4) := by
  have h := rdL_ul (ls := [[97], []]) (by decide) (most := 9) (longest := 9) (by decide) (by decide) []
  rw [ul_a] at h
  exact h
theorem Ss.of_block (J : Jm) {g : Nat} {l : List (List UInt8)} {n : Nat} (hn : l.length = n) (hm : n ≤ maxLen) : Ss (J.put g (scs l)) (.slice (some ⟨g, 0, none⟩) n n) l := by
  subst hn
  exact Sl.of_block J (by simp) hm
set_option maxRecDepth 100000 in
set_option maxHeartbeats 4000000 in
theorem works_calls {J : Jm} {w : World} (hI : Inv J w) :
    Calls Try.prog 9 #[] w fun e w' => ∃ J', e = .returned (.bool true) ∧ Ext J w J' w' := by
  have hu := uv300
  have hl := ul_a
  have HU := Lib.hid hu
  have HL := Lib.hid hl
  clear hu hl
  go_enter Try.func9, Try.ntmps9
  go_wp2_with (first | (go_at_call 14; go_must (have hE1 := (Ext.refl hI).lit 5 [172, 2, 2, 1, 97, 0]; refine (new_calls hE1.inv (Bs.of_block (l := [172, 2, 2, 1, 97, 0]) _ rfl (by decide)) (by decide)).mono ?_; rintro e w1 ⟨g, rfl, hg, hE, hC⟩; have HE1 := Lib.hid (hE1.trans hE); have HC1 := Lib.hid hC; have HG : Hid (w.heap.size ≤ g) := by { have h1 := hE1.below.size; rw [Hid]; omega }; clear hE hC hE1 hg)) | (go_at_call 11; go_must (refine (putUint_calls HE1.out.inv 300 (by decide)).mono ?_; rintro e w2 ⟨v2, J2, rfl, hE, hO⟩; have HE2 := Lib.hid (HE1.out.trans hE); have HC2 := Lib.hid (HC1.out.ext hE); have HB2 := Lib.hid hO.bs; clear hE hO)) | (go_at_call 10; have mark := HB4; go_must (have hE1 := HE4.out.lit 5 [2, 1, 97, 0]; have hx := (Ext.refl HE4.out.inv).lit 5 [2, 1, 97, 0]; refine (equal_calls hE1.inv (l := ul [[97], []]) (k := [2, 1, 97, 0]) (HB4.out.mono (hx.le HE4.out.inv)) (Bs.of_block (l := [2, 1, 97, 0]) _ rfl (by decide))).mono ?_; rw [show (ul [[97], []] == [2, 1, 97, 0]) = true by (rw [HL.out]; decide)]; rintro e w5 ⟨rfl, hw⟩; rw [hw] at hE1 hx; clear hw; have HE5 := Lib.hid hE1; have HC5 := Lib.hid (HC4.out.ext hx); clear hE1 hx mark)) | (go_at_call 10; go_must (have hE1 := HE2.out.lit 5 [172, 2]; have hx := (Ext.refl HE2.out.inv).lit 5 [172, 2]; refine (equal_calls hE1.inv (l := uv 300) (k := [172, 2]) (HB2.out.mono (hx.le HE2.out.inv)) (Bs.of_block (l := [172, 2]) _ rfl (by decide))).mono ?_; rw [show (uv 300 == [172, 2]) = true by (rw [HU.out]; decide)]; rintro e w3 ⟨rfl, hw⟩; rw [hw] at hE1 hx; clear hw; have HE3 := Lib.hid hE1; have HC3 := Lib.hid (HC2.out.ext hx); clear hE1 hx)) | (go_at_call 13; go_must (have hE1 := HE3.out.litV 9 (scs [[97], []]); have hx := (Ext.refl HE3.out.inv).litV 9 (scs [[97], []]); refine (putList_calls hE1.inv (ls := [[97], []]) (Ss.of_block (l := [[97], []]) _ rfl (by decide)) (by rw [HL.out]; decide)).mono ?_; rintro e w4 ⟨v4, J4, rfl, hE, hO⟩; have HE4 := Lib.hid (hE1.trans hE); have HC4 := Lib.hid ((HC3.out.ext hx).ext hE); have HB4 := Lib.hid hO.bs; clear hE hO hE1 hx)) | (go_at_call 15; go_must (have hr := rd_works; refine (Uint_calls HE5.out.inv HC5.out 1000 (by decide)).mono ?_; rw [show (([172, 2, 2, 1, 97, 0] : List UInt8).drop 0) = [172, 2, 2, 1, 97, 0] from rfl, hr]; rintro e w6 ⟨k', ⟨rfl, hk⟩, hM, hC⟩; have hk := hk.symm; subst hk; have HE6 := Lib.hid (HE5.out.moved hM (by intro b h1 h2; have := HG.out; omega)); have HC6 := Lib.hid hC; clear hM hC hr)) | (go_at_call 17; go_must (have hr := rdL_works; refine (List_calls HE6.out.inv HC6.out (by decide) 9 9 (by decide) (by decide) (by decide) (by decide)).mono ?_; rw [show (([172, 2, 2, 1, 97, 0] : List UInt8).drop (0 + 2)) = [2, 1, 97, 0] from rfl, hr]; rintro e w7 ⟨k', J7, ⟨⟨v7, rfl, hS⟩, hk⟩, hM, hC⟩; have hk := hk.symm; subst hk; have HE7 := Lib.hid (HE6.out.moved hM (by intro b h1 h2; have := HG.out; omega)); have HC7 := Lib.hid hC; have HS7 := Lib.hid hS; clear hM hC hr hS)) | (go_at_call 21; go_must (have hE1 := HE7.out.litV 9 (scs [[97], []]); have hx := (Ext.refl HE7.out.inv).litV 9 (scs [[97], []]); refine (sequal_calls hE1.inv (l := [[97], []]) (k := [[97], []]) (HS7.out.mono (hx.le HE7.out.inv)) (Ss.of_block (l := [[97], []]) _ rfl (by decide))).mono ?_; rintro e w8 ⟨rfl, hB⟩; have HE8 := Lib.hid (hE1.step hB); have HC8 := Lib.hid ((HC7.out.ext hx).ext (Ext.of_below hE1.inv hB)); clear hB hE1 hx)) | (go_at_call 18; go_must (refine (at_calls HC8.out).mono ?_; rintro e w9 ⟨rfl, rfl⟩)) | (go_at_call 19; go_must (refine (left_calls HC8.out).mono ?_; rintro e w10 ⟨rfl, hB⟩; have HE10 := Lib.hid (HE8.out.step hB); clear hB)))
  go_ret
  exact ⟨_, rfl, HE10.out⟩
end Go.Proofs.Ytfofgmjhfbmbaaa
