/- works of the statements of package cell. -/
import Derived.Test.YtnnkgjaahmflmaaCellCopy
import Derived.Test.YtnnkgjaahmflmaaCellSame
namespace Go.Proofs.Ytnnkgjaahmflmaa
open Go.RowKit
set_option linter.unusedVariables false

def wN : Nd := ⟨false, [⟨[98], [], 0, 0⟩], [5, 7]⟩
theorem wN_form : right wN = true ∧ form wN = [2, 1, 5, 0, 1, 98, 7, 0] := by constructor <;> kernel_rfl
theorem wN_wrong : wrong wN = 0 := by unfold wrong; rw [wN_form.1, wN_form.2]; rfl
theorem wN_page : page wN = [2, 1, 5, 0, 1, 98, 7, 0] ++ List.replicate 232 0 := by unfold page; rw [wN_form.2]; rfl
theorem sl_lit {J : Jm} {b size n : Nat} {cs : List Value} (hl : cs.length = n * size) (hm : n ≤ maxLen) : Sl (J.put b cs) size (.slice (some ⟨b, 0, none⟩) n n) n cs := by
  refine ⟨hl, some ⟨b, 0, none⟩, n, rfl, Nat.le_refl _, hm, fun e => (by cases e), fun a e => ?_⟩
  cases e
  right
  refine ⟨rfl, ?_⟩
  rw [Jm.put_same, List.drop_zero, List.take_of_length_le (by omega)]
theorem wN_get : gE (page wN) = 0 ∧ gN (page wN) = wN := by
  have h := getN_page wN_wrong
  unfold gE gN; rw [h]; exact ⟨rfl, rfl⟩
theorem wN_S : NdS wN := ⟨by decide, fun x hx => by
  have : x = ⟨[98], [], 0, 0⟩ := by simpa [wN] using hx
  subst this; exact ⟨by decide, by decide⟩⟩
set_option maxRecDepth 100000 in
set_option maxHeartbeats 8000000 in
theorem works_calls {J : Jm} {w : World} (hI : Inv J w) :
    Calls Try.prog 10 #[] w fun e w' => e = .returned (.bool true) ∧ Below w.heap.size w w' := by
  go_enter Try.func10, Try.ntmps10
  go_upto_region 2 with fail
  have hA := ((Ext.refl hI).litV 55 (clC wN.items)).litV 3 (kcs wN.kids)
  have hB := hA.alloc (.cells #[.bool false, .slice (some ⟨w.heap.size, 0, none⟩) 1 1, .slice (some ⟨w.heap.size + 1, 0, none⟩) 2 2] 25)
  have hs1 : (w.alloc (.cells (clC wN.items).toArray 55)).heap.size = w.heap.size + 1 := by simp
  have hs2 : ((w.alloc (.cells (clC wN.items).toArray 55)).alloc (.cells (kcs wN.kids).toArray 3)).heap.size = w.heap.size + 1 + 1 := by simp
  have hN := heap_alloc_new ((w.alloc (.cells (clC wN.items).toArray 55)).alloc (.cells (kcs wN.kids).toArray 3)) (.cells #[.bool false, .slice (some ⟨w.heap.size, 0, none⟩) 1 1, .slice (some ⟨w.heap.size + 1, 0, none⟩) 2 2] 25)
  rw [hs2] at hN
  rw [hs1] at hA hB
  have hV : NdV ((J.put w.heap.size (clC wN.items)).put (w.heap.size + 1) (kcs wN.kids)) (.agg #[.bool false, .slice (some ⟨w.heap.size, 0, none⟩) 1 1, .slice (some ⟨w.heap.size + 1, 0, none⟩) 2 2]) wN :=
    ⟨_, _, rfl, (sl_lit rfl (by decide)).mono (Jm.le_put (by rw [Jm.put_other _ _ _ (by omega), hI.nil (by omega)]; exact List.nil_prefix)), sl_lit rfl (by decide)⟩
  generalize ((J.put w.heap.size (clC wN.items)).put (w.heap.size + 1) (kcs wN.kids)) = J1 at *
  have HE := Lib.hid (show Ext J w J1 (((w.alloc (.cells #[.string ⟨#[98]⟩, .string ⟨#[]⟩, .int .i64 0, .int .i64 0] 55)).alloc (.cells #[.int .i64 5, .int .i64 7] 3)).alloc (.cells #[.bool false, .slice (some ⟨w.heap.size, 0, none⟩) 1 1, .slice (some ⟨w.heap.size + 1, 0, none⟩) 2 2] 25)) from hB)
  have HN := Lib.hid (show NBox (((w.alloc (.cells #[.string ⟨#[98]⟩, .string ⟨#[]⟩, .int .i64 0, .int .i64 0] 55)).alloc (.cells #[.int .i64 5, .int .i64 7] 3)).alloc (.cells #[.bool false, .slice (some ⟨w.heap.size, 0, none⟩) 1 1, .slice (some ⟨w.heap.size + 1, 0, none⟩) 2 2] 25)) (w.heap.size + 1 + 1) false (.slice (some ⟨w.heap.size, 0, none⟩) 1 1) (.slice (some ⟨w.heap.size + 1, 0, none⟩) 2 2) from hN)
  have HV := Lib.hid hV
  clear hA hB hN hV hs1 hs2
  generalize World.alloc (World.alloc (World.alloc w _) _) _ = W at *
  generalize w.heap.size + 1 + 1 = nb at *
  generalize hg1 : w.heap.size + 1 = b1 at *
  generalize hg0 : w.heap.size = b0 at HE HN HV ⊢
  have n0 := blk_cell_J HN.out 0 rfl
  have n1 := blk_cell_J HN.out 1 rfl
  have n2 := blk_cell_J HN.out 2 rfl
  go_wp2_with fail
  refine (Put_calls HE.out.inv HV.out wN_S).mono ?_
  rw [wN_wrong]
  rintro e w1 ⟨v1, J2, rfl, hE1, hO1⟩
  have hOP : outP wN = page wN := if_pos wN_wrong
  rw [hOP] at hO1
  have hpl : (page wN).length = 240 := page_len (wrong_right wN_wrong).2
  have HP := Lib.hid (Own.bs hO1)
  obtain ⟨A1, c1, rfl, hc1, hm1⟩ := HP.out.form
  rw [hpl] at HP hc1
  rw [hpl]
  unfold maxLen at hm1
  have HN := Lib.hid (HN.out.ext hE1)
  have HV := Lib.hid (HV.out.mono (hE1.le HE.out.inv))
  have HE := Lib.hid (HE.out.trans hE1)
  clear hE1 hO1 hOP n0 n1 n2
  go_wp2_with fail
  refine (Get_calls HE.out.inv HP.out (by rw [hpl]; decide)).mono ?_
  rintro e w2 ⟨vn, J3, rfl, hE2, hN2⟩
  rw [wN_get.1]
  rw [wN_get.2] at hN2
  obtain ⟨vi, vk, rfl, hoi, hok⟩ := hN2
  have HV2 := Lib.hid (show NdV J3 (.agg #[.bool wN.leaf, vi, vk]) wN from ⟨vi, vk, rfl, hoi.sl, hok.sl⟩)
  obtain ⟨Ai, ci, rfl, -, -⟩ := hoi.sl.form
  obtain ⟨Ak, ck, rfl, -, -⟩ := hok.sl.form
  have HN := Lib.hid (HN.out.ext hE2)
  have HV := Lib.hid (HV.out.mono (hE2.le HE.out.inv))
  have HP := Lib.hid (HP.out.mono (hE2.le HE.out.inv))
  have HE := Lib.hid (HE.out.trans hE2)
  clear hE2 hoi hok
  go_upto_region 4 with fail
  have HM := Lib.hid (show NBox (w2.alloc (.cells #[.bool wN.leaf, .slice Ai wN.items.length ci, .slice Ak wN.kids.length ck] 25)) w2.heap.size wN.leaf (.slice Ai wN.items.length ci) (.slice Ak wN.kids.length ck) from heap_alloc_new w2 _)
  have hX := (Ext.refl HE.out.inv).alloc (.cells #[.bool wN.leaf, .slice Ai wN.items.length ci, .slice Ak wN.kids.length ck] 25)
  have HN := Lib.hid (HN.out.ext hX)
  have HE := Lib.hid (HE.out.trans hX)
  clear hX
  generalize World.alloc w2 _ = W3 at *
  generalize w2.heap.size = mb at *
  have ht8 : (page wN).take 8 = [2, 1, 5, 0, 1, 98, 7, 0] := by rw [wN_page]; rfl
  have h8 := sub_to HP.out 8 (by rw [hpl]; decide)
  rw [ht8] at h8
  have hX := (Ext.refl HE.out.inv).lit 5 [2, 1, 5, 0, 1, 98, 7, 0]
  have H8 := Lib.hid (show Bs (J3.put W3.heap.size (bcs [2, 1, 5, 0, 1, 98, 7, 0])) (.slice A1 8 c1) [2, 1, 5, 0, 1, 98, 7, 0] from h8.mono (hX.le HE.out.inv))
  have HL8 := Lib.hid (show Bs (J3.put W3.heap.size (bcs [2, 1, 5, 0, 1, 98, 7, 0])) (.slice (some ⟨W3.heap.size, 0, none⟩) 8 8) [2, 1, 5, 0, 1, 98, 7, 0] from sl_lit rfl (by decide))
  have HX := Lib.hid (show Ext J3 W3 (J3.put W3.heap.size (bcs [2, 1, 5, 0, 1, 98, 7, 0])) (W3.alloc (.cells #[.int .u8 2, .int .u8 1, .int .u8 5, .int .u8 0, .int .u8 1, .int .u8 98, .int .u8 7, .int .u8 0] 5)) from hX)
  have HN4 := Lib.hid (HN.out.ext HX.out)
  have HM4 := Lib.hid (HM.out.ext HX.out)
  have HE4 := Lib.hid (HE.out.trans HX.out)
  have HV := Lib.hid (HV.out.mono (HX.out.le HE.out.inv))
  have HV2 := Lib.hid (HV2.out.mono (HX.out.le HE.out.inv))
  clear hX h8 ht8
  generalize J3.put W3.heap.size (bcs [2, 1, 5, 0, 1, 98, 7, 0]) = J4 at *
  have hc8 : (8 : Int) ≤ c1 := by omega
  go_wp2_with fail
  generalize World.alloc W3 _ = W4 at *
  generalize W3.heap.size = lb at *
  refine (equal_calls HE4.out.inv H8.out HL8.out).mono ?_
  rw [show (([2, 1, 5, 0, 1, 98, 7, 0] : List UInt8) == [2, 1, 5, 0, 1, 98, 7, 0]) = true from rfl]
  rintro e w5 ⟨rfl, rfl⟩
  have n0 := blk_cell_J HN4.out 0 rfl
  have n1 := blk_cell_J HN4.out 1 rfl
  have n2 := blk_cell_J HN4.out 2 rfl
  have m0 := blk_cell_J HM4.out 0 rfl
  have m1 := blk_cell_J HM4.out 1 rfl
  have m2 := blk_cell_J HM4.out 2 rfl
  go_wp2_with fail
  refine (refSame_calls HE4.out.inv HV2.out HV.out).mono ?_
  rw [show decide (wN = wN) = true from decide_eq_true rfl]
  rintro e w6 ⟨rfl, hb6⟩
  have HN6 := Lib.hid (show NBox w6 nb _ _ _ from (hb6.block nb (Array.getElem?_eq_some_iff.1 HN4.out).1).trans HN4.out)
  have HE6 := Lib.hid (HE4.out.step hb6)
  clear hb6 n0 n1 n2 m0 m1 m2
  have n0 := blk_cell_J HN6.out 0 rfl
  have n1 := blk_cell_J HN6.out 1 rfl
  have n2 := blk_cell_J HN6.out 2 rfl
  go_wp2_with fail
  refine (Size_calls HE6.out.inv HV.out wN_S).mono ?_
  rw [show sizeN wN = 8 from by unfold sizeN; rw [wN_form.1, wN_form.2]; rfl]
  rintro e w7 ⟨rfl, hb7⟩
  have HE7 := Lib.hid (HE6.out.step hb7)
  clear hb7 n0 n1 n2
  go_wp2_with fail
  go_ret
  exact ⟨rfl, HE7.out.below⟩
end Go.Proofs.Ytnnkgjaahmflmaa
