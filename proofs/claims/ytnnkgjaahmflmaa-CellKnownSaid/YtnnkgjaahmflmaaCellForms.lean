/- The statement CellForms. -/
import Derived.Test.YtnnkgjaahmflmaaCellWorks
import Derived.Test.YtnnkgjaahmflmaaCellIn
namespace Go.Proofs.Ytnnkgjaahmflmaa
open Go.RowKit
set_option linter.unusedVariables false

theorem nds_of {n : Nd} (hl : longN n = false) (hs : ∀ x ∈ n.items, ClS x) : NdS n ∧ n.items.length ≤ 300 ∧ n.kids.length ≤ 300 := by
  unfold longN at hl
  simp only [Bool.or_eq_false_iff, decide_eq_false_iff_not, Nat.not_lt] at hl
  refine ⟨⟨by omega, fun x hx => ?_⟩, hl.1, hl.2⟩
  have := hs x hx
  unfold ClS at this; omega
/-- a node's box, and the node -/
def Nb (J : Jm) (w : World) (b : Nat) (n : Nd) : Prop := ∃ Ai ci Ak ck, NBox w b n.leaf (.slice Ai n.items.length ci) (.slice Ak n.kids.length ck) ∧ NdV J (.agg #[.bool n.leaf, .slice Ai n.items.length ci, .slice Ak n.kids.length ck]) n
theorem NdV.form {J : Jm} {v : Value} {n : Nd} (h : NdV J v n) : ∃ Ai ci Ak ck, v = .agg #[.bool n.leaf, .slice Ai n.items.length ci, .slice Ak n.kids.length ck] ∧ n.items.length ≤ ci ∧ ci ≤ maxLen ∧ n.kids.length ≤ ck ∧ ck ≤ maxLen := by
  obtain ⟨vi, vk, rfl, hi, hk⟩ := h
  obtain ⟨Ai, ci, rfl, h1, h2⟩ := hi.form
  obtain ⟨Ak, ck, rfl, h3, h4⟩ := hk.form
  exact ⟨Ai, ci, Ak, ck, rfl, h1, h2, h3, h4⟩
set_option maxRecDepth 100000 in
set_option maxHeartbeats 8000000 in
theorem cellForms_walk {J : Jm} {w : World} (hI : Inv J w) {v : Value} {n : Nd} (hn : NdV J v n) (hs : ∀ x ∈ n.items, ClS x) :
    Calls Try.prog 3 #[v] w fun e w' => e = .returned (.bool true) ∧ Below w.heap.size w w' := by
  obtain ⟨Ai, ci, Ak, ck, rfl, hni, hmi, hnk, hmk⟩ := hn.form
  unfold maxLen at hmi hmk
  have HV := Lib.hid hn
  clear hn
  go_enter Try.func3, Try.ntmps3
  go_upto_region 1 with fail
  have HE := Lib.hid ((Ext.refl hI).alloc (.cells #[.bool n.leaf, .slice Ai n.items.length ci, .slice Ak n.kids.length ck] 25))
  have HN : Hid (NBox (w.alloc (.cells #[.bool n.leaf, .slice Ai n.items.length ci, .slice Ak n.kids.length ck] 25)) w.heap.size n.leaf (.slice Ai n.items.length ci) (.slice Ak n.kids.length ck)) := heap_alloc_new w _
  obtain ⟨nb, hnb⟩ : ∃ nb, nb = w.heap.size := ⟨_, rfl⟩
  have HN := Lib.hid (show NBox _ nb n.leaf _ _ from by rw [hnb]; exact HN.out)
  rw [← hnb]
  generalize World.alloc w _ = W at *
  clear hnb
  have n0 := blk_cell_J HN.out 0 rfl
  have n1 := blk_cell_J HN.out 1 rfl
  have n2 := blk_cell_J HN.out 2 rfl
  go_wp2_with fail
  refine (works_calls HE.out.inv).mono ?_
  rintro e w1 ⟨rfl, hb1⟩
  have hX := Ext.of_below HE.out.inv hb1
  have HN := Lib.hid (HN.out.ext hX)
  have HE := Lib.hid (HE.out.trans hX)
  clear hX hb1 n0 n1 n2
  have n0 := blk_cell_J HN.out 0 rfl
  have n1 := blk_cell_J HN.out 1 rfl
  have n2 := blk_cell_J HN.out 2 rfl
  go_wp2_with fail
  refine (long_calls HV.out).mono ?_
  rintro e w2 ⟨rfl, hb2⟩
  have hX := Ext.of_below HE.out.inv hb2
  have HN := Lib.hid (HN.out.ext hX)
  have HE := Lib.hid (HE.out.trans hX)
  clear hX hb2 n0 n1 n2
  have n0 := blk_cell_J HN.out 0 rfl
  have n1 := blk_cell_J HN.out 1 rfl
  have n2 := blk_cell_J HN.out 2 rfl
  cases hl : longN n with
  | true =>
    go_wp2_with fail
    go_ret
    exact ⟨rfl, HE.out.below⟩
  | false =>
    obtain ⟨hns, hn3, hk3⟩ := nds_of hl hs
    have HS := Lib.hid hns
    clear hl hs hns
    go_wp2_with fail
    refine (copied_calls HE.out.inv HV.out (by omega) (by omega)).mono ?_
    rintro e w3 ⟨vc, J3, rfl, hX, hC⟩
    obtain ⟨vci, vck, rfl, hoi, hok⟩ := hC
    obtain ⟨Ci, di, rfl, -, -⟩ := hoi.sl.form
    obtain ⟨Ck, dk, rfl, -, -⟩ := hok.sl.form
    have HV2 := Lib.hid (show NdV J3 (.agg #[.bool n.leaf, .slice Ci n.items.length di, .slice Ck n.kids.length dk]) n from ⟨_, _, rfl, hoi.sl, hok.sl⟩)
    have HV := Lib.hid (HV.out.mono (hX.le HE.out.inv))
    have HN := Lib.hid (HN.out.ext hX)
    have HE := Lib.hid (HE.out.trans hX)
    clear hX hoi hok n0 n1 n2
    go_upto_region 6 with fail
    have HM := Lib.hid (show NBox (w3.alloc (.cells #[.bool n.leaf, .slice Ci n.items.length di, .slice Ck n.kids.length dk] 25)) w3.heap.size n.leaf (.slice Ci n.items.length di) (.slice Ck n.kids.length dk) from heap_alloc_new w3 _)
    have hX := (Ext.refl HE.out.inv).alloc (.cells #[.bool n.leaf, .slice Ci n.items.length di, .slice Ck n.kids.length dk] 25)
    have HN := Lib.hid (HN.out.ext hX)
    have HE := Lib.hid (HE.out.trans hX)
    clear hX
    generalize World.alloc w3 _ = W3 at *
    generalize w3.heap.size = mb at *
    have n0 := blk_cell_J HN.out 0 rfl
    have n1 := blk_cell_J HN.out 1 rfl
    have n2 := blk_cell_J HN.out 2 rfl
    have m0 := blk_cell_J HM.out 0 rfl
    have m1 := blk_cell_J HM.out 1 rfl
    have m2 := blk_cell_J HM.out 2 rfl
    go_wp2_with fail
    refine (Wrong_calls HE.out.inv HV.out HS.out).mono ?_
    rintro e w4 ⟨rfl, hb4⟩
    have hX := Ext.of_below HE.out.inv hb4
    have HN := Lib.hid (HN.out.ext hX)
    have HM := Lib.hid (HM.out.ext hX)
    have HE := Lib.hid (HE.out.trans hX)
    clear hX hb4 n0 n1 n2 m0 m1 m2
    have n0 := blk_cell_J HN.out 0 rfl
    have n1 := blk_cell_J HN.out 1 rfl
    have n2 := blk_cell_J HN.out 2 rfl
    have m0 := blk_cell_J HM.out 0 rfl
    have m1 := blk_cell_J HM.out 1 rfl
    have m2 := blk_cell_J HM.out 2 rfl
    go_wp2_with fail
    refine (Put_calls HE.out.inv HV2.out HS.out).mono ?_
    rintro e w5 ⟨v5, J5, rfl, hX, hO5⟩
    have HO := Lib.hid hO5
    obtain ⟨A5, c5, rfl, -, -⟩ := hO5.sl.form
    clear hO5
    have HN := Lib.hid (HN.out.ext hX)
    have HM := Lib.hid (HM.out.ext hX)
    have HV := Lib.hid (HV.out.mono (hX.le HE.out.inv))
    have HV2 := Lib.hid (HV2.out.mono (hX.le HE.out.inv))
    have HE := Lib.hid (HE.out.trans hX)
    clear hX n0 n1 n2 m0 m1 m2
    have n0 := blk_cell_J HN.out 0 rfl
    have n1 := blk_cell_J HN.out 1 rfl
    have n2 := blk_cell_J HN.out 2 rfl
    have m0 := blk_cell_J HM.out 0 rfl
    have m1 := blk_cell_J HM.out 1 rfl
    have m2 := blk_cell_J HM.out 2 rfl
    have hwr : wrong n = 2 ∨ (right n = true ∧ (wrong n = 0 ∨ wrong n = 3)) := by
      unfold wrong
      by_cases h : right n = true
      · right
        refine ⟨h, ?_⟩
        rw [if_pos h]
        split
        · exact .inr rfl
        · exact .inl rfl
      · left; rw [if_neg h]
    rcases hwr with hw | ⟨hr, hw | hw⟩
    · have HSZ := Lib.hid (show sizeN n = 0 from by unfold sizeN; rw [if_neg (fun h => by unfold wrong at hw; rw [if_pos h] at hw; split at hw <;> omega)])
      have HOP := Lib.hid (show outP n = [] from if_neg (by omega))
      rw [HOP.out] at HO ⊢
      rw [hw]
      go_wp2_with fail
      refine (Check_calls HE.out.inv HV2.out HS.out).mono ?_
      rw [hw]
      rintro e w7 ⟨rfl, hb7⟩
      have J7 := hb7
      have hX := Ext.of_below HE.out.inv hb7
      have HN := Lib.hid (HN.out.ext hX)
      have HM := Lib.hid (HM.out.ext hX)
      have HE := Lib.hid (HE.out.trans hX)
      clear hX hb7 n0 n1 n2 m0 m1 m2
      have n0 := blk_cell_J HN.out 0 rfl
      have n1 := blk_cell_J HN.out 1 rfl
      have n2 := blk_cell_J HN.out 2 rfl
      have m0 := blk_cell_J HM.out 0 rfl
      have m1 := blk_cell_J HM.out 1 rfl
      have m2 := blk_cell_J HM.out 2 rfl
      clear J7
      go_wp2_with fail
      refine (Size_calls HE.out.inv HV2.out HS.out).mono ?_
      rw [HSZ.out]
      rintro e w7 ⟨rfl, hb7⟩
      have hX := Ext.of_below HE.out.inv hb7
      have HN := Lib.hid (HN.out.ext hX)
      have HM := Lib.hid (HM.out.ext hX)
      have HE := Lib.hid (HE.out.trans hX)
      clear hX hb7 n0 n1 n2 m0 m1 m2
      have n0 := blk_cell_J HN.out 0 rfl
      have n1 := blk_cell_J HN.out 1 rfl
      have n2 := blk_cell_J HN.out 2 rfl
      have m0 := blk_cell_J HM.out 0 rfl
      have m1 := blk_cell_J HM.out 1 rfl
      have m2 := blk_cell_J HM.out 2 rfl
      go_wp2_with fail
      refine (refSame_calls HE.out.inv HV2.out HV.out).mono ?_
      rw [show decide (n = n) = true from decide_eq_true rfl]
      rintro e w7 ⟨rfl, hb7⟩
      have hX := Ext.of_below HE.out.inv hb7
      have HN := Lib.hid (HN.out.ext hX)
      have HM := Lib.hid (HM.out.ext hX)
      have HE := Lib.hid (HE.out.trans hX)
      clear hX hb7 n0 n1 n2 m0 m1 m2
      have n0 := blk_cell_J HN.out 0 rfl
      have n1 := blk_cell_J HN.out 1 rfl
      have n2 := blk_cell_J HN.out 2 rfl
      have m0 := blk_cell_J HM.out 0 rfl
      have m1 := blk_cell_J HM.out 1 rfl
      have m2 := blk_cell_J HM.out 2 rfl
      go_wp2_with fail
      go_ret
      exact ⟨rfl, HE.out.below⟩
    · have HSZ := Lib.hid (show sizeN n = (form n).length from if_pos hr)
      have HOP := Lib.hid (show outP n = page n from if_pos hw)
      rw [HOP.out] at HO ⊢
      rw [hw]
      go_wp2_with fail
      refine (refForm_calls HE.out.inv HV.out hr HS.out.1).mono ?_
      rintro e w6 ⟨v6, J6, rfl, hX, hO6⟩
      obtain ⟨A6, c6, rfl, -, -⟩ := hO6.sl.form
      have HOB := Lib.hid ((show Bs _ _ _ from Own.bs HO.out).mono (hX.le HE.out.inv))
      clear hO6
      have HN := Lib.hid (HN.out.ext hX)
      have HM := Lib.hid (HM.out.ext hX)
      have HV := Lib.hid (HV.out.mono (hX.le HE.out.inv))
      have HV2 := Lib.hid (HV2.out.mono (hX.le HE.out.inv))
      have HE := Lib.hid (HE.out.trans hX)
      clear hX n0 n1 n2 m0 m1 m2
      have n0 := blk_cell_J HN.out 0 rfl
      have n1 := blk_cell_J HN.out 1 rfl
      have n2 := blk_cell_J HN.out 2 rfl
      have m0 := blk_cell_J HM.out 0 rfl
      have m1 := blk_cell_J HM.out 1 rfl
      have m2 := blk_cell_J HM.out 2 rfl
      have HW := Lib.hid hw
      go_wp2_with fail
      refine (Check_calls HE.out.inv HV2.out HS.out).mono ?_
      rw [hw]
      rintro e w7 ⟨rfl, hb7⟩
      have J7 := hb7
      have hX := Ext.of_below HE.out.inv hb7
      have HN := Lib.hid (HN.out.ext hX)
      have HM := Lib.hid (HM.out.ext hX)
      have HE := Lib.hid (HE.out.trans hX)
      clear hX hb7 n0 n1 n2 m0 m1 m2
      have n0 := blk_cell_J HN.out 0 rfl
      have n1 := blk_cell_J HN.out 1 rfl
      have n2 := blk_cell_J HN.out 2 rfl
      have m0 := blk_cell_J HM.out 0 rfl
      have m1 := blk_cell_J HM.out 1 rfl
      have m2 := blk_cell_J HM.out 2 rfl
      clear J7
      go_wp2_with fail
      refine (Size_calls HE.out.inv HV2.out HS.out).mono ?_
      rw [HSZ.out]
      rintro e w7 ⟨rfl, hb7⟩
      have hX := Ext.of_below HE.out.inv hb7
      have HN := Lib.hid (HN.out.ext hX)
      have HM := Lib.hid (HM.out.ext hX)
      have HE := Lib.hid (HE.out.trans hX)
      clear hX hb7 n0 n1 n2 m0 m1 m2
      have n0 := blk_cell_J HN.out 0 rfl
      have n1 := blk_cell_J HN.out 1 rfl
      have n2 := blk_cell_J HN.out 2 rfl
      have m0 := blk_cell_J HM.out 0 rfl
      have m1 := blk_cell_J HM.out 1 rfl
      have m2 := blk_cell_J HM.out 2 rfl
      go_wp2_with fail
      refine (refSame_calls HE.out.inv HV2.out HV.out).mono ?_
      rw [show decide (n = n) = true from decide_eq_true rfl]
      rintro e w7 ⟨rfl, hb7⟩
      have hX := Ext.of_below HE.out.inv hb7
      have HN := Lib.hid (HN.out.ext hX)
      have HM := Lib.hid (HM.out.ext hX)
      have HE := Lib.hid (HE.out.trans hX)
      clear hX hb7 n0 n1 n2 m0 m1 m2
      have n0 := blk_cell_J HN.out 0 rfl
      have n1 := blk_cell_J HN.out 1 rfl
      have n2 := blk_cell_J HN.out 2 rfl
      have m0 := blk_cell_J HM.out 0 rfl
      have m1 := blk_cell_J HM.out 1 rfl
      have m2 := blk_cell_J HM.out 2 rfl
      go_wp2_with fail
      refine (Page_calls HE.out.inv HV.out HS.out HW.out).mono ?_
      rintro e w8 ⟨v8, J8, rfl, hX, hO8⟩
      have HOB := Lib.hid (HOB.out.mono (hX.le HE.out.inv))
      have HO8 := Lib.hid hO8
      obtain ⟨A8, c8, rfl, -, -⟩ := hO8.sl.form
      clear hO8
      have HN := Lib.hid (HN.out.ext hX)
      have HM := Lib.hid (HM.out.ext hX)
      have HV := Lib.hid (HV.out.mono (hX.le HE.out.inv))
      have HV2 := Lib.hid (HV2.out.mono (hX.le HE.out.inv))
      have HE := Lib.hid (HE.out.trans hX)
      clear hX n0 n1 n2 m0 m1 m2
      have n0 := blk_cell_J HN.out 0 rfl
      have n1 := blk_cell_J HN.out 1 rfl
      have n2 := blk_cell_J HN.out 2 rfl
      have m0 := blk_cell_J HM.out 0 rfl
      have m1 := blk_cell_J HM.out 1 rfl
      have m2 := blk_cell_J HM.out 2 rfl
      go_wp2_with fail
      refine (equal_calls HE.out.inv HOB.out (Own.bs HO8.out)).mono ?_
      rw [show (page n == page n) = true from by simp]
      rintro e w9 ⟨rfl, rfl⟩
      go_wp2_with fail
      go_ret
      exact ⟨rfl, HE.out.below⟩
    · have HSZ := Lib.hid (show sizeN n = (form n).length from if_pos hr)
      have HOP := Lib.hid (show outP n = [] from if_neg (by omega))
      rw [HOP.out] at HO ⊢
      rw [hw]
      go_wp2_with fail
      refine (refForm_calls HE.out.inv HV.out hr HS.out.1).mono ?_
      rintro e w6 ⟨v6, J6, rfl, hX, hO6⟩
      obtain ⟨A6, c6, rfl, -, -⟩ := hO6.sl.form
      clear hO6
      have HN := Lib.hid (HN.out.ext hX)
      have HM := Lib.hid (HM.out.ext hX)
      have HV := Lib.hid (HV.out.mono (hX.le HE.out.inv))
      have HV2 := Lib.hid (HV2.out.mono (hX.le HE.out.inv))
      have HE := Lib.hid (HE.out.trans hX)
      clear hX n0 n1 n2 m0 m1 m2
      have n0 := blk_cell_J HN.out 0 rfl
      have n1 := blk_cell_J HN.out 1 rfl
      have n2 := blk_cell_J HN.out 2 rfl
      have m0 := blk_cell_J HM.out 0 rfl
      have m1 := blk_cell_J HM.out 1 rfl
      have m2 := blk_cell_J HM.out 2 rfl
      go_wp2_with fail
      refine (Check_calls HE.out.inv HV2.out HS.out).mono ?_
      rw [hw]
      rintro e w7 ⟨rfl, hb7⟩
      have J7 := hb7
      have hX := Ext.of_below HE.out.inv hb7
      have HN := Lib.hid (HN.out.ext hX)
      have HM := Lib.hid (HM.out.ext hX)
      have HE := Lib.hid (HE.out.trans hX)
      clear hX hb7 n0 n1 n2 m0 m1 m2
      have n0 := blk_cell_J HN.out 0 rfl
      have n1 := blk_cell_J HN.out 1 rfl
      have n2 := blk_cell_J HN.out 2 rfl
      have m0 := blk_cell_J HM.out 0 rfl
      have m1 := blk_cell_J HM.out 1 rfl
      have m2 := blk_cell_J HM.out 2 rfl
      clear J7
      go_wp2_with fail
      refine (Size_calls HE.out.inv HV2.out HS.out).mono ?_
      rw [HSZ.out]
      rintro e w7 ⟨rfl, hb7⟩
      have hX := Ext.of_below HE.out.inv hb7
      have HN := Lib.hid (HN.out.ext hX)
      have HM := Lib.hid (HM.out.ext hX)
      have HE := Lib.hid (HE.out.trans hX)
      clear hX hb7 n0 n1 n2 m0 m1 m2
      have n0 := blk_cell_J HN.out 0 rfl
      have n1 := blk_cell_J HN.out 1 rfl
      have n2 := blk_cell_J HN.out 2 rfl
      have m0 := blk_cell_J HM.out 0 rfl
      have m1 := blk_cell_J HM.out 1 rfl
      have m2 := blk_cell_J HM.out 2 rfl
      go_wp2_with fail
      refine (refSame_calls HE.out.inv HV2.out HV.out).mono ?_
      rw [show decide (n = n) = true from decide_eq_true rfl]
      rintro e w7 ⟨rfl, hb7⟩
      have hX := Ext.of_below HE.out.inv hb7
      have HN := Lib.hid (HN.out.ext hX)
      have HM := Lib.hid (HM.out.ext hX)
      have HE := Lib.hid (HE.out.trans hX)
      clear hX hb7 n0 n1 n2 m0 m1 m2
      have n0 := blk_cell_J HN.out 0 rfl
      have n1 := blk_cell_J HN.out 1 rfl
      have n2 := blk_cell_J HN.out 2 rfl
      have m0 := blk_cell_J HM.out 0 rfl
      have m1 := blk_cell_J HM.out 1 rfl
      have m2 := blk_cell_J HM.out 2 rfl
      go_wp2_with fail
      go_ret
      exact ⟨rfl, HE.out.below⟩
end Go.Proofs.Ytnnkgjaahmflmaa
