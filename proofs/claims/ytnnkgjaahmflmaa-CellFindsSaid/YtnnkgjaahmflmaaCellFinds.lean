/- The statement CellFinds. -/
import Derived.Test.YtnnkgjaahmflmaaCellFind
namespace Go.Proofs.Ytnnkgjaahmflmaa
open Go.RowKit
set_option linter.unusedVariables false

set_option maxRecDepth 100000 in
set_option maxHeartbeats 8000000 in
theorem cellFinds_walk {J : Jm} {w : World} (hI : Inv J w) {v : Value} {n : Nd} (hn : NdV J v n) (hs : ∀ x ∈ n.items, ClS x) (a : ByteArray) (ha : a.size ≤ 140737488351232) :
    Calls Try.prog 6 #[v, .string a] w fun e w' => e = .returned (.bool true) ∧ Below w.heap.size w w' := by
  obtain ⟨Ai, ci, Ak, ck, rfl, hni, hmi, hnk, hmk⟩ := hn.form
  unfold maxLen at hmi hmk
  have HV := Lib.hid hn
  clear hn
  obtain ⟨key, rfl⟩ : ∃ l, a = strB l := ⟨a.data.toList, (strB_of a).symm⟩
  rw [strB_size] at ha
  go_enter Try.func6, Try.ntmps6
  go_upto_region 1 with fail
  have HE := Lib.hid ((Ext.refl hI).alloc (.cells #[.bool n.leaf, .slice Ai n.items.length ci, .slice Ak n.kids.length ck] 25))
  have HN : Hid (NBox (w.alloc (.cells #[.bool n.leaf, .slice Ai n.items.length ci, .slice Ak n.kids.length ck] 25)) w.heap.size n.leaf (.slice Ai n.items.length ci) (.slice Ak n.kids.length ck)) := heap_alloc_new w _
  obtain ⟨nb, hnb⟩ : ∃ nb, nb = w.heap.size := ⟨_, rfl⟩
  have HN := Lib.hid (show NBox _ nb n.leaf _ _ from by rw [hnb]; exact HN.out)
  rw [← hnb]
  generalize World.alloc w _ = W at *
  clear hnb
  have n0 := blk_cell_J HN.out 0 rfl
  have n1 := blk_cell_J HN.out 1 rfl
  have n2 := blk_cell_J HN.out 2 rfl
  go_wp2_with fail
  refine (works_calls HE.out.inv).mono ?_
  rintro e w1 ⟨rfl, hb1⟩
  have hX := Ext.of_below HE.out.inv hb1
  have HN := Lib.hid (HN.out.ext hX)
  have HE := Lib.hid (HE.out.trans hX)
  clear hX hb1 n0 n1 n2
  have n0 := blk_cell_J HN.out 0 rfl
  have n1 := blk_cell_J HN.out 1 rfl
  have n2 := blk_cell_J HN.out 2 rfl
  go_wp2_with fail
  refine (long_calls HV.out).mono ?_
  rintro e w2 ⟨rfl, hb2⟩
  have hX := Ext.of_below HE.out.inv hb2
  have HN := Lib.hid (HN.out.ext hX)
  have HE := Lib.hid (HE.out.trans hX)
  clear hX hb2 n0 n1 n2
  have n0 := blk_cell_J HN.out 0 rfl
  have n1 := blk_cell_J HN.out 1 rfl
  have n2 := blk_cell_J HN.out 2 rfl
  cases hl : longN n with
  | true =>
    go_wp2_with fail
    go_ret
    exact ⟨rfl, HE.out.below⟩
  | false =>
    obtain ⟨hns, hn3, hk3⟩ := nds_of hl hs
    have HS := Lib.hid hns
    clear hl hs hns
    go_wp2_with fail
    refine (copied_calls HE.out.inv HV.out (by omega) (by omega)).mono ?_
    rintro e w3 ⟨vc, J3, rfl, hX, hC⟩
    obtain ⟨vci, vck, rfl, hoi, hok⟩ := hC
    obtain ⟨Ci, di, rfl, -, -⟩ := hoi.sl.form
    obtain ⟨Ck, dk, rfl, -, -⟩ := hok.sl.form
    have HV2 := Lib.hid (show NdV J3 (.agg #[.bool n.leaf, .slice Ci n.items.length di, .slice Ck n.kids.length dk]) n from ⟨_, _, rfl, hoi.sl, hok.sl⟩)
    have HV := Lib.hid (HV.out.mono (hX.le HE.out.inv))
    have HN := Lib.hid (HN.out.ext hX)
    have HE := Lib.hid (HE.out.trans hX)
    clear hX hoi hok n0 n1 n2
    have n0 := blk_cell_J HN.out 0 rfl
    have n1 := blk_cell_J HN.out 1 rfl
    have n2 := blk_cell_J HN.out 2 rfl
    go_wp2_with fail
    refine (Find_calls HE.out.inv HV2.out HS.out key ha).mono ?_
    rintro e w4 ⟨rfl, hb4⟩
    have hX := Ext.of_below HE.out.inv hb4
    have HN := Lib.hid (HN.out.ext hX)
    have HE := Lib.hid (HE.out.trans hX)
    clear hX hb4 n0 n1 n2
    have n0 := blk_cell_J HN.out 0 rfl
    have n1 := blk_cell_J HN.out 1 rfl
    have n2 := blk_cell_J HN.out 2 rfl
    have HF := Lib.hid (show right n = true → fI n key = findI n key ∧ fB n key = findB n key from fun h => ⟨if_pos h, if_pos h⟩)
    have HF0 := Lib.hid (show right n = false → fI n key = 0 ∧ fB n key = false from fun h => ⟨if_neg (by rw [h]; decide), if_neg (by rw [h]; decide)⟩)
    go_wp2_with fail
    refine (refRight_calls HE.out.inv HV.out HS.out.2).mono ?_
    rintro e w5 ⟨rfl, hb5⟩
    have hX := Ext.of_below HE.out.inv hb5
    have HN := Lib.hid (HN.out.ext hX)
    have HE := Lib.hid (HE.out.trans hX)
    clear hX hb5 n0 n1 n2
    have n0 := blk_cell_J HN.out 0 rfl
    have n1 := blk_cell_J HN.out 1 rfl
    have n2 := blk_cell_J HN.out 2 rfl
    cases hr : right n with
    | false =>
      rw [(HF0.out hr).1, (HF0.out hr).2]
      clear hr
      go_wp2_with fail
      go_ret
      exact ⟨rfl, HE.out.below⟩
    | true =>
      rw [(HF.out hr).1, (HF.out hr).2]
      clear hr
      go_wp2_with fail
      refine (refFind_calls HE.out.inv HV.out HS.out key).mono ?_
      rintro e w6 ⟨rfl, hb6⟩
      have hX := Ext.of_below HE.out.inv hb6
      have HN := Lib.hid (HN.out.ext hX)
      have HE := Lib.hid (HE.out.trans hX)
      clear hX hb6 n0 n1 n2
      have n0 := blk_cell_J HN.out 0 rfl
      have n1 := blk_cell_J HN.out 1 rfl
      have n2 := blk_cell_J HN.out 2 rfl
      generalize findI n key = q at *
      cases findB n key
      all_goals
        go_wp2_with fail
        go_ret
        exact ⟨rfl, HE.out.below⟩
end Go.Proofs.Ytnnkgjaahmflmaa
