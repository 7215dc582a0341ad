/- The walks of Size, Check and Wrong. -/
import Derived.Test.YtnnkgjaahmflmaaCellForm
import Derived.Test.YtnnkgjaahmflmaaCellRRight
namespace Go.Proofs.Ytnnkgjaahmflmaa
open Go.RowKit
set_option linter.unusedVariables false

/-- a node that may be asked -/
def NdS (n : Nd) : Prop := n.items.length ≤ 1048576 ∧ ∀ x ∈ n.items, x.key.length ≤ 9223372036854775807 ∧ x.val.length ≤ 9223372036854775807
def sizeN (n : Nd) : Nat := if right n = true then (form n).length else 0
set_option maxRecDepth 100000 in
set_option maxHeartbeats 4000000 in
theorem Size_calls {J : Jm} {w : World} (hI : Inv J w) {v : Value} {n : Nd} (hn : NdV J v n) (hs : NdS n) :
    Calls Try.prog 17 #[v] w fun e w' => e = .returned (.int .i64 (sizeN n : Nat)) ∧ Below w.heap.size w w' := by
  obtain ⟨vi, vk, rfl, hi, hk⟩ := hn
  obtain ⟨Ai, ci, rfl, hni, hmi⟩ := hi.form
  obtain ⟨Ak, ck, rfl, hnk, hmk⟩ := hk.form
  unfold maxLen at hmi hmk
  have HND := Lib.hid (show NdV J (.agg #[.bool n.leaf, .slice Ai n.items.length ci, .slice Ak n.kids.length ck]) n from ⟨_, _, rfl, hi, hk⟩)
  clear hi hk
  obtain ⟨hs1, hs2⟩ := hs
  go_enter Try.func17, Try.ntmps17
  go_upto_region 1 with fail
  have HE0 := Lib.hid ((Ext.refl hI).alloc (.cells #[.bool n.leaf, .slice Ai n.items.length ci, .slice Ak n.kids.length ck] 25))
  have HN0 : Hid (NBox (w.alloc (.cells #[.bool n.leaf, .slice Ai n.items.length ci, .slice Ak n.kids.length ck] 25)) w.heap.size n.leaf (.slice Ai n.items.length ci) (.slice Ak n.kids.length ck)) := heap_alloc_new w _
  obtain ⟨nb, hnb⟩ : ∃ nb, nb = w.heap.size := ⟨_, rfl⟩
  have HN0 := Lib.hid (show NBox _ nb n.leaf _ _ from by rw [hnb]; exact HN0.out)
  rw [← hnb]
  generalize World.alloc w _ = W at *
  clear hnb
  have n0 := blk_cell_J HN0.out 0 rfl
  have n1 := blk_cell_J HN0.out 1 rfl
  have n2 := blk_cell_J HN0.out 2 rfl
  go_wp2_with fail
  refine (right_calls HE0.out.inv HND.out hs2).mono ?_
  rintro e w1 ⟨rfl, hb1⟩
  have HE := Lib.hid (HE0.out.step hb1)
  have HN := Lib.hid (show NBox w1 nb n.leaf _ _ from (hb1.block nb (Array.getElem?_eq_some_iff.1 HN0.out).1).trans HN0.out)
  clear hb1 n0 n1 n2
  have n0 := blk_cell_J HN.out 0 rfl
  have n1 := blk_cell_J HN.out 1 rfl
  have n2 := blk_cell_J HN.out 2 rfl
  cases hr : right n with
  | false =>
    have HR := Lib.hid (show sizeN n = 0 from by unfold sizeN; rw [hr]; rfl)
    go_wp2_with fail
    go_ret
    exact ⟨by rw [HR.out]; rfl, HE.out.below⟩
  | true =>
    have HR := Lib.hid (show sizeN n = (form n).length from by unfold sizeN; rw [hr]; rfl)
    go_wp2_with fail
    refine (form_calls HE.out.inv HND.out hr hs1).mono ?_
    rintro e w2 ⟨v2, J2, rfl, hE2, hO2⟩
    obtain ⟨A2, c2, rfl, -, -⟩ := hO2.sl.form
    have HE2 := Lib.hid (HE.out.trans hE2)
    clear hE2 hO2
    go_wp2_with fail
    go_ret
    exact ⟨by rw [HR.out]; rfl, HE2.out.below⟩
theorem rightC {J : Jm} {w : World} (hI : Inv J w) {v : Value} {n : Nd} (hn : NdV J v n) (hs : ∀ x ∈ n.items, x.key.length ≤ 9223372036854775807 ∧ x.val.length ≤ 9223372036854775807) :
    Calls Try.prog 44 #[v] w fun e w' => e = .returned (.bool (right n)) ∧ Below w.heap.size w w' := right_calls hI hn hs
theorem formC {J : Jm} {w : World} (hI : Inv J w) {v : Value} {n : Nd} (hn : NdV J v n) (hr : right n = true) (hl : n.items.length ≤ 1048576) :
    Calls Try.prog 40 #[v] w fun e w' => ∃ v' J', e = .returned v' ∧ Ext J w J' w' ∧ Rb J' w' w.heap.size v' (form n) := form_calls hI hn hr hl
theorem refRightC {J : Jm} {w : World} (hI : Inv J w) {v : Value} {n : Nd} (hn : NdV J v n) (hs : ∀ x ∈ n.items, x.key.length ≤ 9223372036854775807 ∧ x.val.length ≤ 9223372036854775807) :
    Calls Try.prog 26 #[v] w fun e w' => e = .returned (.bool (right n)) ∧ Below w.heap.size w w' := refRight_calls hI hn hs
theorem refFormC {J : Jm} {w : World} (hI : Inv J w) {v : Value} {n : Nd} (hn : NdV J v n) (hr : right n = true) (hl : n.items.length ≤ 1048576) :
    Calls Try.prog 15 #[v] w fun e w' => ∃ v' J', e = .returned v' ∧ Ext J w J' w' ∧ Rb J' w' w.heap.size v' (form n) := refForm_calls hI hn hr hl
set_option maxRecDepth 100000 in
set_option maxHeartbeats 4000000 in
theorem Check_calls {J : Jm} {w : World} (hI : Inv J w) {v : Value} {n : Nd} (hn : NdV J v n) (hs : NdS n) :
    Calls Try.prog 16 #[v] w fun e w' => e = .returned (.int .i64 (wrong n : Nat)) ∧ Below w.heap.size w w' := by
  obtain ⟨vi, vk, rfl, hi, hk⟩ := hn
  obtain ⟨Ai, ci, rfl, hni, hmi⟩ := hi.form
  obtain ⟨Ak, ck, rfl, hnk, hmk⟩ := hk.form
  unfold maxLen at hmi hmk
  have HND := Lib.hid (show NdV J (.agg #[.bool n.leaf, .slice Ai n.items.length ci, .slice Ak n.kids.length ck]) n from ⟨_, _, rfl, hi, hk⟩)
  clear hi hk
  obtain ⟨hs1, hs2⟩ := hs
  go_enter Try.func16, Try.ntmps16
  go_upto_region 1 with fail
  have HE0 := Lib.hid ((Ext.refl hI).alloc (.cells #[.bool n.leaf, .slice Ai n.items.length ci, .slice Ak n.kids.length ck] 25))
  have HN0 : Hid (NBox (w.alloc (.cells #[.bool n.leaf, .slice Ai n.items.length ci, .slice Ak n.kids.length ck] 25)) w.heap.size n.leaf (.slice Ai n.items.length ci) (.slice Ak n.kids.length ck)) := heap_alloc_new w _
  obtain ⟨nb, hnb⟩ : ∃ nb, nb = w.heap.size := ⟨_, rfl⟩
  have HN0 := Lib.hid (show NBox _ nb n.leaf _ _ from by rw [hnb]; exact HN0.out)
  rw [← hnb]
  generalize World.alloc w _ = W at *
  clear hnb
  have n0 := blk_cell_J HN0.out 0 rfl
  have n1 := blk_cell_J HN0.out 1 rfl
  have n2 := blk_cell_J HN0.out 2 rfl
  go_wp2_with fail
  refine (rightC HE0.out.inv HND.out hs2).mono ?_
  rintro e w1 ⟨rfl, hb1⟩
  have HE := Lib.hid (HE0.out.step hb1)
  have HN := Lib.hid (show NBox w1 nb n.leaf _ _ from (hb1.block nb (Array.getElem?_eq_some_iff.1 HN0.out).1).trans HN0.out)
  clear hb1 n0 n1 n2
  have n0 := blk_cell_J HN.out 0 rfl
  have n1 := blk_cell_J HN.out 1 rfl
  have n2 := blk_cell_J HN.out 2 rfl
  cases hr : right n with
  | false =>
    have HR := Lib.hid (show wrong n = 2 from by unfold wrong; rw [hr]; rfl)
    go_wp2_with fail
    go_ret
    exact ⟨by rw [HR.out]; rfl, HE.out.below⟩
  | true =>
    have HR := Lib.hid (show wrong n = (if 240 < (form n).length then 3 else 0) from by unfold wrong; rw [hr]; rfl)
    go_wp2_with fail
    refine (formC HE.out.inv HND.out hr hs1).mono ?_
    rintro e w2 ⟨v2, J2, rfl, hE2, hO2⟩
    obtain ⟨A2, c2, rfl, -, -⟩ := hO2.sl.form
    have HE2 := Lib.hid (HE.out.trans hE2)
    clear hE2 hO2
    by_cases hf : 240 < (form n).length
    · have e1 : (240 : Int) < (form n).length := by omega
      have HR2 := Lib.hid (show wrong n = 3 from by rw [HR.out, if_pos hf])
      go_wp2_with fail
      go_ret
      exact ⟨by rw [HR2.out]; rfl, HE2.out.below⟩
    · have e1 : ¬ (240 : Int) < (form n).length := by omega
      have HR2 := Lib.hid (show wrong n = 0 from by rw [HR.out, if_neg hf])
      go_wp2_with fail
      go_ret
      exact ⟨by rw [HR2.out]; rfl, HE2.out.below⟩
set_option maxRecDepth 100000 in
set_option maxHeartbeats 4000000 in
theorem Wrong_calls {J : Jm} {w : World} (hI : Inv J w) {v : Value} {n : Nd} (hn : NdV J v n) (hs : NdS n) :
    Calls Try.prog 13 #[v] w fun e w' => e = .returned (.int .i64 (wrong n : Nat)) ∧ Below w.heap.size w w' := by
  obtain ⟨vi, vk, rfl, hi, hk⟩ := hn
  obtain ⟨Ai, ci, rfl, hni, hmi⟩ := hi.form
  obtain ⟨Ak, ck, rfl, hnk, hmk⟩ := hk.form
  unfold maxLen at hmi hmk
  have HND := Lib.hid (show NdV J (.agg #[.bool n.leaf, .slice Ai n.items.length ci, .slice Ak n.kids.length ck]) n from ⟨_, _, rfl, hi, hk⟩)
  clear hi hk
  obtain ⟨hs1, hs2⟩ := hs
  go_enter Try.func13, Try.ntmps13
  go_upto_region 1 with fail
  have HE0 := Lib.hid ((Ext.refl hI).alloc (.cells #[.bool n.leaf, .slice Ai n.items.length ci, .slice Ak n.kids.length ck] 25))
  have HN0 : Hid (NBox (w.alloc (.cells #[.bool n.leaf, .slice Ai n.items.length ci, .slice Ak n.kids.length ck] 25)) w.heap.size n.leaf (.slice Ai n.items.length ci) (.slice Ak n.kids.length ck)) := heap_alloc_new w _
  obtain ⟨nb, hnb⟩ : ∃ nb, nb = w.heap.size := ⟨_, rfl⟩
  have HN0 := Lib.hid (show NBox _ nb n.leaf _ _ from by rw [hnb]; exact HN0.out)
  rw [← hnb]
  generalize World.alloc w _ = W at *
  clear hnb
  have n0 := blk_cell_J HN0.out 0 rfl
  have n1 := blk_cell_J HN0.out 1 rfl
  have n2 := blk_cell_J HN0.out 2 rfl
  go_wp2_with fail
  refine (refRightC HE0.out.inv HND.out hs2).mono ?_
  rintro e w1 ⟨rfl, hb1⟩
  have HE := Lib.hid (HE0.out.step hb1)
  have HN := Lib.hid (show NBox w1 nb n.leaf _ _ from (hb1.block nb (Array.getElem?_eq_some_iff.1 HN0.out).1).trans HN0.out)
  clear hb1 n0 n1 n2
  have n0 := blk_cell_J HN.out 0 rfl
  have n1 := blk_cell_J HN.out 1 rfl
  have n2 := blk_cell_J HN.out 2 rfl
  cases hr : right n with
  | false =>
    have HR := Lib.hid (show wrong n = 2 from by unfold wrong; rw [hr]; rfl)
    go_wp2_with fail
    go_ret
    exact ⟨by rw [HR.out]; rfl, HE.out.below⟩
  | true =>
    have HR := Lib.hid (show wrong n = (if 240 < (form n).length then 3 else 0) from by unfold wrong; rw [hr]; rfl)
    go_wp2_with fail
    refine (refFormC HE.out.inv HND.out hr hs1).mono ?_
    rintro e w2 ⟨v2, J2, rfl, hE2, hO2⟩
    obtain ⟨A2, c2, rfl, -, -⟩ := hO2.sl.form
    have HE2 := Lib.hid (HE.out.trans hE2)
    clear hE2 hO2
    by_cases hf : 240 < (form n).length
    · have e1 : (240 : Int) < (form n).length := by omega
      have HR2 := Lib.hid (show wrong n = 3 from by rw [HR.out, if_pos hf])
      go_wp2_with fail
      go_ret
      exact ⟨by rw [HR2.out]; rfl, HE2.out.below⟩
    · have e1 : ¬ (240 : Int) < (form n).length := by omega
      have HR2 := Lib.hid (show wrong n = 0 from by rw [HR.out, if_neg hf])
      go_wp2_with fail
      go_ret
      exact ⟨by rw [HR2.out]; rfl, HE2.out.below⟩
end Go.Proofs.Ytnnkgjaahmflmaa
