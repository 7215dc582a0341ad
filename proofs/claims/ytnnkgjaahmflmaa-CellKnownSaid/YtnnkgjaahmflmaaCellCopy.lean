/- The walks of copied and of long. -/
import Derived.Test.YtnnkgjaahmflmaaCellGet
import Derived.Test.YtnnkgjaahmflmaaCellClone
namespace Go.Proofs.Ytnnkgjaahmflmaa
open Go.RowKit
set_option linter.unusedVariables false

def longN (n : Nd) : Bool := decide (300 < n.items.length) || decide (300 < n.kids.length)
set_option maxRecDepth 100000 in
set_option maxHeartbeats 4000000 in
theorem long_calls {J : Jm} {w : World} {v : Value} {n : Nd} (hn : NdV J v n) :
    Calls Try.prog 11 #[v] w fun e w' => e = .returned (.bool (longN n)) ∧ Below w.heap.size w w' := by
  obtain ⟨vi, vk, rfl, hi, hk⟩ := hn
  obtain ⟨Ai, ci, rfl, hni, hmi⟩ := hi.form
  obtain ⟨Ak, ck, rfl, hnk, hmk⟩ := hk.form
  unfold maxLen at hmi hmk
  have HIs := Lib.hid hi
  have HKs := Lib.hid hk
  clear hi hk
  go_enter Try.func11, Try.ntmps11
  by_cases h1 : 300 < n.items.length
  · have h1i : (300 : Int) < n.items.length := by omega
    have HR := Lib.hid (show longN n = true from by unfold longN; rw [decide_eq_true h1]; rfl)
    go_wp2_with fail
    go_ret
    exact ⟨by rw [HR.out]; rfl, (Below.refl _ _).alloc (Nat.le_refl _) _⟩
  · have h1i : ¬ (300 : Int) < n.items.length := by omega
    by_cases h2 : 300 < n.kids.length
    · have h2i : (300 : Int) < n.kids.length := by omega
      have HR := Lib.hid (show longN n = true from by unfold longN; rw [decide_eq_true h2]; simp)
      go_wp2_with fail
      go_ret
      exact ⟨by rw [HR.out]; rfl, (Below.refl _ _).alloc (Nat.le_refl _) _⟩
    · have h2i : ¬ (300 : Int) < n.kids.length := by omega
      have HR := Lib.hid (show longN n = false from by unfold longN; rw [decide_eq_false h1, decide_eq_false h2]; rfl)
      go_wp2_with fail
      go_ret
      exact ⟨by rw [HR.out]; rfl, (Below.refl _ _).alloc (Nat.le_refl _) _⟩
theorem bodyPost_copied {R : Ending → World → Prop} {tmps : Array Value} {w : World} {b : Nat} {l : Bool} {vi vk : Value} (h : NBox w b l vi vk)
    (h2 : tmps[2]?.getD undef = .pointer (some ⟨b, 0, none⟩)) (hR : R (.returned (.agg #[.bool l, vi, vk])) w) : bodyPost Try.prog Try.f12 R .ret ⟨tmps, []⟩ w := by
  have n0 := blk_cell_J h 0 rfl
  have n1 := blk_cell_J h 1 rfl
  have n2 := blk_cell_J h 2 rfl
  refine ⟨rfl, _, ?_, hR⟩
  simp [results, Try.results12, go_sem, n0, n1, n2, h2]
set_option maxRecDepth 100000 in
set_option maxHeartbeats 8000000 in
theorem copied_calls {J : Jm} {w : World} (hI : Inv J w) {v : Value} {n : Nd} (hn : NdV J v n) (h1 : n.items.length ≤ 1048576) (h2 : n.kids.length ≤ 1048576) :
    Calls Try.prog 12 #[v] w fun e w' => ∃ vn J', e = .returned vn ∧ Ext J w J' w' ∧ NdO J' w' w.heap.size vn n := by
  obtain ⟨vi, vk, rfl, hi, hk⟩ := hn
  obtain ⟨Ai, ci, rfl, hni, hmi⟩ := hi.form
  obtain ⟨Ak, ck, rfl, hnk, hmk⟩ := hk.form
  unfold maxLen at hmi hmk
  have HIs := Lib.hid hi
  have HKs := Lib.hid hk
  clear hi hk
  go_enter Try.func12, Try.ntmps12
  go_upto_region 1 with fail
  have HE0 := Lib.hid (((Ext.refl hI).alloc (.cells #[.bool n.leaf, .slice Ai n.items.length ci, .slice Ak n.kids.length ck] 25)).alloc (.cells #[.bool false, .slice none 0 0, .slice none 0 0] 25))
  have HNA : Hid (NBox ((w.alloc (.cells #[.bool n.leaf, .slice Ai n.items.length ci, .slice Ak n.kids.length ck] 25)).alloc (.cells #[.bool false, .slice none 0 0, .slice none 0 0] 25)) w.heap.size n.leaf (.slice Ai n.items.length ci) (.slice Ak n.kids.length ck)) := (Below.heap_alloc _ _ w.heap.size (by simp)).trans (heap_alloc_new w _)
  have HNB : Hid (TBox ((w.alloc (.cells #[.bool n.leaf, .slice Ai n.items.length ci, .slice Ak n.kids.length ck] 25)).alloc (.cells #[.bool false, .slice none 0 0, .slice none 0 0] 25)) (w.heap.size + 1)) := by
    have h := heap_alloc_new (w.alloc (.cells #[.bool n.leaf, .slice Ai n.items.length ci, .slice Ak n.kids.length ck] 25)) (.cells #[.bool false, .slice none 0 0, .slice none 0 0] 25)
    rw [show (w.alloc (.cells #[.bool n.leaf, .slice Ai n.items.length ci, .slice Ak n.kids.length ck] 25)).heap.size = w.heap.size + 1 by simp] at h
    exact h
  obtain ⟨nb, hnb⟩ : ∃ b, b = w.heap.size := ⟨_, rfl⟩
  obtain ⟨tb, htb⟩ : ∃ b, b = w.heap.size + 1 := ⟨_, rfl⟩
  have HTB := Lib.hid (show w.heap.size ≤ tb ∧ J tb = [] ∧ nb ≠ tb from ⟨by omega, hI.nil (by omega), by omega⟩)
  have hne : nb ≠ tb := HTB.out.2.2
  have hne2 : tb ≠ nb := fun h => hne h.symm
  rw [← htb] at HNB ⊢
  rw [← hnb] at HNA ⊢
  clear hnb htb
  generalize World.alloc (World.alloc w _) _ = W at *
  have n0 : W.drew.cell? ⟨nb, 0, none⟩ = some (.bool n.leaf) := blk_cell_J HNA.out 0 rfl
  have n1 : W.drew.cell? ⟨nb, 1, none⟩ = some (.slice Ai n.items.length ci) := blk_cell_J HNA.out 1 rfl
  have n2 : W.drew.cell? ⟨nb, 2, none⟩ = some (.slice Ak n.kids.length ck) := blk_cell_J HNA.out 2 rfl
  have HE0 := Lib.hid HE0.out.drew
  have HNA := Lib.hid (show NBox W.drew nb _ _ _ from HNA.out)
  have HNB := Lib.hid (show TBox W.drew tb from HNB.out)
  go_region_held3 (fun w' => w'.cell? ⟨nb, 0, none⟩ = some (.bool n.leaf) ∧ w'.cell? ⟨nb, 1, none⟩ = some (.slice Ai n.items.length ci) ∧ w'.cell? ⟨nb, 2, none⟩ = some (.slice Ak n.kids.length ck))
    (first | go_keep | exact HQ1.out | exact HQ2.out)
    (first
      | (go_at_call 37; refine (cloneC_calls HE0.out.inv (HIs.out.mono (HE0.out.le hI)) h1).mono ?_; rintro e w5 ⟨v5, J5, rfl, hE5, hO5, -⟩; obtain ⟨A5, c5, rfl, -, -⟩ := hO5.sl.form; have HS5 := Lib.hid hE5.below.size; have HJ5 := Lib.hid (show J5 tb = [] from (hE5.old tb (Array.getElem?_eq_some_iff.1 HNB.out).1).trans HTB.out.2.1); have HE5 := Lib.hid (HE0.out.trans hE5); have HO5 := Lib.hid hO5; have HA5 := Lib.hid (show NBox w5 nb n.leaf (.slice Ai n.items.length ci) (.slice Ak n.kids.length ck) from HNA.out.ext hE5); have HB5 := Lib.hid (show TBox w5 tb from HNB.out.ext hE5); clear hE5 hO5; have HQ1 : Hid (w5.cell? ⟨nb, 0, none⟩ = some (.bool n.leaf) ∧ w5.cell? ⟨nb, 1, none⟩ = some (.slice Ai n.items.length ci) ∧ w5.cell? ⟨nb, 2, none⟩ = some (.slice Ak n.kids.length ck)) := ⟨blk_cell_J HA5.out 0 rfl, blk_cell_J HA5.out 1 rfl, blk_cell_J HA5.out 2 rfl⟩)
      | (go_at_call 39; refine (cloneK_calls HE5.out.inv (HKs.out.mono (HE5.out.le hI)) h2).mono ?_; rintro e w6 ⟨v6, J6, rfl, hE6, hO6, -⟩; obtain ⟨A6, c6, rfl, -, -⟩ := hO6.sl.form; have HJ6 := Lib.hid (show J6 tb = [] from (hE6.old tb (Array.getElem?_eq_some_iff.1 HB5.out).1).trans HJ5.out); have HE6 := Lib.hid (HE5.out.trans hE6); have HO6 := Lib.hid (hO6.lower HS5.out); have HO5 := Lib.hid (HO5.out.ext hE6); have HA6 := Lib.hid (show NBox w6 nb n.leaf (.slice Ai n.items.length ci) (.slice Ak n.kids.length ck) from HA5.out.ext hE6); have HB6 := Lib.hid (show TBox w6 tb from HB5.out.ext hE6); clear hE6 hO6; have HQ2 : Hid (w6.cell? ⟨nb, 0, none⟩ = some (.bool n.leaf) ∧ w6.cell? ⟨nb, 1, none⟩ = some (.slice Ai n.items.length ci) ∧ w6.cell? ⟨nb, 2, none⟩ = some (.slice Ak n.kids.length ck)) := ⟨blk_cell_J HA6.out 0 rfl, blk_cell_J HA6.out 1 rfl, blk_cell_J HA6.out 2 rfl⟩; have t0 := blk_cell_J HB6.out 0 rfl; have t1 := blk_cell_J HB6.out 1 rfl; have t2 := blk_cell_J HB6.out 2 rfl; have tf0 := frozen_of_row _ tb 0 _ _ HB6.out; have tf1 := frozen_of_row _ tb 1 _ _ HB6.out; have tf2 := frozen_of_row _ tb 2 _ _ HB6.out))
  go_wp2_with fail
  exact bodyPost_copied (put3_box HB6.out _ _ _) rfl ⟨_, J6, rfl, put3_ext HE6.out HTB.out.1 HJ6.out _ _ _, put3_node ⟨_, _, rfl, HO5.out, HO6.out⟩ (Array.getElem?_eq_some_iff.1 HNB.out).1 HE0.out.below.size _ _ _⟩
end Go.Proofs.Ytnnkgjaahmflmaa
