/- The statement CellGets. -/
import Derived.Test.YtnnkgjaahmflmaaCellForms
import Derived.Test.YtnnkgjaahmflmaaJCut
namespace Go.Proofs.Ytnnkgjaahmflmaa
open Go.RowKit
set_option linter.unusedVariables false

theorem getN_S {l : List UInt8} {n : Nd} (h : getN l = some n) : NdS n := by
  unfold getN at h
  split at h
  · cases h
  · rename_i b0 t
    split at h
    · rename_i h1
      split at h
      · cases h
        exact rNode_S _ t (by have := h1.1; simp only [List.length_cons] at this; omega)
      · cases h
    · cases h
def zN : Nd := ⟨false, [], []⟩
def zL : Nd := ⟨true, [], []⟩
theorem zN_S : NdS zN := ⟨by decide, fun x h => by cases h⟩
theorem zL_S : NdS zL := ⟨by decide, fun x h => by cases h⟩
theorem zN_V (J : Jm) : NdV J (.agg #[.bool false, .slice none 0 0, .slice none 0 0]) zN := ⟨_, _, rfl, Sl.nil _ _, Sl.nil _ _⟩
theorem zL_V (J : Jm) : NdV J (.agg #[.bool true, .slice none 0 0, .slice none 0 0]) zL := ⟨_, _, rfl, Sl.nil _ _, Sl.nil _ _⟩
theorem zL_wrong : wrong zL = 0 := by
  have h1 : right zL = true := by kernel_rfl
  have h2 : form zL = [1, 0] := by kernel_rfl
  unfold wrong; rw [h1, h2]; rfl
set_option maxRecDepth 100000 in
set_option maxHeartbeats 8000000 in
theorem pages_calls {J : Jm} {w : World} (hI : Inv J w) {v : Value} {l : List UInt8} (hb : Bs J v l) :
    Calls Try.prog 23 #[v] w fun e w' => e = .returned (.bool (l == page zL)) ∧ Below w.heap.size w w' := by
  obtain ⟨A, c, rfl, -, -⟩ := hb.form
  have HB := Lib.hid hb
  clear hb
  go_enter Try.func23, Try.ntmps23
  go_wp2_with fail
  refine (Page_calls hI (zL_V J) zL_S zL_wrong).mono ?_
  rintro e w1 ⟨v1, J1, rfl, hE, hO⟩
  have HE := Lib.hid hE
  have HB1 := Lib.hid (show Bs J1 v1 (page zL) from Own.bs hO)
  obtain ⟨A1, c1, rfl, -, -⟩ := hO.sl.form
  clear hE hO
  go_wp2_with fail
  refine (equal_calls HE.out.inv (HB.out.mono (HE.out.le hI)) HB1.out).mono ?_
  rintro e w2 ⟨rfl, rfl⟩
  go_wp2_with fail
  go_ret
  exact ⟨rfl, HE.out.below⟩
set_option maxRecDepth 100000 in
set_option maxHeartbeats 8000000 in
theorem cellGets_walk {J : Jm} {w : World} (hI : Inv J w) {v : Value} {l : List UInt8} (hb : Bs J v l) (hl : l.length ≤ 140737488351232) :
    Calls Try.prog 4 #[v] w fun e w' => e = .returned (.bool true) ∧ Below w.heap.size w w' := by
  obtain ⟨A, c, rfl, hnc, hmc⟩ := hb.form
  unfold maxLen at hmc
  have HB := Lib.hid hb
  clear hb
  go_enter Try.func4, Try.ntmps4
  go_wp2_with fail
  refine (works_calls hI).mono ?_
  rintro e w1 ⟨rfl, hb1⟩
  have HE := Lib.hid (Ext.of_below hI hb1)
  clear hb1
  by_cases h1 : 1000 < l.length
  · have h1i : (1000 : Int) < l.length := by omega
    go_wp2_with fail
    go_ret
    exact ⟨rfl, HE.out.below⟩
  · have h1i : ¬ (1000 : Int) < l.length := by omega
    go_wp2_with fail
    refine (cloneB_calls HE.out.inv HB.out (by omega)).mono ?_
    rintro e w2 ⟨v2, J2, rfl, hX, hO2, -⟩
    obtain ⟨A2, c2, rfl, -, -⟩ := hO2.sl.form
    have HB2 := Lib.hid (HB.out.mono (hX.le HE.out.inv))
    have HO2 := Lib.hid (hO2.lower HE.out.below.size)
    have HE := Lib.hid (HE.out.trans hX)
    have HBO := Lib.hid (show Bs J2 _ l from Own.bs hO2)
    clear hX hO2
    go_wp2_with fail
    refine (Get_calls HE.out.inv HBO.out (by omega)).mono ?_
    rintro e w3 ⟨vn, J3, rfl, hX, hN⟩
    obtain ⟨vi, vk, rfl, hoi, hok⟩ := hN
    obtain ⟨Ai, ci, rfl, -, -⟩ := hoi.sl.form
    obtain ⟨Ak, ck, rfl, -, -⟩ := hok.sl.form
    have HS2 := Lib.hid hX.below.size
    have HO3 := Lib.hid (HO2.out.ext hX)
    have HE := Lib.hid (HE.out.trans hX)
    have HOI := Lib.hid hoi
    have HOK := Lib.hid hok
    have HLT := Lib.hid HO2.out.lt
    clear hX hoi hok
    go_upto_region 7 with fail
    have hX := (Ext.refl HE.out.inv).alloc (.cells #[.bool (gN l).leaf, .slice Ai (gN l).items.length ci, .slice Ak (gN l).kids.length ck] 25)
    have HM := Lib.hid (show NBox (w3.alloc (.cells #[.bool (gN l).leaf, .slice Ai (gN l).items.length ci, .slice Ak (gN l).kids.length ck] 25)) w3.heap.size (gN l).leaf (.slice Ai (gN l).items.length ci) (.slice Ak (gN l).kids.length ck) from heap_alloc_new w3 _)
    have HO4 := Lib.hid (HO3.out.ext hX)
    have HOI := Lib.hid (HOI.out.ext hX)
    have HOK := Lib.hid (HOK.out.ext hX)
    have HE := Lib.hid (HE.out.trans hX)
    have HNE := Lib.hid (show ∀ b, w2.heap.size ≤ b → some b ≠ (Value.slice A2 l.length c2).ownBlock from fun b hb e => by have := (HLT.out b e.symm).2; omega)
    have HNM := Lib.hid (HNE.out w3.heap.size HS2.out)
    clear hX
    generalize World.alloc w3 _ = W4 at *
    generalize w3.heap.size = mb at *
    go_upto_region 8 with ((refine wpList_clear_J (J := J3) (s := .tmp 18) (t := 30) (T := 5) (z := .int .u8 0) (bytes := 1) (base := w.heap.size) (v := .slice A2 l.length c2) (n := l.length) (cs := bcs l) rfl rfl Try.underlying30 info_u8 rfl rfl rfl HE.out.inv HO4.out ?_; intro w5 J5 ho5 hi5 hg5 hs5 hj5; have HE5 := Lib.hid (HE.out.cleared HO4.out (Nat.le_refl _) hi5 hg5 hj5); have HM5 := Lib.hid (show NBox w5 mb _ _ _ from (hg5.block mb (Array.getElem?_eq_some_iff.1 HM.out).1 HNM.out).trans HM.out); have HKI := Lib.hid (HOI.out.kept (J' := J5) (w' := w5) (fun b e => ⟨hg5.block b (HOI.out.lt b e).2 (HNE.out b (HOI.out.lt b e).1), hj5 b (HNE.out b (HOI.out.lt b e).1)⟩)); have HKK := Lib.hid (HOK.out.kept (J' := J5) (w' := w5) (fun b e => ⟨hg5.block b (HOK.out.lt b e).2 (HNE.out b (HOK.out.lt b e).1), hj5 b (HNE.out b (HOK.out.lt b e).1)⟩)); clear ho5 hi5 hg5 hs5 hj5))
    have HB5 := Lib.hid (HB.out.mono (HE5.out.le hI))
    have HV5 := Lib.hid (show NdV J5 (.agg #[.bool (gN l).leaf, .slice Ai (gN l).items.length ci, .slice Ak (gN l).kids.length ck]) (gN l) from ⟨_, _, rfl, HKI.out.sl, HKK.out.sl⟩)
    clear HKI HKK
    cases hg : getN l with
    | none =>
      obtain ⟨he, hn⟩ := gN_none hg
      rw [hn] at HM5 HV5 ⊢
      rw [he]
      have HPG := Lib.hid (show (l == page zL) = false from by
        simp only [beq_eq_false_iff_ne]
        intro e
        rw [e, getN_page zL_wrong] at hg
        cases hg)
      clear he hn hg
      have m0 := blk_cell_J HM5.out 0 rfl
      have m1 := blk_cell_J HM5.out 1 rfl
      have m2 := blk_cell_J HM5.out 2 rfl
      go_wp2_with fail
      refine (refSame_calls HE5.out.inv HV5.out (zN_V J5)).mono ?_
      rw [show decide ((⟨false, [], []⟩ : Nd) = zN) = true from decide_eq_true rfl]
      rintro e w6 ⟨rfl, hb6⟩
      have HE6 := Lib.hid (HE5.out.step hb6)
      clear hb6
      go_wp2_with fail
      refine (pages_calls HE6.out.inv HB5.out).mono ?_
      rw [HPG.out]
      rintro e w7 ⟨rfl, hb7⟩
      have HE7 := Lib.hid (HE6.out.step hb7)
      clear hb7
      go_wp2_with fail
      go_ret
      exact ⟨rfl, HE7.out.below⟩
    | some n =>
      have he : gE l = 0 := by unfold gE; rw [hg]; rfl
      have hn : gN l = n := by unfold gN; rw [hg]; rfl
      obtain ⟨hw, hp⟩ := getN_some hg
      have HS := Lib.hid (getN_S hg)
      rw [hn] at HM5 HV5 ⊢
      rw [he]
      have HW := Lib.hid hw
      have HP := Lib.hid hp
      clear he hn hg hp hw
      have m0 := blk_cell_J HM5.out 0 rfl
      have m1 := blk_cell_J HM5.out 1 rfl
      have m2 := blk_cell_J HM5.out 2 rfl
      go_wp2_with fail
      refine (Wrong_calls HE5.out.inv HV5.out HS.out).mono ?_
      rw [HW.out]
      rintro e w6 ⟨rfl, hb6⟩
      have HE6 := Lib.hid (HE5.out.step hb6)
      have HM6 := Lib.hid (show NBox w6 mb _ _ _ from (hb6.block mb (Array.getElem?_eq_some_iff.1 HM5.out).1).trans HM5.out)
      clear hb6 m0 m1 m2
      have m0 := blk_cell_J HM6.out 0 rfl
      have m1 := blk_cell_J HM6.out 1 rfl
      have m2 := blk_cell_J HM6.out 2 rfl
      go_wp2_with fail
      refine (Page_calls HE6.out.inv HV5.out HS.out HW.out).mono ?_
      rw [HP.out]
      rintro e w7 ⟨v7, J7, rfl, hX, hO7⟩
      have HB7 := Lib.hid (HB5.out.mono (hX.le HE6.out.inv))
      have HE7 := Lib.hid (HE6.out.trans hX)
      have HO7 := Lib.hid (show Bs J7 v7 l from Own.bs hO7)
      obtain ⟨A7, c7, rfl, -, -⟩ := hO7.sl.form
      clear hX hO7 m0 m1 m2
      go_wp2_with fail
      refine (equal_calls HE7.out.inv HO7.out HB7.out).mono ?_
      rw [show (l == l) = true from by simp]
      rintro e w8 ⟨rfl, rfl⟩
      go_wp2_with fail
      go_ret
      exact ⟨rfl, HE7.out.below⟩
end Go.Proofs.Ytnnkgjaahmflmaa
