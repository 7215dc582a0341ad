/- The statement CellBack. -/
import Derived.Test.YtnnkgjaahmflmaaCellGets
namespace Go.Proofs.Ytnnkgjaahmflmaa
open Go.RowKit
set_option linter.unusedVariables false

theorem nd_eq {a b : Nd} : (a = b) ↔ (a.leaf = b.leaf ∧ a.items = b.items ∧ a.kids = b.kids) := by
  cases a; cases b; simp
set_option maxRecDepth 100000 in
set_option maxHeartbeats 8000000 in
theorem same_calls {J : Jm} {w : World} (hI : Inv J w) {v u : Value} {a b : Nd} (ha : NdV J v a) (hb : NdV J u b) :
    Calls Try.prog 24 #[v, u] w fun e w' => e = .returned (.bool (decide (a = b))) ∧ Below w.heap.size w w' := by
  obtain ⟨vi, vk, rfl, hi, hk⟩ := ha
  obtain ⟨ui, uk, rfl, gi, gk⟩ := hb
  obtain ⟨Ai, ci, rfl, -, -⟩ := hi.form
  obtain ⟨Ak, ck, rfl, -, -⟩ := hk.form
  obtain ⟨Bi, di, rfl, -, -⟩ := gi.form
  obtain ⟨Bk, dk, rfl, -, -⟩ := gk.form
  have HAi := Lib.hid hi
  have HAk := Lib.hid hk
  have HBi := Lib.hid gi
  have HBk := Lib.hid gk
  obtain ⟨l1, i1, k1⟩ := a
  obtain ⟨l2, i2, k2⟩ := b
  have HQ := Lib.hid (show decide (Nd.mk l1 i1 k1 = ⟨l2, i2, k2⟩) = (decide (l1 = l2) && (decide (i1 = i2) && decide (k1 = k2))) from by simp)
  simp only at *
  clear hi hk gi gk
  go_enter Try.func24, Try.ntmps24
  go_upto_region 1 with fail
  have HE := Lib.hid (((Ext.refl hI).alloc (.cells #[.bool l1, .slice Ai i1.length ci, .slice Ak k1.length ck] 25)).alloc (.cells #[.bool l2, .slice Bi i2.length di, .slice Bk k2.length dk] 25))
  have HN : Hid (NBox ((w.alloc (.cells #[.bool l1, .slice Ai i1.length ci, .slice Ak k1.length ck] 25)).alloc (.cells #[.bool l2, .slice Bi i2.length di, .slice Bk k2.length dk] 25)) w.heap.size l1 (.slice Ai i1.length ci) (.slice Ak k1.length ck)) := (Below.heap_alloc _ _ w.heap.size (by simp)).trans (heap_alloc_new w _)
  have HM : Hid (NBox ((w.alloc (.cells #[.bool l1, .slice Ai i1.length ci, .slice Ak k1.length ck] 25)).alloc (.cells #[.bool l2, .slice Bi i2.length di, .slice Bk k2.length dk] 25)) (w.heap.size + 1) l2 (.slice Bi i2.length di) (.slice Bk k2.length dk)) := by
    have h := heap_alloc_new (w.alloc (.cells #[.bool l1, .slice Ai i1.length ci, .slice Ak k1.length ck] 25)) (.cells #[.bool l2, .slice Bi i2.length di, .slice Bk k2.length dk] 25)
    rw [show (w.alloc (.cells #[.bool l1, .slice Ai i1.length ci, .slice Ak k1.length ck] 25)).heap.size = w.heap.size + 1 by simp] at h
    exact h
  generalize World.alloc (World.alloc w _) _ = W at *
  have n0 := blk_cell_J HN.out 0 rfl
  have n1 := blk_cell_J HN.out 1 rfl
  have n2 := blk_cell_J HN.out 2 rfl
  have m0 := blk_cell_J HM.out 0 rfl
  have m1 := blk_cell_J HM.out 1 rfl
  have m2 := blk_cell_J HM.out 2 rfl
  by_cases hl : l1 = l2
  · subst hl
    have HQ2 := Lib.hid (show decide (Nd.mk l1 i1 k1 = ⟨l1, i2, k2⟩) = (decide (i1 = i2) && decide (k1 = k2)) from by rw [HQ.out]; simp)
    cases l1
    all_goals
      go_wp2_with fail
      refine (cellsEq_calls HE.out.inv HAi.out HBi.out).mono ?_
      rintro e w1 ⟨rfl, hb1⟩
      have hX := Ext.of_below HE.out.inv hb1
      have HE1 := Lib.hid (HE.out.trans hX)
      have HN1 := Lib.hid (HN.out.ext hX)
      have HM1 := Lib.hid (HM.out.ext hX)
      clear hX hb1 n0 n1 n2 m0 m1 m2
      have n0 := blk_cell_J HN1.out 0 rfl
      have n1 := blk_cell_J HN1.out 1 rfl
      have n2 := blk_cell_J HN1.out 2 rfl
      have m0 := blk_cell_J HM1.out 0 rfl
      have m1 := blk_cell_J HM1.out 1 rfl
      have m2 := blk_cell_J HM1.out 2 rfl
      cases he : decide (i1 = i2) with
      | false =>
        have HD := Lib.hid (HQ2.out.trans (by rw [he, Bool.false_and]))
        clear he
        go_wp2_with fail
        go_ret
        exact ⟨by rw [HD.out]; rfl, HE1.out.below⟩
      | true =>
        have HD := Lib.hid (HQ2.out.trans (by rw [he, Bool.true_and]))
        clear he
        go_wp2_with fail
        refine (intsEq_calls HE1.out.inv HAk.out HBk.out).mono ?_
        rintro e w2 ⟨rfl, hb2⟩
        have HE2 := Lib.hid (HE1.out.step hb2)
        clear hb2
        cases hk : decide (k1 = k2)
        all_goals
          rw [hk] at HD
          clear hk
          go_wp2_with fail
          go_ret
          exact ⟨by rw [HD.out]; rfl, HE2.out.below⟩
  · have HD := Lib.hid (HQ.out.trans (by rw [decide_eq_false hl, Bool.false_and]))
    rcases bool_neS hl with ⟨rfl, rfl⟩ | ⟨rfl, rfl⟩
    all_goals
      clear hl
      go_wp2_with fail
      go_ret
      exact ⟨by rw [HD.out]; rfl, HE.out.below⟩
set_option maxRecDepth 100000 in
set_option maxHeartbeats 8000000 in
theorem cellBack_walk {J : Jm} {w : World} (hI : Inv J w) {v : Value} {n : Nd} (hn : NdV J v n) (hs : ∀ x ∈ n.items, ClS x) {vb : Value} {l : List UInt8} (hb : Bs J vb l) (hlb : l.length ≤ 140737488351232) :
    Calls Try.prog 5 #[v, vb] w fun e w' => e = .returned (.bool true) ∧ Below w.heap.size w w' := by
  obtain ⟨Ai, ci, Ak, ck, rfl, hni, hmi, hnk, hmk⟩ := hn.form
  unfold maxLen at hmi hmk
  have HV := Lib.hid hn
  clear hn
  obtain ⟨Ab, cb, rfl, hnb1, hmb⟩ := hb.form
  unfold maxLen at hmb
  have HBb := Lib.hid hb
  clear hb
  go_enter Try.func5, Try.ntmps5
  go_upto_region 1 with fail
  have HE := Lib.hid ((Ext.refl hI).alloc (.cells #[.bool n.leaf, .slice Ai n.items.length ci, .slice Ak n.kids.length ck] 25))
  have HN : Hid (NBox (w.alloc (.cells #[.bool n.leaf, .slice Ai n.items.length ci, .slice Ak n.kids.length ck] 25)) w.heap.size n.leaf (.slice Ai n.items.length ci) (.slice Ak n.kids.length ck)) := heap_alloc_new w _
  obtain ⟨nb, hnb⟩ : ∃ nb, nb = w.heap.size := ⟨_, rfl⟩
  have HN := Lib.hid (show NBox _ nb n.leaf _ _ from by rw [hnb]; exact HN.out)
  rw [← hnb]
  generalize World.alloc w _ = W at *
  clear hnb
  have n0 := blk_cell_J HN.out 0 rfl
  have n1 := blk_cell_J HN.out 1 rfl
  have n2 := blk_cell_J HN.out 2 rfl
  go_wp2_with fail
  refine (works_calls HE.out.inv).mono ?_
  rintro e w1 ⟨rfl, hb1⟩
  have hX := Ext.of_below HE.out.inv hb1
  have HN := Lib.hid (HN.out.ext hX)
  have HE := Lib.hid (HE.out.trans hX)
  clear hX hb1 n0 n1 n2
  have n0 := blk_cell_J HN.out 0 rfl
  have n1 := blk_cell_J HN.out 1 rfl
  have n2 := blk_cell_J HN.out 2 rfl
  go_wp2_with fail
  refine (long_calls HV.out).mono ?_
  rintro e w2 ⟨rfl, hb2⟩
  have hX := Ext.of_below HE.out.inv hb2
  have HN := Lib.hid (HN.out.ext hX)
  have HE := Lib.hid (HE.out.trans hX)
  clear hX hb2 n0 n1 n2
  have n0 := blk_cell_J HN.out 0 rfl
  have n1 := blk_cell_J HN.out 1 rfl
  have n2 := blk_cell_J HN.out 2 rfl
  cases hl : longN n with
  | true =>
    go_wp2_with fail
    go_ret
    exact ⟨rfl, HE.out.below⟩
  | false =>
    by_cases h1 : 1000 < l.length
    · have h1i : (1000 : Int) < l.length := by omega
      go_wp2_with fail
      go_ret
      exact ⟨rfl, HE.out.below⟩
    · have h1i : ¬ (1000 : Int) < l.length := by omega
      obtain ⟨hns, hn3, hk3⟩ := nds_of hl hs
      have HS := Lib.hid hns
      clear hl hs hns
      go_wp2_with fail
      refine (Put_calls HE.out.inv HV.out HS.out).mono ?_
      rintro e w5 ⟨v5, J5, rfl, hX, hO5⟩
      have HO := Lib.hid (show Bs J5 v5 (outP n) from Own.bs hO5)
      obtain ⟨A5, c5, rfl, -, -⟩ := hO5.sl.form
      clear hO5
      have HN := Lib.hid (HN.out.ext hX)
      have HV := Lib.hid (HV.out.mono (hX.le HE.out.inv))
      have HBb := Lib.hid (HBb.out.mono (hX.le HE.out.inv))
      have HE := Lib.hid (HE.out.trans hX)
      clear hX n0 n1 n2
      have n0 := blk_cell_J HN.out 0 rfl
      have n1 := blk_cell_J HN.out 1 rfl
      have n2 := blk_cell_J HN.out 2 rfl
      by_cases hw : wrong n = 0
      · have HW := Lib.hid hw
        have hpl : (page n).length = 240 := page_len (wrong_right hw).2
        have HG := Lib.hid (show gE (page n) = 0 ∧ gN (page n) = n from by
          have h := getN_page hw
          unfold gE gN
          rw [h]; exact ⟨rfl, rfl⟩)
        have HOP := Lib.hid (show outP n = page n from if_pos hw)
        rw [HOP.out] at HO ⊢
        have HO := Lib.hid (show Bs J5 (.slice A5 240 c5) (page n) from by have h := HO.out; rw [hpl] at h; exact h)
        rw [hpl]
        rw [hw]
        clear hw
        go_wp2_with fail
        refine (Get_calls HE.out.inv HO.out (by rw [hpl]; decide)).mono ?_
        clear hpl
        rintro e w6 ⟨vn, J6, rfl, hX, hNO⟩
        rw [HG.out.1]
        rw [HG.out.2] at hNO
        obtain ⟨vi, vk, rfl, hoi, hok⟩ := hNO
        obtain ⟨Bi, di, rfl, -, -⟩ := hoi.sl.form
        obtain ⟨Bk, dk, rfl, -, -⟩ := hok.sl.form
        have HV6 := Lib.hid (show NdV J6 (.agg #[.bool n.leaf, .slice Bi n.items.length di, .slice Bk n.kids.length dk]) n from ⟨_, _, rfl, hoi.sl, hok.sl⟩)
        clear hoi hok
        have HN := Lib.hid (HN.out.ext hX)
        have HV := Lib.hid (HV.out.mono (hX.le HE.out.inv))
        have HBb := Lib.hid (HBb.out.mono (hX.le HE.out.inv))
        have HE := Lib.hid (HE.out.trans hX)
        clear hX n0 n1 n2
        have n0 := blk_cell_J HN.out 0 rfl
        have n1 := blk_cell_J HN.out 1 rfl
        have n2 := blk_cell_J HN.out 2 rfl
        clear n0 n1 n2
        go_upto_region 8 with fail
        have hX := (Ext.refl HE.out.inv).alloc (.cells #[.bool n.leaf, .slice Bi n.items.length di, .slice Bk n.kids.length dk] 25)
        have HM := Lib.hid (show NBox (w6.alloc (.cells #[.bool n.leaf, .slice Bi n.items.length di, .slice Bk n.kids.length dk] 25)) w6.heap.size n.leaf (.slice Bi n.items.length di) (.slice Bk n.kids.length dk) from heap_alloc_new w6 _)
        have HN := Lib.hid (HN.out.ext hX)
        have HE := Lib.hid (HE.out.trans hX)
        clear hX
        generalize World.alloc w6 _ = W6 at *
        generalize w6.heap.size = mb at *
        have n0 := blk_cell_J HN.out 0 rfl
        have n1 := blk_cell_J HN.out 1 rfl
        have n2 := blk_cell_J HN.out 2 rfl
        have m0 := blk_cell_J HM.out 0 rfl
        have m1 := blk_cell_J HM.out 1 rfl
        have m2 := blk_cell_J HM.out 2 rfl
        go_wp2_with fail
        refine (same_calls HE.out.inv HV6.out HV.out).mono ?_
        rw [show decide (n = n) = true from decide_eq_true rfl]
        rintro e w7 ⟨rfl, hb7⟩
        have hX := Ext.of_below HE.out.inv hb7
        have HM := Lib.hid (HM.out.ext hX)
        clear hX m0 m1 m2
        have hX := Ext.of_below HE.out.inv hb7
        have HN := Lib.hid (HN.out.ext hX)
        have HE := Lib.hid (HE.out.trans hX)
        clear hX hb7 n0 n1 n2
        have n0 := blk_cell_J HN.out 0 rfl
        have n1 := blk_cell_J HN.out 1 rfl
        have n2 := blk_cell_J HN.out 2 rfl
        have m0 := blk_cell_J HM.out 0 rfl
        have m1 := blk_cell_J HM.out 1 rfl
        have m2 := blk_cell_J HM.out 2 rfl
        go_wp2_with fail
        refine (Check_calls HE.out.inv HV6.out HS.out).mono ?_
        rw [HW.out]
        rintro e w8 ⟨rfl, hb8⟩
        clear m0 m1 m2
        have hX := Ext.of_below HE.out.inv hb8
        have HN := Lib.hid (HN.out.ext hX)
        have HE := Lib.hid (HE.out.trans hX)
        clear hX hb8 n0 n1 n2
        have n0 := blk_cell_J HN.out 0 rfl
        have n1 := blk_cell_J HN.out 1 rfl
        have n2 := blk_cell_J HN.out 2 rfl
        go_wp2_with fail
        refine (Get_calls HE.out.inv HBb.out (by omega)).mono ?_
        rintro e w3 ⟨vn, J3, rfl, hX, hNO⟩
        obtain ⟨vi, vk, rfl, hoi, hok⟩ := hNO
        obtain ⟨Bi, di, rfl, -, -⟩ := hoi.sl.form
        obtain ⟨Bk, dk, rfl, -, -⟩ := hok.sl.form
        have HBb := Lib.hid (HBb.out.mono (hX.le HE.out.inv))
        have HV3 := Lib.hid (show NdV J3 (.agg #[.bool (gN l).leaf, .slice Bi (gN l).items.length di, .slice Bk (gN l).kids.length dk]) (gN l) from ⟨_, _, rfl, hoi.sl, hok.sl⟩)
        have HE := Lib.hid (HE.out.trans hX)
        clear hX hoi hok n0 n1 n2
        cases hg : getN l with
        | none =>
          obtain ⟨he, hn⟩ := gN_none hg
          rw [he]
          clear he hn hg
          go_wp2_with fail
          go_ret
          exact ⟨rfl, (HE.out.alloc _).below⟩
        | some m =>
          have he : gE l = 0 := by unfold gE; rw [hg]; rfl
          have hn : gN l = m := by unfold gN; rw [hg]; rfl
          obtain ⟨hw, hp⟩ := getN_some hg
          have HS3 := Lib.hid (getN_S hg)
          rw [hn] at HV3 ⊢
          rw [he]
          have HW := Lib.hid hw
          have HOP := Lib.hid (show outP m = l from by unfold outP; rw [if_pos hw, hp])
          clear he hn hg hp hw
          go_upto_region 13 with fail
          have hX := (Ext.refl HE.out.inv).alloc (.cells #[.bool m.leaf, .slice Bi m.items.length di, .slice Bk m.kids.length dk] 25)
          have HM := Lib.hid (show NBox (w3.alloc (.cells #[.bool m.leaf, .slice Bi m.items.length di, .slice Bk m.kids.length dk] 25)) w3.heap.size m.leaf (.slice Bi m.items.length di) (.slice Bk m.kids.length dk) from heap_alloc_new w3 _)
          have HE := Lib.hid (HE.out.trans hX)
          clear hX
          generalize World.alloc w3 _ = W3 at *
          generalize w3.heap.size = mb at *
          have m0 := blk_cell_J HM.out 0 rfl
          have m1 := blk_cell_J HM.out 1 rfl
          have m2 := blk_cell_J HM.out 2 rfl
          go_wp2_with fail
          refine (Put_calls HE.out.inv HV3.out HS3.out).mono ?_
          rw [HW.out, HOP.out]
          rintro e w5 ⟨v5, J5, rfl, hX, hO5⟩
          have HB5 := Lib.hid (HBb.out.mono (hX.le HE.out.inv))
          have HO5 := Lib.hid (show Bs J5 v5 l from Own.bs hO5)
          obtain ⟨A5, c5, rfl, -, -⟩ := hO5.sl.form
          have HE := Lib.hid (HE.out.trans hX)
          clear hX hO5 m0 m1 m2
          go_wp2_with fail
          refine (equal_calls HE.out.inv HO5.out HB5.out).mono ?_
          rw [show (l == l) = true from by simp]
          rintro e w8 ⟨rfl, rfl⟩
          go_wp2_with fail
          go_ret
          exact ⟨rfl, HE.out.below⟩
      · obtain ⟨z, hz⟩ : ∃ z, z = wrong n := ⟨_, rfl⟩
        rw [← hz]
        have e7 : ((z : Int) == 0) = false := by simp; omega
        have e8 : ¬ (z : Int) = 0 := by omega
        clear hz hw
        go_wp2_with fail
        refine (Get_calls HE.out.inv HBb.out (by omega)).mono ?_
        rintro e w3 ⟨vn, J3, rfl, hX, hNO⟩
        obtain ⟨vi, vk, rfl, hoi, hok⟩ := hNO
        obtain ⟨Bi, di, rfl, -, -⟩ := hoi.sl.form
        obtain ⟨Bk, dk, rfl, -, -⟩ := hok.sl.form
        have HBb := Lib.hid (HBb.out.mono (hX.le HE.out.inv))
        have HV3 := Lib.hid (show NdV J3 (.agg #[.bool (gN l).leaf, .slice Bi (gN l).items.length di, .slice Bk (gN l).kids.length dk]) (gN l) from ⟨_, _, rfl, hoi.sl, hok.sl⟩)
        have HE := Lib.hid (HE.out.trans hX)
        clear hX hoi hok n0 n1 n2
        cases hg : getN l with
        | none =>
          obtain ⟨he, hn⟩ := gN_none hg
          rw [he]
          clear he hn hg
          go_wp2_with fail
          go_ret
          exact ⟨rfl, (HE.out.alloc _).below⟩
        | some m =>
          have he : gE l = 0 := by unfold gE; rw [hg]; rfl
          have hn : gN l = m := by unfold gN; rw [hg]; rfl
          obtain ⟨hw, hp⟩ := getN_some hg
          have HS3 := Lib.hid (getN_S hg)
          rw [hn] at HV3 ⊢
          rw [he]
          have HW := Lib.hid hw
          have HOP := Lib.hid (show outP m = l from by unfold outP; rw [if_pos hw, hp])
          clear he hn hg hp hw
          go_upto_region 13 with fail
          have hX := (Ext.refl HE.out.inv).alloc (.cells #[.bool m.leaf, .slice Bi m.items.length di, .slice Bk m.kids.length dk] 25)
          have HM := Lib.hid (show NBox (w3.alloc (.cells #[.bool m.leaf, .slice Bi m.items.length di, .slice Bk m.kids.length dk] 25)) w3.heap.size m.leaf (.slice Bi m.items.length di) (.slice Bk m.kids.length dk) from heap_alloc_new w3 _)
          have HE := Lib.hid (HE.out.trans hX)
          clear hX
          generalize World.alloc w3 _ = W3 at *
          generalize w3.heap.size = mb at *
          have m0 := blk_cell_J HM.out 0 rfl
          have m1 := blk_cell_J HM.out 1 rfl
          have m2 := blk_cell_J HM.out 2 rfl
          go_wp2_with fail
          refine (Put_calls HE.out.inv HV3.out HS3.out).mono ?_
          rw [HW.out, HOP.out]
          rintro e w5 ⟨v5, J5, rfl, hX, hO5⟩
          have HB5 := Lib.hid (HBb.out.mono (hX.le HE.out.inv))
          have HO5 := Lib.hid (show Bs J5 v5 l from Own.bs hO5)
          obtain ⟨A5, c5, rfl, -, -⟩ := hO5.sl.form
          have HE := Lib.hid (HE.out.trans hX)
          clear hX hO5 m0 m1 m2
          go_wp2_with fail
          refine (equal_calls HE.out.inv HO5.out HB5.out).mono ?_
          rw [show (l == l) = true from by simp]
          rintro e w8 ⟨rfl, rfl⟩
          go_wp2_with fail
          go_ret
          exact ⟨rfl, HE.out.below⟩
end Go.Proofs.Ytnnkgjaahmflmaa
