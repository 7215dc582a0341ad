/- The walk of CellHalves. -/
import Derived.Test.YtnnkgjaahmflmaaCellHv18
namespace Go.Proofs.Ytnnkgjaahmflmaa
open Go.RowKit
set_option linter.unusedVariables false
set_option maxRecDepth 100000 in
set_option maxHeartbeats 8000000 in
theorem cellHalves_walk0 {J : Jm} {w : World} (hI : Inv J w) {v u : Value} {n m : Nd} {key : List UInt8} (hn : NdV J v n) (hm : NdV J u m) (hs : ∀ x ∈ n.items, ClS x) (hsm : ∀ x ∈ m.items, ClS x) (hk : key.length ≤ 9223372036854775807) :
    Calls Try.prog 7 #[v, u, .string (strB key)] w fun e w' => e = .returned (.bool true) ∧ Below w.heap.size w w' := by
  obtain ⟨Ai, ci, Ak, ck, rfl, hni, hmi, hnk, hmk⟩ := hn.form
  obtain ⟨Bi, di, Bk, dk, rfl, hnj, hmj, hnl, hml⟩ := hm.form
  unfold maxLen at hmi hmk hmj hml
  have HVN := Lib.hid hn
  have HVM := Lib.hid hm
  clear hn hm
  go_enter Try.func7, Try.ntmps7
  go_upto_region 1 with fail
  have hX1 := two_boxes hI #[.bool n.leaf, .slice Ai n.items.length ci, .slice Ak n.kids.length ck] #[.bool m.leaf, .slice Bi m.items.length di, .slice Bk m.kids.length dk] 25
  have HN := Lib.hid (show NBox _ w.heap.size n.leaf (.slice Ai n.items.length ci) (.slice Ak n.kids.length ck) from hX1.2.1)
  have HM := Lib.hid (show NBox _ (w.heap.size + 1) m.leaf (.slice Bi m.items.length di) (.slice Bk m.kids.length dk) from hX1.2.2)
  have HE := Lib.hid hX1.1
  clear hX1
  generalize World.alloc (World.alloc w _) _ = W at *
  generalize hmb : w.heap.size + 1 = mb at *
  obtain ⟨nb, hnb⟩ : ∃ nb, nb = w.heap.size := ⟨_, rfl⟩
  have HN := Lib.hid (show NBox W nb _ _ _ from by rw [hnb]; exact HN.out)
  rw [← hnb]
  clear hmb hnb
  have n0 := blk_cell_J HN.out 0 rfl
  have n1 := blk_cell_J HN.out 1 rfl
  have n2 := blk_cell_J HN.out 2 rfl
  have m0 := blk_cell_J HM.out 0 rfl
  have m1 := blk_cell_J HM.out 1 rfl
  have m2 := blk_cell_J HM.out 2 rfl
  go_wp2_with fail
  refine (works_calls HE.out.inv).mono ?_
  rintro e w1 ⟨rfl, hb1⟩
  have hX := Ext.of_below HE.out.inv hb1
  have HN := Lib.hid (HN.out.ext hX)
  have HM := Lib.hid (HM.out.ext hX)
  have HE := Lib.hid (HE.out.trans hX)
  clear hX hb1 n0 n1 n2 m0 m1 m2
  have n0 := blk_cell_J HN.out 0 rfl
  have n1 := blk_cell_J HN.out 1 rfl
  have n2 := blk_cell_J HN.out 2 rfl
  have m0 := blk_cell_J HM.out 0 rfl
  have m1 := blk_cell_J HM.out 1 rfl
  have m2 := blk_cell_J HM.out 2 rfl
  go_wp2_with fail
  refine (long_calls HVN.out).mono ?_
  cases hl : longN n with
  | true =>
    rintro e w2 ⟨rfl, hb2⟩
    go_wp2_with fail
    go_ret
    exact ⟨rfl, HE.out.below.trans (hb2.mono HE.out.below.size)⟩
  | false =>
    rintro e w2 ⟨rfl, hb2⟩
    have hX := Ext.of_below HE.out.inv hb2
    have HN := Lib.hid (HN.out.ext hX)
    have HM := Lib.hid (HM.out.ext hX)
    have HE := Lib.hid (HE.out.trans hX)
    clear hX hb2 n0 n1 n2 m0 m1 m2
    have n0 := blk_cell_J HN.out 0 rfl
    have n1 := blk_cell_J HN.out 1 rfl
    have n2 := blk_cell_J HN.out 2 rfl
    have m0 := blk_cell_J HM.out 0 rfl
    have m1 := blk_cell_J HM.out 1 rfl
    have m2 := blk_cell_J HM.out 2 rfl
    go_wp2_with fail
    refine (long_calls HVM.out).mono ?_
    cases hlm : longN m with
    | true =>
      rintro e w2 ⟨rfl, hb2⟩
      go_wp2_with fail
      go_ret
      exact ⟨rfl, HE.out.below.trans (hb2.mono HE.out.below.size)⟩
    | false =>
      rintro e w2 ⟨rfl, hb2⟩
      have hX := Ext.of_below HE.out.inv hb2
      have HN := Lib.hid (HN.out.ext hX)
      have HM := Lib.hid (HM.out.ext hX)
      have HE := Lib.hid (HE.out.trans hX)
      clear hX hb2 n0 n1 n2 m0 m1 m2
      have n0 := blk_cell_J HN.out 0 rfl
      have n1 := blk_cell_J HN.out 1 rfl
      have n2 := blk_cell_J HN.out 2 rfl
      have m0 := blk_cell_J HM.out 0 rfl
      have m1 := blk_cell_J HM.out 1 rfl
      have m2 := blk_cell_J HM.out 2 rfl
      obtain ⟨hns, hn3, hk3⟩ := nds_of hl hs
      obtain ⟨hms, hm3, hl3⟩ := nds_of hlm hsm
      have HS := Lib.hid hns
      have HSM := Lib.hid hms
      clear hl hlm hs hsm hns hms
      go_wp2_with fail
      refine (copied_calls HE.out.inv HVN.out (by omega) (by omega)).mono ?_
      rintro e w3 ⟨vc, J3, rfl, hX, hC⟩
      obtain ⟨vci, vck, rfl, hoi, hok⟩ := hC
      obtain ⟨Ci, ei, rfl, -, -⟩ := hoi.sl.form
      obtain ⟨Ck, ek, rfl, -, -⟩ := hok.sl.form
      have HVQ := Lib.hid (show NdV J3 (.agg #[.bool n.leaf, .slice Ci n.items.length ei, .slice Ck n.kids.length ek]) n from ⟨_, _, rfl, hoi.sl, hok.sl⟩)
      have HVN := Lib.hid (HVN.out.mono (hX.le HE.out.inv))
      have HVM := Lib.hid (HVM.out.mono (hX.le HE.out.inv))
      have HN := Lib.hid (HN.out.ext hX)
      have HM := Lib.hid (HM.out.ext hX)
      have HE := Lib.hid (HE.out.trans hX)
      clear hX hoi hok n0 n1 n2 m0 m1 m2
      go_upto_region 6 with fail
      have HQ := Lib.hid (show NBox (w3.alloc (.cells #[.bool n.leaf, .slice Ci n.items.length ei, .slice Ck n.kids.length ek] 25)) w3.heap.size n.leaf (.slice Ci n.items.length ei) (.slice Ck n.kids.length ek) from heap_alloc_new w3 _)
      have hX := (Ext.refl HE.out.inv).alloc (.cells #[.bool n.leaf, .slice Ci n.items.length ei, .slice Ck n.kids.length ek] 25)
      have HN := Lib.hid (HN.out.ext hX)
      have HM := Lib.hid (HM.out.ext hX)
      have HE := Lib.hid (HE.out.trans hX)
      clear hX
      generalize World.alloc w3 _ = wh at *
      generalize w3.heap.size = qb at *
      have q0 := blk_cell_J HQ.out 0 rfl
      have q1 := blk_cell_J HQ.out 1 rfl
      have q2 := blk_cell_J HQ.out 2 rfl
      go_wp2_with fail
      refine (Half_calls HE.out.inv HVQ.out HS.out).mono ?_
      rintro e w4 ⟨va, vb, J1, rfl, hE1, hA1, hB1⟩
      have HOA := Lib.hid hA1
      have HOB := Lib.hid hB1
      obtain ⟨Aa, ca, Ka, da, rfl, -⟩ := hA1.v.form
      obtain ⟨Ab, cb, Kb, db, rfl, -⟩ := hB1.v.form
      have HE1 := Lib.hid hE1
      clear hA1 hB1 hE1 q0 q1 q2
      go_upto_region 7 with fail
      have hX := two_boxes HE1.out.inv #[.bool (hA n).leaf, .slice Aa (hA n).items.length ca, .slice Ka (hA n).kids.length da] #[.bool (hB n).leaf, .slice Ab (hB n).items.length cb, .slice Kb (hB n).kids.length db] 25
      have HBA := Lib.hid (show NBox _ w4.heap.size (hA n).leaf (.slice Aa (hA n).items.length ca) (.slice Ka (hA n).kids.length da) from hX.2.1)
      have HBB := Lib.hid (show NBox _ (w4.heap.size + 1) (hB n).leaf (.slice Ab (hB n).items.length cb) (.slice Kb (hB n).kids.length db) from hX.2.2)
      have HOA := Lib.hid (HOA.out.ext hX.1)
      have HOB := Lib.hid (HOB.out.ext hX.1)
      have HE1 := Lib.hid (HE1.out.trans hX.1)
      clear hX
      generalize World.alloc (World.alloc w4 _) _ = W6 at *
      generalize w4.heap.size + 1 = bb at *
      generalize w4.heap.size = ab at *
      have HN6 := Lib.hid (HN.out.ext HE1.out)
      have n0 := blk_cell_J HN6.out 0 rfl
      have n1 := blk_cell_J HN6.out 1 rfl
      have n2 := blk_cell_J HN6.out 2 rfl
      go_wp2_with fail
      refine (refRightC HE1.out.inv (HVN.out.mono (HE1.out.le HE.out.inv)) HS.out.2).mono ?_
      rintro e w5 ⟨rfl, hb5⟩
      have hX := Ext.of_below HE1.out.inv hb5
      have HBA := Lib.hid (HBA.out.ext hX)
      have HBB := Lib.hid (HBB.out.ext hX)
      have HOA := Lib.hid (HOA.out.ext hX)
      have HOB := Lib.hid (HOB.out.ext hX)
      have HN6 := Lib.hid (HN6.out.ext hX)
      have HE1 := Lib.hid (HE1.out.trans hX)
      clear hX hb5 n0 n1 n2
      go_upto_if 38 with fail
      go_cut [9, 11, 12, 13, 14, 15, 38] (fun _ _ _ _ _ _ _ wx => Hid (Below w5.heap.size w5 wx))
      case first => as_aux_lemma =>
        rcases Bool.eq_false_or_eq_true (right n) with hr | hr
        · have hnr : (!right n) = false := by rw [hr]; rfl
          have HR := Lib.hid hr
          clear hr
          rw [hnr]
          have n0 := blk_cell_J HN6.out 0 rfl
          have n1 := blk_cell_J HN6.out 1 rfl
          have n2 := blk_cell_J HN6.out 2 rfl
          go_wp2_with fail
          refine (refHalf_calls HE1.out.inv (HVN.out.mono (HE1.out.le HE.out.inv)) HS.out HR.out).mono ?_
          rintro e w6 ⟨vc, vd, rfl, hE6, hC6, hD6⟩
          have HVC := Lib.hid hC6
          have HVD := Lib.hid hD6
          obtain ⟨Ac, cc, Kc, dc, rfl, -⟩ := hC6.form
          obtain ⟨Ad, cd, Kd, dd, rfl, -⟩ := hD6.form
          have HE6 := Lib.hid hE6
          clear hC6 hD6 hE6 n0 n1 n2
          go_upto_region 11 with fail
          have hX := two_boxes HE6.out.inv #[.bool (hA n).leaf, .slice Ac (hA n).items.length cc, .slice Kc (hA n).kids.length dc] #[.bool (hB n).leaf, .slice Ad (hB n).items.length cd, .slice Kd (hB n).kids.length dd] 25
          have HBC := Lib.hid (show NBox _ w6.heap.size (hA n).leaf (.slice Ac (hA n).items.length cc) (.slice Kc (hA n).kids.length dc) from hX.2.1)
          have HBD := Lib.hid (show NBox _ (w6.heap.size + 1) (hB n).leaf (.slice Ad (hB n).items.length cd) (.slice Kd (hB n).kids.length dd) from hX.2.2)
          have HE6 := Lib.hid (HE6.out.trans hX.1)
          clear hX
          generalize World.alloc (World.alloc w6 _) _ = W7 at *
          generalize w6.heap.size + 1 = db at *
          generalize w6.heap.size = cb at *
          have HBA := Lib.hid (HBA.out.ext HE6.out)
          have HBB := Lib.hid (HBB.out.ext HE6.out)
          have HOA := Lib.hid (HOA.out.ext HE6.out)
          have HOB := Lib.hid (HOB.out.ext HE6.out)
          have hc : (hE n = 0 ∧ decide (hOk n) = true) ∨ (hE n = 4 ∧ decide (hOk n) = false) := by
            by_cases hok : hOk n
            · exact .inl ⟨hE_ok hok, decide_eq_true hok⟩
            · exact .inr ⟨hE_none HR.out hok, decide_eq_false hok⟩
          have a0 := blk_cell_J HBA.out 0 rfl
          have a1 := blk_cell_J HBA.out 1 rfl
          have a2 := blk_cell_J HBA.out 2 rfl
          have b0 := blk_cell_J HBB.out 0 rfl
          have b1 := blk_cell_J HBB.out 1 rfl
          have b2 := blk_cell_J HBB.out 2 rfl
          have c0 := blk_cell_J HBC.out 0 rfl
          have c1 := blk_cell_J HBC.out 1 rfl
          have c2 := blk_cell_J HBC.out 2 rfl
          have d0 := blk_cell_J HBD.out 0 rfl
          have d1 := blk_cell_J HBD.out 1 rfl
          have d2 := blk_cell_J HBD.out 2 rfl
          rcases hc with ⟨hc1, hc2⟩ | ⟨hc1, hc2⟩
          · rw [hc1, hc2]
            clear hc1 hc2
            go_wp2_with fail
            refine (refSame_calls HE6.out.inv (HOA.out.v) HVC.out).mono ?_
            rw [show decide (hA n = hA n) = true from decide_eq_true rfl]
            rintro e w8 ⟨rfl, hb8⟩
            have hX := Ext.of_below HE6.out.inv hb8
            have HBB := Lib.hid (HBB.out.ext hX)
            have HBD := Lib.hid (HBD.out.ext hX)
            clear a0 a1 a2 b0 b1 b2 c0 c1 c2 d0 d1 d2
            have b0 := blk_cell_J HBB.out 0 rfl
            have b1 := blk_cell_J HBB.out 1 rfl
            have b2 := blk_cell_J HBB.out 2 rfl
            have d0 := blk_cell_J HBD.out 0 rfl
            have d1 := blk_cell_J HBD.out 1 rfl
            have d2 := blk_cell_J HBD.out 2 rfl
            go_wp2_with fail
            refine (refSame_calls hX.inv (HOB.out.v) HVD.out).mono ?_
            rw [show decide (hB n = hB n) = true from decide_eq_true rfl]
            rintro e w9 ⟨rfl, hb9⟩
            go_wp2_with fail
            go_meet
            exact HE6.out.below.trans ((hb8.trans (hb9.mono hb8.size)).mono HE6.out.below.size)
          · rw [hc1, hc2]
            clear hc1 hc2
            go_wp2_with fail
            refine (refSame_calls HE6.out.inv (HOA.out.v) HVC.out).mono ?_
            rw [show decide (hA n = hA n) = true from decide_eq_true rfl]
            rintro e w8 ⟨rfl, hb8⟩
            have hX := Ext.of_below HE6.out.inv hb8
            have HBB := Lib.hid (HBB.out.ext hX)
            have HBD := Lib.hid (HBD.out.ext hX)
            clear a0 a1 a2 b0 b1 b2 c0 c1 c2 d0 d1 d2
            have b0 := blk_cell_J HBB.out 0 rfl
            have b1 := blk_cell_J HBB.out 1 rfl
            have b2 := blk_cell_J HBB.out 2 rfl
            have d0 := blk_cell_J HBD.out 0 rfl
            have d1 := blk_cell_J HBD.out 1 rfl
            have d2 := blk_cell_J HBD.out 2 rfl
            go_wp2_with fail
            refine (refSame_calls hX.inv (HOB.out.v) HVD.out).mono ?_
            rw [show decide (hB n = hB n) = true from decide_eq_true rfl]
            rintro e w9 ⟨rfl, hb9⟩
            go_wp2_with fail
            go_meet
            exact HE6.out.below.trans ((hb8.trans (hb9.mono hb8.size)).mono HE6.out.below.size)
        · have hnr : (!right n) = true := by rw [hr]; rfl
          obtain ⟨h2, ha0, hb0, hk0⟩ := hE_bad hr
          have HA0 := Lib.hid ha0
          have HB0 := Lib.hid hb0
          rw [hnr, h2, hk0, show strB [] = (⟨#[]⟩ : ByteArray) from rfl]
          clear hr ha0 hb0 h2 hk0
          have a0 := blk_cell_J HBA.out 0 rfl
          have a1 := blk_cell_J HBA.out 1 rfl
          have a2 := blk_cell_J HBA.out 2 rfl
          have b0 := blk_cell_J HBB.out 0 rfl
          have b1 := blk_cell_J HBB.out 1 rfl
          have b2 := blk_cell_J HBB.out 2 rfl
          go_wp2_with fail
          refine (refSame_calls HE1.out.inv HOA.out.v (zN_v J1)).mono ?_
          rw [show decide (hA n = zN) = true from decide_eq_true HA0.out]
          rintro e w6 ⟨rfl, hb6⟩
          have hX := Ext.of_below HE1.out.inv hb6
          have HBB := Lib.hid (HBB.out.ext hX)
          clear a0 a1 a2 b0 b1 b2
          have b0 := blk_cell_J HBB.out 0 rfl
          have b1 := blk_cell_J HBB.out 1 rfl
          have b2 := blk_cell_J HBB.out 2 rfl
          go_wp2_with fail
          refine (refSame_calls hX.inv HOB.out.v (zN_v J1)).mono ?_
          rw [show decide (hB n = zN) = true from decide_eq_true HB0.out]
          rintro e w7 ⟨rfl, hb7⟩
          go_wp2_with fail
          go_meet
          exact hb6.trans (hb7.mono hb6.size)
      case rest =>
        have hX := Ext.of_below HE1.out.inv hcut.out
        have HBA := Lib.hid (HBA.out.ext hX)
        have HBB := Lib.hid (HBB.out.ext hX)
        have HOA := Lib.hid (HOA.out.ext hX)
        have HOB := Lib.hid (HOB.out.ext hX)
        have HBL := Lib.hid (HE1.out.below.trans (hX.below.mono HE1.out.below.size))
        clear hX hcut
        obtain ⟨ho1, ho3⟩ := ndo_open HOA.out
        obtain ⟨ho2, -⟩ := ndo_open HOB.out
        have HR1 := Lib.hid ho1.rwk
        have HR2 := Lib.hid ho2.rwk
        have HR3 := Lib.hid ho3.rwk
        clear ho1 ho2 ho3 HOA HOB
        have a0 := blk_cell_J HBA.out 0 rfl
        have a1 := blk_cell_J HBA.out 1 rfl
        have a2 := blk_cell_J HBA.out 2 rfl
        go_upto_region 14 with ((refine wpList_clear_R (s := .tmp 94) (t := 22) (T := 55) (z := .agg #[.string ByteArray.empty, .string ByteArray.empty, .int .i64 0, .int .i64 0]) (size := 4) (bytes := 48) (base := wh.heap.size) (v := .slice Aa (hA n).items.length ca) (n := (hA n).items.length) rfl rfl Try.underlying22 info_cell rfl zcell_one rfl HR1.out ?_; intro w7 hb7 hr7 hk7))
        have HBB := Lib.hid (show NBox w7 bb _ _ _ from (hk7 bb (HR1.out.ne_node HBB.out (by decide))).trans HBB.out)
        have HBA := Lib.hid (show NBox w7 ab _ _ _ from (hk7 ab (HR1.out.ne_node HBA.out (by decide))).trans HBA.out)
        have HR2 := Lib.hid (hr7 _ _ _ _ _ HR2.out)
        have HR3 := Lib.hid (hr7 _ _ _ _ _ HR3.out)
        have HBL := Lib.hid (HBL.out.trans hb7)
        clear hb7 hr7 hk7 a0 a1 a2
        have b0 := blk_cell_J HBB.out 0 rfl
        have b1 := blk_cell_J HBB.out 1 rfl
        have b2 := blk_cell_J HBB.out 2 rfl
        go_upto_region 15 with ((refine wpList_clear_R (s := .tmp 96) (t := 22) (T := 55) (z := .agg #[.string ByteArray.empty, .string ByteArray.empty, .int .i64 0, .int .i64 0]) (size := 4) (bytes := 48) (base := wh.heap.size) (v := .slice Ab (hB n).items.length cb) (n := (hB n).items.length) rfl rfl Try.underlying22 info_cell rfl zcell_one rfl HR2.out ?_; intro w7 hb7 hr7 hk7))
        clear b0 b1 b2
        have HBA := Lib.hid (show NBox w7 ab _ _ _ from (hk7 ab (HR2.out.ne_node HBA.out (by decide))).trans HBA.out)
        have HR3 := Lib.hid (hr7 _ _ _ _ _ HR3.out)
        have HBL := Lib.hid (HBL.out.trans hb7)
        clear hb7 hr7 hk7
        have a0 := blk_cell_J HBA.out 0 rfl
        have a1 := blk_cell_J HBA.out 1 rfl
        have a2 := blk_cell_J HBA.out 2 rfl
        go_upto_region 16 with ((refine wpList_clear_R (s := .tmp 98) (t := 23) (T := 3) (z := .int .i64 0) (size := 1) (bytes := 8) (base := wh.heap.size) (v := .slice Ka (hA n).kids.length da) (n := (hA n).kids.length) rfl rfl Try.underlying23 info_int rfl zint_one rfl HR3.out ?_; intro w7 hb7 hr7 hk7))
        have hX := Ext.of_below HE.out.inv (HBL.out.trans hb7)
        have HQ := Lib.hid (HQ.out.ext hX)
        have HN := Lib.hid (HN.out.ext hX)
        have HM := Lib.hid (HM.out.ext hX)
        have HE := Lib.hid (HE.out.trans hX)
        clear hX a0 a1 a2 hb7 hr7 hk7 HBA HBB HR1 HR2 HR3 HBL HE1 HN6
        have n0 := blk_cell_J HN.out 0 rfl
        have n1 := blk_cell_J HN.out 1 rfl
        have n2 := blk_cell_J HN.out 2 rfl
        have q0 := blk_cell_J HQ.out 0 rfl
        have q1 := blk_cell_J HQ.out 1 rfl
        have q2 := blk_cell_J HQ.out 2 rfl
        go_wp2_with fail
        refine (refSame_calls HE.out.inv HVQ.out HVN.out).mono ?_
        rw [show decide (n = n) = true from decide_eq_true rfl]
        rintro e w8 ⟨rfl, hb8⟩
        have hX := Ext.of_below HE.out.inv hb8
        have HQ := Lib.hid (HQ.out.ext hX)
        have HN := Lib.hid (HN.out.ext hX)
        have HM := Lib.hid (HM.out.ext hX)
        have HE := Lib.hid (HE.out.trans hX)
        clear hX hb8 n0 n1 n2 q0 q1 q2
        go_upto_region 18 with fail
        obtain ⟨ws, rfl⟩ : ∃ x, x = w8 := ⟨w8, rfl⟩
        refine wp_region_pool2 10 (RGS J3 ws (P18 ws.heap.size (.agg #[.bool n.leaf, .slice Ci n.items.length ei, .slice Ck n.kids.length ek]) (.agg #[.bool m.leaf, .slice Bi m.items.length di, .slice Bk m.kids.length dk]) m key ((jE n key m : Nat) : Int) (jN n key m))) (by kernel_rfl) (by kernel_rfl) (fun _ => undef) (RGS.start HE.out.inv) ?_ ?_
        · intro q o hlq ho L v w' F hc hL hw hout hdp
          have q7 : F.tmps.getD 7 undef = .pointer (some ⟨qb, 0, none⟩) := hout 7 (by kernel_rfl)
          have q2 : F.tmps.getD 2 undef = .string (strB key) := hout 2 (by kernel_rfl)
          have q4 : F.tmps.getD 4 undef = .pointer (some ⟨mb, 0, none⟩) := hout 4 (by kernel_rfl)
          have hst := P18_stab ws.heap.size (.agg #[.bool n.leaf, .slice Ci n.items.length ei, .slice Ck n.kids.length ek]) (.agg #[.bool m.leaf, .slice Bi m.items.length di, .slice Bk m.kids.length dk]) m key ((jE n key m : Nat) : Int) (jN n key m)
          have hkk : q = 0 ∨ q = 1 ∨ q = 2 ∨ q = 3 ∨ q = 4 ∨ q = 5 ∨ q = 6 ∨ q = 7 ∨ q = 8 ∨ q = 9 := by omega
          rcases hkk with rfl | rfl | rfl | rfl | rfl | rfl | rfl | rfl | rfl | rfl
          · cases ho
            obtain ⟨J9, hE9, hP, h9⟩ := hc.nine hL (by decide) (by decide)
            have n0 := blk_cell_J (HQ.out.ext hE9) 0 rfl
            have n1 := blk_cell_J (HQ.out.ext hE9) 1 rfl
            have n2 := blk_cell_J (HQ.out.ext hE9) 2 rfl
            refine wp_value (x := .agg #[.bool n.leaf, .slice Ci n.items.length ei, .slice Ck n.kids.length ek]) (w' := w') ?_ ⟨_, rfl, RGS.put hst hE9 hP h9 (by decide) (Ext.refl hE9.inv) rfl⟩
            clear hw hout hdp hE9 hP hst hc hL h9
            unfold execOp
            simp only [Act.eval, q7]
            go_simp
          · cases ho
            obtain ⟨J9, hE9, hP, h9⟩ := hc.nine hL (by decide) (by decide)
            refine wp_value (x := .string (strB key)) (w' := w') ?_ ⟨_, rfl, RGS.put hst hE9 hP h9 (by decide) (Ext.refl hE9.inv) rfl⟩
            clear hw hout hdp hE9 hP hst hc hL h9
            unfold execOp
            simp only [Act.eval, q2]
            go_simp
          · cases ho
            obtain ⟨J9, hE9, hP, h9⟩ := hc.nine hL (by decide) (by decide)
            have n0 := blk_cell_J (HM.out.ext hE9) 0 rfl
            have n1 := blk_cell_J (HM.out.ext hE9) 1 rfl
            have n2 := blk_cell_J (HM.out.ext hE9) 2 rfl
            refine wp_value (x := .agg #[.bool m.leaf, .slice Bi m.items.length di, .slice Bk m.kids.length dk]) (w' := w') ?_ ⟨_, rfl, RGS.put hst hE9 hP h9 (by decide) (Ext.refl hE9.inv) rfl⟩
            clear hw hout hdp hE9 hP hst hc hL h9
            unfold execOp
            simp only [Act.eval, q4]
            go_simp
          · cases ho
            obtain ⟨J9, hE9, hP, h9⟩ := hc.nine hL (by decide) (by decide)
            have e106 := (hdp 2 106 (by kernel_rfl) (hw 2 (by kernel_rfl))).trans (show v 2 = .agg #[.bool m.leaf, .slice Bi m.items.length di, .slice Bk m.kids.length dk] from hP 2 (hw 2 (by kernel_rfl)))
            have hcl := copied_calls hE9.inv (HVM.out.mono (hE9.le HE.out.inv)) (by omega) (by omega)
            have HP := Lib.hid hP
            have HE9 := Lib.hid hE9
            have HST := Lib.hid hst
            have H9 := Lib.hid h9
            clear hw hout hdp hE9 hP hst hc hL h9
            unfold Oper.wp execOp
            go_simp
            refine hcl.mono ?_
            rintro e5 w5 ⟨v5, J5, rfl, hE5, hO5⟩
            exact ⟨_, rfl, RGS.put HST.out HE9.out HP.out H9.out (by decide) hE5 hO5.v⟩
          · cases ho
            obtain ⟨J9, hE9, hP, h9⟩ := hc.nine hL (by decide) (by decide)
            have e104 := (hdp 0 104 (by kernel_rfl) (hw 0 (by kernel_rfl))).trans (show v 0 = .agg #[.bool n.leaf, .slice Ci n.items.length ei, .slice Ck n.kids.length ek] from hP 0 (hw 0 (by kernel_rfl)))
            have e105 := (hdp 1 105 (by kernel_rfl) (hw 1 (by kernel_rfl))).trans (show v 1 = .string (strB key) from hP 1 (hw 1 (by kernel_rfl)))
            have h3 : NdV J9 (v 3) m := hP 3 (hw 3 (by kernel_rfl))
            have e107 := hdp 3 107 (by kernel_rfl) (hw 3 (by kernel_rfl))
            have hcl := Join_calls (key := key) hE9.inv (HVQ.out.mono (hE9.le HE.out.inv)) h3 HS.out HSM.out hk (by omega) (by omega) (by omega) (by omega)
            have HP := Lib.hid hP
            have HE9 := Lib.hid hE9
            have HST := Lib.hid hst
            have H9 := Lib.hid h9
            obtain ⟨A3, c3, K3, k3, h3v, -⟩ := h3.form
            rw [h3v] at e107 hcl
            clear hw hout hdp hE9 hP hst hc hL h9 h3 h3v
            unfold Oper.wp execOp
            go_simp
            refine hcl.mono ?_
            rintro e5 w5 ⟨v5, J5, rfl, hE5, hO5⟩
            exact ⟨_, rfl, RGS.put HST.out HE9.out HP.out H9.out (by decide) hE5 ⟨v5, rfl, ndo_lower hO5 HE9.out.below.size⟩⟩
          · cases ho
            obtain ⟨J9, hE9, hP, h9⟩ := hc.nine hL (by decide) (by decide)
            obtain ⟨vx, h4, hO4⟩ : ∃ vx, v 4 = .tuple #[vx, .int .i64 ((jE n key m : Nat) : Int)] ∧ NdO J9 w' ws.heap.size vx (jN n key m) := hP 4 (hw 4 (by kernel_rfl))
            have e108 := (hdp 4 108 (by kernel_rfl) (hw 4 (by kernel_rfl))).trans h4
            refine wp_value (x := .tuple #[vx, .int .i64 ((jE n key m : Nat) : Int)]) (w' := w') ?_ ⟨_, rfl, RGS.put hst hE9 hP h9 (by decide) (Ext.refl hE9.inv) ⟨vx, rfl, hO4⟩⟩
            clear hw hout hdp hE9 hP hst hc hL h9 h4 hO4
            unfold execOp
            simp only [Act.eval, e108]
            go_simp
          · cases ho
            obtain ⟨J9, hE9, hP, h9⟩ := hc.nine hL (by decide) (by decide)
            obtain ⟨vx, h5, hO5⟩ : ∃ vx, v 5 = .tuple #[vx, .int .i64 ((jE n key m : Nat) : Int)] ∧ NdO J9 w' ws.heap.size vx (jN n key m) := hP 5 (hw 5 (by kernel_rfl))
            have e103 := (hdp 5 103 (by kernel_rfl) (hw 5 (by kernel_rfl))).trans h5
            refine wp_value (x := vx) (w' := w') ?_ ⟨_, rfl, RGS.put hst hE9 hP h9 (by decide) (Ext.refl hE9.inv) hO5⟩
            clear hw hout hdp hE9 hP hst hc hL h9 h5 hO5
            unfold execOp
            simp only [Act.eval, e103]
            go_simp
          · cases ho
            obtain ⟨J9, X0, -, hP, -, -⟩ := id hc
            obtain ⟨vx, h5, -⟩ : ∃ vx, v 5 = .tuple #[vx, .int .i64 ((jE n key m : Nat) : Int)] ∧ NdO J9 X0 ws.heap.size vx (jN n key m) := hP 5 (hw 5 (by kernel_rfl))
            have e103 := (hdp 5 103 (by kernel_rfl) (hw 5 (by kernel_rfl))).trans h5
            refine wp_value (x := .int .i64 ((jE n key m : Nat) : Int)) (w' := w') ?_ ⟨_, rfl, RGS.pure hc hL (by decide) (fun _ _ => rfl)⟩
            clear hw hout hdp hP hst hc hL h5
            unfold execOp
            simp only [Act.eval, e103]
            go_simp
          · cases ho
            obtain ⟨J9, hE9, hP, h9⟩ := hc.nine hL (by decide) (by decide)
            refine wp_value (x := .pointer (some ⟨w'.heap.size, 0, none⟩)) (w' := w'.alloc (.cells #[.bool false, .slice none 0 0, .slice none 0 0] 25)) ?_ ⟨_, rfl, RGS.put hst hE9 hP h9 (by decide) ((Ext.refl hE9.inv).alloc _) ⟨_, rfl, heap_alloc_new w' _, hE9.below.size, hE9.inv.nil (Nat.le_refl _)⟩⟩
            clear hw hout hdp hE9 hP hst hc hL h9
            unfold execOp
            go_simp
          · cases ho
            obtain ⟨J9, hE9, hP⟩ := hc.at9 hL
            have h6 : NdO J9 w' ws.heap.size (v 6) (jN n key m) := hP 6 (hw 6 (by kernel_rfl))
            obtain ⟨xb, h8, hxb, -, -⟩ : ∃ b, v 8 = .pointer (some ⟨b, 0, none⟩) ∧ NBox w' b false (.slice none 0 0) (.slice none 0 0) ∧ ws.heap.size ≤ b ∧ J9 b = [] := hP 8 (hw 8 (by kernel_rfl))
            obtain ⟨A6, c6, K6, k6, h6v, -⟩ := h6.v.form
            have e16 := (hdp 8 16 (by kernel_rfl) (hw 8 (by kernel_rfl))).trans h8
            have e109 := (hdp 6 109 (by kernel_rfl) (hw 6 (by kernel_rfl))).trans h6v
            refine wp_skip (w' := put3 w' xb (.bool (jN n key m).leaf) (.slice A6 (jN n key m).items.length c6) (.slice K6 (jN n key m).kids.length k6)) (run_store3 rfl e16 e109 hxb) ⟨undef, rfl, RGS.store hE9 hP (fun j hj h7 => ?_) (fun _ _ _ => trivial) h8 h6v⟩
            have hjj : j = 0 ∨ j = 1 ∨ j = 2 ∨ j = 3 ∨ j = 4 ∨ j = 5 ∨ j = 6 ∨ j = 8 := by omega
            rcases hjj with rfl | rfl | rfl | rfl | rfl | rfl | rfl | rfl <;> exact hw _ (by kernel_rfl)
        · intro L v w' F hall hc hF hFd hout hdp
          obtain ⟨J9, X0, hE9, hP, -, hs9⟩ := hc
          obtain ⟨-, xb, xl, xi, xk, h8, h6v, hX⟩ := hs9 (hall 9 (by omega))
          have h6 : NdO J9 X0 ws.heap.size (v 6) (jN n key m) := hP 6 (hall 6 (by omega))
          have h7 : v 7 = .int .i64 ((jE n key m : Nat) : Int) := hP 7 (hall 7 (by omega))
          obtain ⟨xb', h8', hxb, hxl, hxj⟩ : ∃ b, v 8 = .pointer (some ⟨b, 0, none⟩) ∧ NBox X0 b false (.slice none 0 0) (.slice none 0 0) ∧ ws.heap.size ≤ b ∧ J9 b = [] := hP 8 (hall 8 (by omega))
          rw [h8] at h8'
          cases h8'
          rw [h6v] at h6
          obtain ⟨A6, c6, K6, k6, hf6, -⟩ := h6.v.form
          simp only [Value.agg.injEq, Array.mk.injEq, List.cons.injEq, Value.bool.injEq] at hf6
          obtain ⟨rfl, rfl, rfl, -⟩ := hf6
          have HXB := Lib.hid (show NBox w' xb (jN n key m).leaf (.slice A6 (jN n key m).items.length c6) (.slice K6 (jN n key m).kids.length k6) from by rw [hX]; exact put3_at hxb)
          have HXE := Lib.hid (show Ext J3 ws J9 w' from by rw [hX]; exact put3_e hE9 hxl hxj _ _ _)
          have HXO := Lib.hid (show NdO J9 w' ws.heap.size (.agg #[.bool (jN n key m).leaf, .slice A6 (jN n key m).items.length c6, .slice K6 (jN n key m).kids.length k6]) (jN n key m) from by
            rw [hX]
            obtain ⟨ho1, ho2⟩ := ndo_open h6
            exact ⟨_, _, rfl, put3_own ho1 (own_ne_node ho1 hxb (by decide)), put3_own ho2 (own_ne_node ho2 hxb (by decide))⟩)
          have hF := hF.trans (fill_put10 (some 104) (some 105) (some 106) (some 107) (some 108) (some 103) (some 109) (some 110) (some 16) none hall rfl rfl rfl rfl rfl rfl rfl rfl rfl rfl)
          have e110 := (hdp 7 110 (by kernel_rfl)).trans h7
          clear hFd hout hdp hall hP hs9 hX h6 hxb hxl hxj hE9
          simp only [List.drop_succ_cons, List.drop_zero]
          refine wpList_value (x := .int .i64 ((jE n key m : Nat) : Int)) (w' := w') rfl (by unfold execOp; simp only [Act.eval, e110]; go_simp) ?_
          clear e110
          simp only [Act.put, List.setIfInBounds_toArray, List.set_cons_succ, List.set_cons_zero, h6v, h7, h8] at hF
          subst hF
          clear h6v h7 h8
          generalize v 0 = v0
          generalize v 1 = v1
          generalize v 2 = v2
          generalize v 3 = v3
          generalize v 4 = v4
          generalize v 5 = v5
          generalize v 9 = v9
          simp only [Act.put, List.setIfInBounds_toArray, List.set_cons_succ, List.set_cons_zero]
          refine wpList_nil ?_
          have HN9 := Lib.hid (HN.out.ext HXE.out)
          have HM9 := Lib.hid (HM.out.ext HXE.out)
          have n0 := blk_cell_J HN9.out 0 rfl
          have n1 := blk_cell_J HN9.out 1 rfl
          have n2 := blk_cell_J HN9.out 2 rfl
          have m0 := blk_cell_J HM9.out 0 rfl
          have m1 := blk_cell_J HM9.out 1 rfl
          have m2 := blk_cell_J HM9.out 2 rfl
          have HLE := Lib.hid (HXE.out.le HE.out.inv)
          go_wp2_with fail
          refine (refJoin_calls (key := key) HXE.out.inv (HVN.out.mono HLE.out) (HVM.out.mono HLE.out) HS.out HSM.out hk (by omega) (by omega) (by omega) (by omega)).mono ?_
          rintro e w9 ⟨vy, J10, rfl, hE10, hO10⟩
          have HVY := Lib.hid hO10.v
          obtain ⟨Ay, cy, Ky, dy, rfl, -⟩ := hO10.v.form
          have HXB := Lib.hid (HXB.out.ext hE10)
          have HXO := Lib.hid (HXO.out.ext hE10)
          have HXE := Lib.hid (HXE.out.trans hE10)
          clear hE10 hO10 n0 n1 n2 m0 m1 m2 HN9 HM9 HLE
          go_upto_region 20 with fail
          have HYB := Lib.hid (show NBox (w9.alloc (.cells #[.bool (jN n key m).leaf, .slice Ay (jN n key m).items.length cy, .slice Ky (jN n key m).kids.length dy] 25)) w9.heap.size (jN n key m).leaf (.slice Ay (jN n key m).items.length cy) (.slice Ky (jN n key m).kids.length dy) from heap_alloc_new w9 _)
          have hX := (Ext.refl HXE.out.inv).alloc (.cells #[.bool (jN n key m).leaf, .slice Ay (jN n key m).items.length cy, .slice Ky (jN n key m).kids.length dy] 25)
          have HXB := Lib.hid (HXB.out.ext hX)
          have HXO := Lib.hid (HXO.out.ext hX)
          have HXE := Lib.hid (HXE.out.trans hX)
          clear hX
          generalize World.alloc w9 _ = wy at *
          generalize w9.heap.size = yb at *
          have x0 := blk_cell_J HXB.out 0 rfl
          have x1 := blk_cell_J HXB.out 1 rfl
          have x2 := blk_cell_J HXB.out 2 rfl
          have y0 := blk_cell_J HYB.out 0 rfl
          have y1 := blk_cell_J HYB.out 1 rfl
          have y2 := blk_cell_J HYB.out 2 rfl
          go_wp2_with fail
          refine (refSame_calls HXE.out.inv HXO.out.v HVY.out).mono ?_
          rw [show decide (jN n key m = jN n key m) = true from decide_eq_true rfl]
          rintro e w10 ⟨rfl, hb10⟩
          have hX := Ext.of_below HXE.out.inv hb10
          have HXB := Lib.hid (HXB.out.ext hX)
          have HXO := Lib.hid (HXO.out.ext hX)
          have HXE := Lib.hid (HXE.out.trans hX)
          clear hX hb10 x0 x1 x2 y0 y1 y2
          obtain ⟨ho1, ho3⟩ := ndo_open HXO.out
          have HR1 := Lib.hid ho1.rwk
          have HR3 := Lib.hid ho3.rwk
          have HBL := Lib.hid HXE.out.below
          clear ho1 ho3 HXO
          have x0 := blk_cell_J HXB.out 0 rfl
          have x1 := blk_cell_J HXB.out 1 rfl
          have x2 := blk_cell_J HXB.out 2 rfl
          go_upto_region 23 with ((refine wpList_clear_R (s := .tmp 128) (t := 22) (T := 55) (z := .agg #[.string ByteArray.empty, .string ByteArray.empty, .int .i64 0, .int .i64 0]) (size := 4) (bytes := 48) (base := ws.heap.size) (v := .slice A6 (jN n key m).items.length c6) (n := (jN n key m).items.length) rfl rfl Try.underlying22 info_cell rfl zcell_one rfl HR1.out ?_; intro w7 hb7 hr7 hk7))
          have HXB := Lib.hid (show NBox w7 xb _ _ _ from (hk7 xb (HR1.out.ne_node HXB.out (by decide))).trans HXB.out)
          have HR3 := Lib.hid (hr7 _ _ _ _ _ HR3.out)
          have HBL := Lib.hid (HBL.out.trans hb7)
          clear hb7 hr7 hk7 x0 x1 x2
          have x0 := blk_cell_J HXB.out 0 rfl
          have x1 := blk_cell_J HXB.out 1 rfl
          have x2 := blk_cell_J HXB.out 2 rfl
          go_upto_region 24 with ((refine wpList_clear_R (s := .tmp 130) (t := 23) (T := 3) (z := .int .i64 0) (size := 1) (bytes := 8) (base := ws.heap.size) (v := .slice K6 (jN n key m).kids.length k6) (n := (jN n key m).kids.length) rfl rfl Try.underlying23 info_int rfl zint_one rfl HR3.out ?_; intro w7 hb7 hr7 hk7))
          have hX := Ext.of_below HE.out.inv (HBL.out.trans hb7)
          have HQ := Lib.hid (HQ.out.ext hX)
          have HN := Lib.hid (HN.out.ext hX)
          have HE := Lib.hid (HE.out.trans hX)
          clear hX x0 x1 x2 hb7 hr7 hk7 HXB HR1 HR3 HBL HXE
          have n0 := blk_cell_J HN.out 0 rfl
          have n1 := blk_cell_J HN.out 1 rfl
          have n2 := blk_cell_J HN.out 2 rfl
          have q0 := blk_cell_J HQ.out 0 rfl
          have q1 := blk_cell_J HQ.out 1 rfl
          have q2 := blk_cell_J HQ.out 2 rfl
          go_wp2_with fail
          refine (refSame_calls HE.out.inv HVQ.out HVN.out).mono ?_
          rw [show decide (n = n) = true from decide_eq_true rfl]
          rintro e w12 ⟨rfl, hb12⟩
          go_wp2_with fail
          go_ret
          exact ⟨rfl, HE.out.below.trans (hb12.mono HE.out.below.size)⟩
theorem cellHalves_walk {J : Jm} {w : World} (hI : Inv J w) {v : Value} {n : Nd} (hn : NdV J v n) (hs : ∀ x ∈ n.items, ClS x) {u : Value} {m : Nd} (hm : NdV J u m) (hsm : ∀ x ∈ m.items, ClS x) (a : ByteArray) (ha : a.size ≤ 140737488351232) :
    Calls Try.prog 7 #[v, u, .string a] w fun e w' => e = .returned (.bool true) ∧ Below w.heap.size w w' := by
  obtain ⟨key, rfl⟩ : ∃ l, a = strB l := ⟨a.data.toList, (strB_of a).symm⟩
  rw [strB_size] at ha
  exact cellHalves_walk0 hI hn hm hs hsm (by omega)
end Go.Proofs.Ytnnkgjaahmflmaa
