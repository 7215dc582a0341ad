/- The walk of Join. -/
import Derived.Test.YtnnkgjaahmflmaaCellJoin5
namespace Go.Proofs.Ytnnkgjaahmflmaa
open Go.RowKit
set_option linter.unusedVariables false
theorem bodyPost_join {R : Ending → World → Prop} {F : Act} {w : World} {b6 : Nat} {l : Bool} {vi vk e : Value} (hd : F.defers = []) (h : NBox w b6 l vi vk)
    (h6 : F.tmps.getD 6 undef = .pointer (some ⟨b6, 0, none⟩)) (h7 : F.tmps.getD 7 undef = e) (hR : R (.returned (.tuple #[.agg #[.bool l, vi, vk], e])) w) : bodyPost Try.prog Try.f30 R .ret F w := by
  have n0 := blk_cell_J h 0 rfl
  have n1 := blk_cell_J h 1 rfl
  have n2 := blk_cell_J h 2 rfl
  rw [Array.getD_eq_getD_getElem?] at h6 h7
  obtain ⟨tmps, defers⟩ := F
  simp only at hd h6 h7
  subst hd
  refine ⟨rfl, _, ?_, hR⟩
  simp [results, Try.results30, go_sem, n0, n1, n2, h6, h7]
set_option maxRecDepth 100000 in
set_option maxHeartbeats 8000000 in
theorem Join_calls {J : Jm} {w : World} (hI : Inv J w) {va vb : Value} {a b : Nd} {key : List UInt8} (ha : NdV J va a) (hb : NdV J vb b) (hsa : NdS a) (hsb : NdS b) (hk : key.length ≤ 9223372036854775807) (hla : a.items.length ≤ 300000) (hlb : b.items.length ≤ 300000) (hka : a.kids.length ≤ 300001) (hkb : b.kids.length ≤ 300001) :
    Calls Try.prog 30 #[va, .string (strB key), vb] w (JoinP J w a key b) := by
  obtain ⟨Ai, ci, Ak, ck, rfl, hni, hmi, hnk, hmk⟩ := ha.form
  obtain ⟨Bi, di, Bk, dk, rfl, hnj, hmj, hnl, hml⟩ := hb.form
  unfold maxLen at hmi hmk hmj hml
  have HVA := Lib.hid ha
  have HVB := Lib.hid hb
  have HSA := Lib.hid hsa
  have HSB := Lib.hid hsb
  clear ha hb hsa hsb
  go_enter Try.func30, Try.ntmps30
  go_upto_region 1 with fail
  have hX1 := two_boxes hI #[.bool a.leaf, .slice Ai a.items.length ci, .slice Ak a.kids.length ck] #[.bool b.leaf, .slice Bi b.items.length di, .slice Bk b.kids.length dk] 25
  have hX2 := hX1.1.alloc (.cells #[.bool false, .slice none 0 0, .slice none 0 0] 25)
  have hs1 : ((w.alloc (.cells #[.bool a.leaf, .slice Ai a.items.length ci, .slice Ak a.kids.length ck] 25)).alloc (.cells #[.bool b.leaf, .slice Bi b.items.length di, .slice Bk b.kids.length dk] 25)).heap.size = w.heap.size + 1 + 1 := by simp
  have hX3 := (Ext.refl hX1.1.inv).alloc (.cells #[.bool false, .slice none 0 0, .slice none 0 0] 25)
  have HA := Lib.hid (show NBox _ w.heap.size a.leaf (.slice Ai a.items.length ci) (.slice Ak a.kids.length ck) from NBox.ext (J := J) (J' := J) hX1.2.1 hX3)
  have HB := Lib.hid (show NBox _ (w.heap.size + 1) b.leaf (.slice Bi b.items.length di) (.slice Bk b.kids.length dk) from NBox.ext (J := J) (J' := J) hX1.2.2 hX3)
  have hX4 := heap_alloc_new ((w.alloc (.cells #[.bool a.leaf, .slice Ai a.items.length ci, .slice Ak a.kids.length ck] 25)).alloc (.cells #[.bool b.leaf, .slice Bi b.items.length di, .slice Bk b.kids.length dk] 25)) (.cells #[.bool false, .slice none 0 0, .slice none 0 0] 25)
  rw [hs1] at hX4
  have F6 := Lib.hid (show NBox _ (w.heap.size + 1 + 1) false (.slice none 0 0) (.slice none 0 0) from hX4)
  have HE := Lib.hid hX2
  have HJ := Lib.hid (show (J w.heap.size = [] ∧ J (w.heap.size + 1) = [] ∧ J (w.heap.size + 1 + 1) = []) from ⟨hI.nil (by omega), hI.nil (by omega), hI.nil (by omega)⟩)
  have HNE := Lib.hid (show w.heap.size ≤ w.heap.size ∧ w.heap.size < w.heap.size + 1 ∧ w.heap.size + 1 < w.heap.size + 1 + 1 from by omega)
  clear hX1 hX2 hX3 hX4 hs1
  generalize World.alloc (World.alloc (World.alloc w _) _) _ = W at *
  generalize hb6 : w.heap.size + 1 + 1 = b6 at *
  generalize hbb : w.heap.size + 1 = bb at *
  obtain ⟨ab, hab⟩ : ∃ ab, ab = w.heap.size := ⟨_, rfl⟩
  have HNE := Lib.hid (show w.heap.size ≤ ab ∧ ab < bb ∧ bb < b6 from by rw [hab]; exact HNE.out)
  have HJ := Lib.hid (show J ab = [] ∧ J bb = [] ∧ J b6 = [] from by rw [hab]; exact HJ.out)
  have HA := Lib.hid (show NBox W ab _ _ _ from by rw [hab]; exact HA.out)
  rw [← hab]
  clear hb6 hbb hab
  go_cut [35] (fun cv wx => cv = .bool (bad1 a key b) ∧ Hid (Below W.heap.size W wx))
  case first => as_aux_lemma =>
    have n0 := blk_cell_J HA.out 0 rfl
    have n1 := blk_cell_J HA.out 1 rfl
    have n2 := blk_cell_J HA.out 2 rfl
    have m0 := blk_cell_J HB.out 0 rfl
    have m1 := blk_cell_J HB.out 1 rfl
    have m2 := blk_cell_J HB.out 2 rfl
    go_wp2_with fail
    refine (rightC HE.out.inv HVA.out HSA.out.2).mono ?_
    cases hra : right a with
    | false =>
      rintro e w1 ⟨rfl, hb1⟩
      clear n0 n1 n2 m0 m1 m2
      go_wp2_with fail
      go_meet
      exact ⟨by rw [show bad1 a key b = true from by unfold bad1; rw [hra]; rfl], hb1⟩
    | true =>
      rintro e w1 ⟨rfl, hb1⟩
      have hX := Ext.of_below HE.out.inv hb1
      have HA := Lib.hid (HA.out.ext hX)
      have HB := Lib.hid (HB.out.ext hX)
      have F6 := Lib.hid (F6.out.ext hX)
      have HE := Lib.hid (HE.out.trans hX)
      clear hX
      clear n0 n1 n2 m0 m1 m2
      have n0 := blk_cell_J HA.out 0 rfl
      have n1 := blk_cell_J HA.out 1 rfl
      have n2 := blk_cell_J HA.out 2 rfl
      have m0 := blk_cell_J HB.out 0 rfl
      have m1 := blk_cell_J HB.out 1 rfl
      have m2 := blk_cell_J HB.out 2 rfl
      go_wp2_with fail
      refine (rightC HE.out.inv HVB.out HSB.out.2).mono ?_
      cases hrb : right b with
      | false =>
        rintro e w2 ⟨rfl, hb2⟩
        clear n0 n1 n2 m0 m1 m2
        go_wp2_with fail
        go_meet
        exact ⟨by rw [show bad1 a key b = true from by unfold bad1; rw [hra, hrb]; rfl], hb1.trans (hb2.mono hb1.size)⟩
      | true =>
        rintro e w2 ⟨rfl, hb2⟩
        have hX := Ext.of_below HE.out.inv hb2
        have HA := Lib.hid (HA.out.ext hX)
        have HB := Lib.hid (HB.out.ext hX)
        have F6 := Lib.hid (F6.out.ext hX)
        have HE := Lib.hid (HE.out.trans hX)
        clear hX
        clear n0 n1 n2 m0 m1 m2
        have n0 := blk_cell_J HA.out 0 rfl
        have n1 := blk_cell_J HA.out 1 rfl
        have n2 := blk_cell_J HA.out 2 rfl
        have m0 := blk_cell_J HB.out 0 rfl
        have m1 := blk_cell_J HB.out 1 rfl
        have m2 := blk_cell_J HB.out 2 rfl
        have hbw := hb1.trans (hb2.mono hb1.size)
        have HRA := Lib.hid hra
        have HRB := Lib.hid hrb
        have HBW := Lib.hid hbw
        clear hb1 hb2 hbw hra hrb
        rcases Bool.eq_false_or_eq_true a.leaf with hal | hal <;> rcases Bool.eq_false_or_eq_true b.leaf with hbl | hbl
        · rw [hal] at n0
          rw [hbl] at m0
          have HAL := Lib.hid hal
          have HBL := Lib.hid hbl
          clear hal hbl
          go_wp2_with fail
          go_meet
          exact ⟨by rw [show bad1 a key b = false from by unfold bad1; rw [HRA.out, HRB.out, HAL.out, HBL.out]; rfl], HBW⟩
        · rw [hal] at n0
          rw [hbl] at m0
          have HAL := Lib.hid hal
          have HBL := Lib.hid hbl
          clear hal hbl
          go_wp2_with fail
          go_meet
          exact ⟨by rw [show bad1 a key b = true from by unfold bad1; rw [HRA.out, HRB.out, HAL.out, HBL.out]; rfl], HBW⟩
        · rw [hal] at n0
          rw [hbl] at m0
          have HAL := Lib.hid hal
          have HBL := Lib.hid hbl
          clear hal hbl
          go_wp2_with fail
          go_meet
          exact ⟨by rw [show bad1 a key b = true from by unfold bad1; rw [HRA.out, HRB.out, HAL.out, HBL.out]; rfl], HBW⟩
        · rw [hal] at n0
          rw [hbl] at m0
          have HAL := Lib.hid hal
          have HBL := Lib.hid hbl
          clear hal hbl
          go_wp2_with fail
          refine (item_calls (keyC key) false _ hk (by simp [keyC])).mono ?_
          cases hit : okItem (keyC key) false with
          | false =>
            rintro e w3 ⟨rfl, hb3⟩
            go_wp2_with fail
            go_meet
            exact ⟨by rw [show bad1 a key b = true from by unfold bad1; rw [HRA.out, HRB.out, HAL.out, HBL.out, hit]; rfl], HBW.out.trans (hb3.mono HBW.out.size)⟩
          | true =>
            rintro e w3 ⟨rfl, hb3⟩
            go_wp2_with fail
            go_meet
            exact ⟨by rw [show bad1 a key b = false from by unfold bad1; rw [HRA.out, HRB.out, HAL.out, HBL.out, hit]; rfl], HBW.out.trans (hb3.mono HBW.out.size)⟩
  case rest =>
    obtain ⟨rfl, HBW⟩ := hcut
    have hX := Ext.of_below HE.out.inv HBW.out
    have HA := Lib.hid (HA.out.ext hX)
    have HB := Lib.hid (HB.out.ext hX)
    have F6 := Lib.hid (F6.out.ext hX)
    have HE := Lib.hid (HE.out.trans hX)
    clear hX
    clear HBW
    have HLO := Lib.hid (show w.heap.size ≤ b6 from by have := HNE.out; omega)
    cases hbd1 : bad1 a key b with
    | true =>
      have HZ := Lib.hid (show jE a key b = 2 ∧ jN a key b = zN from ⟨jE_bad1 hbd1, jN_two (jE_bad1 hbd1) (by decide)⟩)
      have HJ6 := Lib.hid HJ.out.2.2
      have f0 := blk_cell_J F6.out 0 rfl
      have f1 := blk_cell_J F6.out 1 rfl
      have f2 := blk_cell_J F6.out 2 rfl
      have f0f := frozen_of_row _ b6 0 _ _ F6.out
      have f1f := frozen_of_row _ b6 1 _ _ F6.out
      have f2f := frozen_of_row _ b6 2 _ _ F6.out
      go_wp2_with fail
      have hFA := put3_at (l' := false) (vi' := .slice none 0 0) (vk' := .slice none 0 0) F6.out
      refine bodyPost_join (e := .int .i64 (2 : Nat)) rfl hFA rfl rfl ?_
      refine ⟨.agg #[.bool false, .slice none 0 0, .slice none 0 0], J, by rw [HZ.out.1], put3_e HE.out HLO.out HJ6.out _ _ _, ?_⟩
      rw [HZ.out.2]
      exact ⟨_, _, rfl, Own.nil _ _ _ _ _, Own.nil _ _ _ _ _⟩
    | false =>
      go_upto_region 3 with fail
      go_cut [68] (fun cv wx => cv = .bool (bad2 a key b) ∧ wx = wc)
      case first => as_aux_lemma =>
        by_cases hza : a.items.length = 0
        · have HLA := Lib.hid (lastB_nil (key := key) hza)
          have hz1 : ¬ (0 : Int) < a.items.length := by omega
          clear hza
          have n0 := blk_cell_J HA.out 0 rfl
          have n1 := blk_cell_J HA.out 1 rfl
          have n2 := blk_cell_J HA.out 2 rfl
          have m0 := blk_cell_J HB.out 0 rfl
          have m1 := blk_cell_J HB.out 1 rfl
          have m2 := blk_cell_J HB.out 2 rfl
          by_cases hzb : b.items.length = 0
          · have HFB := Lib.hid (firstB_nil (key := key) hzb)
            have hz2 : ¬ (0 : Int) < b.items.length := by omega
            clear hzb
            go_wp2_with fail
            go_meet
            exact ⟨by rw [show bad2 a key b = false from by unfold bad2; rw [HLA.out, HFB.out]; rfl], rfl⟩
          · obtain ⟨yb, yo, rfl, hjy⟩ := key_jcell HVB.out (k := 0) (by omega)
            have c1 := HE.out.inv.cell hjy
            simp only [Nat.zero_mul, Nat.add_zero] at c1
            have hz2 : (0 : Int) < b.items.length := by omega
            have hfb := firstB_of (b := b) (key := key) (by omega)
            clear hjy
            generalize (b.items[0]'(by omega)).key = qk at *
            clear hzb
            have hlq := lt8_str qk key
            cases hlr : lt8 qk key
            · rw [hlr] at hlq hfb
              have HFB := Lib.hid hfb
              clear hfb
              go_wp2_with fail
              go_meet
              exact ⟨by rw [show bad2 a key b = false from by unfold bad2; rw [HLA.out, HFB.out]; rfl], rfl⟩
            · rw [hlr] at hlq hfb
              have HFB := Lib.hid hfb
              clear hfb
              go_wp2_with fail
              go_meet
              exact ⟨by rw [show bad2 a key b = true from by unfold bad2; rw [HLA.out, HFB.out]; rfl], rfl⟩
        · obtain ⟨k, hk1⟩ : ∃ k, a.items.length = k + 1 := ⟨a.items.length - 1, by omega⟩
          have hkl : k < a.items.length := by omega
          obtain ⟨xb, xo, rfl, hjk⟩ := key_jcell HVA.out hkl
          have c0 := HE.out.inv.cell hjk
          have hz1 : (0 : Int) < a.items.length := by omega
          have hw1 : IntKind.i64.wrap ((a.items.length : Int) - 1) = (k : Int) := by rw [IntKind.wrap_i64]; omega
          have hla1 := lastB_of (key := key) hk1
          clear hjk
          generalize (a.items[k]'(by omega)).key = pk at *
          clear hk1 hza
          have hlp := lt8_str pk key
          have n0 := blk_cell_J HA.out 0 rfl
          have n1 := blk_cell_J HA.out 1 rfl
          have n2 := blk_cell_J HA.out 2 rfl
          have m0 := blk_cell_J HB.out 0 rfl
          have m1 := blk_cell_J HB.out 1 rfl
          have m2 := blk_cell_J HB.out 2 rfl
          cases hlx : lt8 pk key
          · rw [hlx] at hlp hla1
            have HLA := Lib.hid hla1
            clear hla1
            go_wp2_with fail
            go_meet
            exact ⟨by rw [show bad2 a key b = true from by unfold bad2; rw [HLA.out]; rfl], rfl⟩
          · rw [hlx] at hlp hla1
            have HLA := Lib.hid hla1
            clear hla1
            by_cases hzb : b.items.length = 0
            · have HFB := Lib.hid (firstB_nil (key := key) hzb)
              have hz2 : ¬ (0 : Int) < b.items.length := by omega
              clear hzb
              go_wp2_with fail
              go_meet
              exact ⟨by rw [show bad2 a key b = false from by unfold bad2; rw [HLA.out, HFB.out]; rfl], rfl⟩
            · obtain ⟨yb, yo, rfl, hjy⟩ := key_jcell HVB.out (k := 0) (by omega)
              have c1 := HE.out.inv.cell hjy
              simp only [Nat.zero_mul, Nat.add_zero] at c1
              have hz2 : (0 : Int) < b.items.length := by omega
              have hfb := firstB_of (b := b) (key := key) (by omega)
              clear hjy
              generalize (b.items[0]'(by omega)).key = qk at *
              clear hzb
              have hlq := lt8_str qk key
              cases hlr : lt8 qk key
              · rw [hlr] at hlq hfb
                have HFB := Lib.hid hfb
                clear hfb
                go_wp2_with fail
                go_meet
                exact ⟨by rw [show bad2 a key b = false from by unfold bad2; rw [HLA.out, HFB.out]; rfl], rfl⟩
              · rw [hlr] at hlq hfb
                have HFB := Lib.hid hfb
                clear hfb
                go_wp2_with fail
                go_meet
                exact ⟨by rw [show bad2 a key b = true from by unfold bad2; rw [HLA.out, HFB.out]; rfl], rfl⟩
      case rest =>
        obtain ⟨rfl, hwc⟩ := hcut
        cases hwc.symm
        cases hbd2 : bad2 a key b with
        | true =>
          have HZ := Lib.hid (show jE a key b = 2 ∧ jN a key b = zN from ⟨jE_bad2 hbd2, jN_two (jE_bad2 hbd2) (by decide)⟩)
          have HJ6 := Lib.hid HJ.out.2.2
          have f0 := blk_cell_J F6.out 0 rfl
          have f1 := blk_cell_J F6.out 1 rfl
          have f2 := blk_cell_J F6.out 2 rfl
          have f0f := frozen_of_row _ b6 0 _ _ F6.out
          have f1f := frozen_of_row _ b6 1 _ _ F6.out
          have f2f := frozen_of_row _ b6 2 _ _ F6.out
          go_wp2_with fail
          have hFA := put3_at (l' := false) (vi' := .slice none 0 0) (vk' := .slice none 0 0) F6.out
          refine bodyPost_join (e := .int .i64 (2 : Nat)) rfl hFA rfl rfl ?_
          refine ⟨.agg #[.bool false, .slice none 0 0, .slice none 0 0], J, by rw [HZ.out.1], put3_e HE.out HLO.out HJ6.out _ _ _, ?_⟩
          rw [HZ.out.2]
          exact ⟨_, _, rfl, Own.nil _ _ _ _ _, Own.nil _ _ _ _ _⟩
        | false =>
          have HJE := Lib.hid (jE_ok hbd1 hbd2)
          clear hbd1 hbd2
          obtain ⟨hvi, hvk⟩ := ndv_open HVA.out
          obtain ⟨hwi, hwk⟩ := ndv_open HVB.out
          have HCI := Lib.hid hvi
          have HKA := Lib.hid hvk
          have HCB := Lib.hid hwi
          have HKB := Lib.hid hwk
          clear hvi hvk hwi hwk
          go_upto_region 5 with fail
          obtain ⟨w3, rfl⟩ : ∃ x, x = wc := ⟨wc, rfl⟩
          have HF6W := F6
          refine wp_region_pool2 13 (RG J w3 (pJ5 w3.heap.size ab bb a b (.slice Ai a.items.length ci) (.slice Ak a.kids.length ck) (.slice Bk b.kids.length dk))) (by kernel_rfl) (by kernel_rfl) (fun _ => undef) (RG.start HE.out.inv) ?_ ?_
          · intro q o hk ho L v w' F hc hL hw hout hdp
            have q3 : F.tmps.getD 3 undef = .pointer (some ⟨ab, 0, none⟩) := hout 3 (by kernel_rfl)
            have q5 : F.tmps.getD 5 undef = .pointer (some ⟨bb, 0, none⟩) := hout 5 (by kernel_rfl)
            obtain ⟨J9, hE9, hP⟩ := hc
            have hst := pJ5_stab w3.heap.size ab bb a b (.slice Ai a.items.length ci) (.slice Ak a.kids.length ck) (.slice Bk b.kids.length dk)
            have hkk : q = 0 ∨ q = 1 ∨ q = 2 ∨ q = 3 ∨ q = 4 ∨ q = 5 ∨ q = 6 ∨ q = 7 ∨ q = 8 ∨ q = 9 ∨ q = 10 ∨ q = 11 ∨ q = 12 := by omega
            rcases hkk with rfl | rfl | rfl | rfl | rfl | rfl | rfl | rfl | rfl | rfl | rfl | rfl | rfl
            · cases ho
              refine wp_value (x := .pointer (some ⟨ab, 0, none⟩)) (w' := w') ?_ ⟨_, rfl, RG.same hst hE9 hP rfl⟩
              clear hw hout hdp hE9 hP hst
              unfold execOp
              simp only [Act.eval, q3]
              go_simp
            · cases ho
              have e70 := (hdp 0 70 (by kernel_rfl) (hw 0 (by kernel_rfl))).trans (show v 0 = .pointer (some ⟨ab, 0, none⟩) from hP 0 (hw 0 (by kernel_rfl)))
              have n0 := blk_cell_J (HA.out.ext hE9) 0 rfl
              refine wp_value (x := .bool a.leaf) (w' := w') ?_ ⟨_, rfl, RG.same hst hE9 hP rfl⟩
              clear hw hout hdp hE9 hP hst
              unfold execOp
              simp only [Act.eval, e70]
              go_simp
            · cases ho
              refine wp_value (x := .pointer (some ⟨ab, 1, none⟩)) (w' := w') ?_ ⟨_, rfl, RG.same hst hE9 hP rfl⟩
              clear hw hout hdp hE9 hP hst
              unfold execOp
              simp only [Act.eval, q3]
              go_simp
            · cases ho
              have e72 := (hdp 2 72 (by kernel_rfl) (hw 2 (by kernel_rfl))).trans (show v 2 = .pointer (some ⟨ab, 1, none⟩) from hP 2 (hw 2 (by kernel_rfl)))
              have n1 := blk_cell_J (HA.out.ext hE9) 1 rfl
              refine wp_value (x := .slice Ai a.items.length ci) (w' := w') ?_ ⟨_, rfl, RG.same hst hE9 hP rfl⟩
              clear hw hout hdp hE9 hP hst
              unfold execOp
              simp only [Act.eval, e72]
              go_simp
            · cases ho
              have e73 := (hdp 3 73 (by kernel_rfl) (hw 3 (by kernel_rfl))).trans (show v 3 = .slice Ai a.items.length ci from hP 3 (hw 3 (by kernel_rfl)))
              have hcl := cloneC_calls hE9.inv (Sl.mono HCI.out (hE9.le HE.out.inv)) (by omega)
              have HP := Lib.hid hP
              have HE9 := Lib.hid hE9
              have HST := Lib.hid hst
              clear hw hout hdp hE9 hP hst
              unfold Oper.wp execOp
              go_simp
              refine hcl.mono ?_
              rintro e5 w5 ⟨v5, J5, rfl, hE5, hO5, -⟩
              exact ⟨_, rfl, RG.put HST.out HE9.out HP.out hE5 (hO5.lower HE9.out.below.size)⟩
            · cases ho
              refine wp_value (x := .pointer (some ⟨ab, 2, none⟩)) (w' := w') ?_ ⟨_, rfl, RG.same hst hE9 hP rfl⟩
              clear hw hout hdp hE9 hP hst
              unfold execOp
              simp only [Act.eval, q3]
              go_simp
            · cases ho
              have e75 := (hdp 5 75 (by kernel_rfl) (hw 5 (by kernel_rfl))).trans (show v 5 = .pointer (some ⟨ab, 2, none⟩) from hP 5 (hw 5 (by kernel_rfl)))
              have n2 := blk_cell_J (HA.out.ext hE9) 2 rfl
              refine wp_value (x := .slice Ak a.kids.length ck) (w' := w') ?_ ⟨_, rfl, RG.same hst hE9 hP rfl⟩
              clear hw hout hdp hE9 hP hst
              unfold execOp
              simp only [Act.eval, e75]
              go_simp
            · cases ho
              refine wp_value (x := .pointer (some ⟨bb, 2, none⟩)) (w' := w') ?_ ⟨_, rfl, RG.same hst hE9 hP rfl⟩
              clear hw hout hdp hE9 hP hst
              unfold execOp
              simp only [Act.eval, q5]
              go_simp
            · cases ho
              have e77 := (hdp 7 77 (by kernel_rfl) (hw 7 (by kernel_rfl))).trans (show v 7 = .pointer (some ⟨bb, 2, none⟩) from hP 7 (hw 7 (by kernel_rfl)))
              have m2 := blk_cell_J (HB.out.ext hE9) 2 rfl
              refine wp_value (x := .slice Bk b.kids.length dk) (w' := w') ?_ ⟨_, rfl, RG.same hst hE9 hP rfl⟩
              clear hw hout hdp hE9 hP hst
              unfold execOp
              simp only [Act.eval, e77]
              go_simp
            · cases ho
              have e76 := (hdp 6 76 (by kernel_rfl) (hw 6 (by kernel_rfl))).trans (show v 6 = .slice Ak a.kids.length ck from hP 6 (hw 6 (by kernel_rfl)))
              have e78 := (hdp 8 78 (by kernel_rfl) (hw 8 (by kernel_rfl))).trans (show v 8 = .slice Bk b.kids.length dk from hP 8 (hw 8 (by kernel_rfl)))
              have hlv := (Ext.refl hE9.inv).litV 23 [.slice Ak a.kids.length ck, .slice Bk b.kids.length dk]
              have hks := KsL.lit (J := J9) (g := w'.heap.size) (Sl.mono (Sl.mono HKA.out (hE9.le HE.out.inv)) (hlv.le hE9.inv)) (Sl.mono (Sl.mono HKB.out (hE9.le HE.out.inv)) (hlv.le hE9.inv))
              refine wp_value (x := .slice (some ⟨w'.heap.size, 0, none⟩) 2 2) (w' := w'.alloc (.cells [.slice Ak a.kids.length ck, .slice Bk b.kids.length dk].toArray 23)) ?_ ⟨_, rfl, RG.put hst hE9 hP hlv hks⟩
              clear hw hout hdp hE9 hP hst hlv hks
              unfold execOp
              rw [Array.getD_eq_getD_getElem?] at e76 e78
              go_simp
            · cases ho
              have h9 : KsL J9 (v 9) [a.kids, b.kids] := hP 9 (hw 9 (by kernel_rfl))
              obtain ⟨A9, c9, h9v, -, -⟩ := h9.form
              have e79 := (hdp 9 79 (by kernel_rfl) (hw 9 (by kernel_rfl))).trans h9v
              rw [h9v] at h9
              have hcl := concatK_calls hE9.inv h9 (by simp [totalK]; omega)
              have HP := Lib.hid hP
              have HE9 := Lib.hid hE9
              have HST := Lib.hid hst
              clear hw hout hdp hE9 hP hst h9 h9v
              unfold Oper.wp execOp
              go_simp
              refine hcl.mono ?_
              rintro e5 w5 ⟨v5, J5, rfl, hE5, hO5⟩
              refine ⟨_, rfl, RG.put HST.out HE9.out HP.out hE5 ?_⟩
              have hO6 := hO5.lower HE9.out.below.size
              simpa [totalK, pJ5] using hO6
            · cases ho
              have e71 := (hdp 1 71 (by kernel_rfl) (hw 1 (by kernel_rfl))).trans (show v 1 = .bool a.leaf from hP 1 (hw 1 (by kernel_rfl)))
              have h4 : Own J9 w' w3.heap.size 55 4 (v 4) a.items.length (clC a.items) := hP 4 (hw 4 (by kernel_rfl))
              have h10 : Own J9 w' w3.heap.size 3 1 (v 10) (a.kids ++ b.kids).length (kcs (a.kids ++ b.kids)) := hP 10 (hw 10 (by kernel_rfl))
              have e74 := hdp 4 74 (by kernel_rfl) (hw 4 (by kernel_rfl))
              have e80 := hdp 10 80 (by kernel_rfl) (hw 10 (by kernel_rfl))
              obtain ⟨A4, c4, h4v, -, -⟩ := h4.sl.form
              obtain ⟨A10, c10, h10v, -, -⟩ := h10.sl.form
              rw [h4v] at h4 e74
              rw [h10v] at h10 e80
              refine wp_value (x := .agg #[.bool a.leaf, .slice A4 a.items.length c4, .slice A10 (a.kids ++ b.kids).length c10]) (w' := w') ?_ ⟨_, rfl, RG.same hst hE9 hP ⟨_, _, rfl, h4, h10⟩⟩
              clear hw hout hdp hE9 hP hst h4 h10 h4v h10v
              unfold execOp
              rw [Array.getD_eq_getD_getElem?] at e71 e74 e80
              go_simp
            · cases ho
              refine wp_value (x := .pointer (some ⟨w'.heap.size, 0, none⟩)) (w' := w'.alloc (.cells #[.bool false, .slice none 0 0, .slice none 0 0] 25)) ?_ ⟨_, rfl, RG.put hst hE9 hP ((Ext.refl hE9.inv).alloc _) ⟨_, rfl, heap_alloc_new w' _, hE9.below.size, hE9.inv.nil (Nat.le_refl _)⟩⟩
              clear hw hout hdp hE9 hP hst
              unfold execOp
              go_simp
          · intro L v w' F hall hc hF hFd hout hdp
            obtain ⟨J9, hE9, hP⟩ := hc
            obtain ⟨vi, vk, h11, hOi, hOk⟩ : ∃ vi vk, v 11 = .agg #[.bool a.leaf, vi, vk] ∧ Own J9 w' w3.heap.size 55 4 vi a.items.length (clC a.items) ∧ Own J9 w' w3.heap.size 3 1 vk (a.kids ++ b.kids).length (kcs (a.kids ++ b.kids)) := hP 11 (hall 11 (by omega))
            obtain ⟨nb, h12, hnb, hnlo, hnj⟩ : ∃ n, v 12 = .pointer (some ⟨n, 0, none⟩) ∧ NBox w' n false (.slice none 0 0) (.slice none 0 0) ∧ w3.heap.size ≤ n ∧ J9 n = [] := hP 12 (hall 12 (by omega))
            have e81 := (hdp 11 81 (by kernel_rfl)).trans h11
            have e8 := (hdp 12 8 (by kernel_rfl)).trans h12
            obtain ⟨A4, c4, rfl, -, -⟩ := hOi.sl.form
            obtain ⟨A10, c10, rfl, -, -⟩ := hOk.sl.form
            simp only [List.drop_succ_cons, List.drop_zero]
            refine wpList_skip rfl (run_store3 rfl e8 e81 hnb) ?_
            have hF := hF.trans (fill_put13 70 71 72 73 74 75 76 77 78 79 80 81 8 hall rfl rfl rfl rfl rfl rfl rfl rfl rfl rfl rfl rfl rfl)
            change wpList _ _ _ _ F _
            have HJn := Lib.hid (Jn.start (l := a.leaf) (Ext.refl HE.out.inv) hE9 hnb hnj hnlo hOi hOk)
            clear hFd hout hdp hall hP e81 e8
            simp only [Act.put, List.setIfInBounds_toArray, List.set_cons_succ, List.set_cons_zero, h11, h12] at hF
            subst hF
            generalize v 0 = v0
            generalize v 1 = v1
            generalize v 2 = v2
            generalize v 3 = v3
            generalize v 4 = v4
            generalize v 5 = v5
            generalize v 6 = v6
            generalize v 7 = v7
            generalize v 8 = v8
            generalize v 9 = v9
            generalize v 10 = v10
            have HE9 := Lib.hid hE9
            have HNW := Lib.hid (show w3.heap.size ≤ nb from hnlo)
            clear hOi hOk hnb hnj hnlo h11 h12 hE9
            generalize hKL : (a.kids ++ b.kids).length = KL at *
            clear hKL
            refine wpList_nil ?_
            generalize put3 w' nb (.bool a.leaf) (.slice A4 a.items.length c4) (.slice A10 KL c10) = W5 at *
            have k0 := blk_cell_J HJn.out.nbx 0 rfl
            go_upto_if 84 with fail
            clear k0
            go_cut [84] (fun _ wx => ∃ A1 c1 J1, Hid (Jn J w3 nb a.leaf (.slice A1 (a.items ++ mid a key).length c1) (.slice A10 KL c10) (a.items ++ mid a key) (a.kids ++ b.kids) J1 wx))
            case first => as_aux_lemma =>
              rcases Bool.eq_false_or_eq_true a.leaf with hal | hal
              · have hnl : (!a.leaf) = false := by rw [hal]; rfl
                have HMD := Lib.hid (show mid a key = [] from if_pos hal)
                clear hal
                rw [hnl]
                go_wp2_with fail
                · go_meet
                  exact ⟨A4, c4, J9, by rw [HMD.out, List.append_nil]; exact HJn⟩
              · have hnl : (!a.leaf) = true := by rw [hal]; rfl
                have HMD := Lib.hid (show mid a key = [keyC key] from if_neg (by rw [hal]; decide))
                clear hal
                have k1 := blk_cell_J HJn.out.nbx 1 rfl
                have HJl := Lib.hid (HJn.out.step ((Ext.refl HJn.out.ext.inv).alloc (.cells (clC [keyC key]).toArray 55)))
                rw [hnl]
                go_wp2_with (at_builtin; go_must (refine wpList_append_lit (J := J9) (s := .tmp 86) (x := .tmp 89) (t := 22) (e := 55) (base := w3.heap.size) (v := .slice A4 a.items.length c4) (n := a.items.length) (xs := clC a.items) (m := 1) (news := clC [keyC key]) rfl (.agg #[.string ByteArray.empty, .string ByteArray.empty, .int .i64 0, .int .i64 0]) 4 48 rfl Try.underlying22 info_cell rfl rfl (HJn.out.ext.inv.alloc _) (HJn.out.oi.alloc _) rfl (heap_alloc_new _ _) rfl (clC_one _) (by simp only [maxLen]; omega) (by omega) (by have := HJn.out.ext.below.size; simp; omega) ?_; intro v8 w8 J8 ho8 hg8 hv8; obtain ⟨A8, c8, rfl, -, -⟩ := ho8.sl.form; have HNB8 := Lib.hid (HJl.out.box_i hg8); have HO8 := Lib.hid ho8; have HGR8 := Lib.hid hg8; clear ho8 hg8 hv8; have n81 := blk_cell_J HNB8.out 1 rfl; have n8f := frozen_of_row _ nb 1 _ _ HNB8.out))
                · go_meet
                  exact ⟨A8, c8, J8, by rw [HMD.out, show (a.items ++ [keyC key]).length = a.items.length + 1 from by simp]; exact Lib.hid (HJl.out.item (L := [keyC key]) rfl HO8.out HGR8.out)⟩
            case rest =>
              obtain ⟨A1, c1, J1, HG⟩ := hcut
              clear HJn HE9 HNW
              obtain ⟨IL, hIL⟩ : ∃ IL, IL = (a.items ++ mid a key).length := ⟨_, rfl⟩
              have hILb : IL ≤ 300001 := by
                rw [hIL, List.length_append]
                unfold mid
                split <;> simp <;> omega
              rw [← hIL] at HG
              have HIL := Lib.hid hIL
              clear hIL
              have HBm := Lib.hid (HB.out.ext HG.out.ext)
              have F61 := Lib.hid (F6.out.ext HG.out.ext)
              have HLE := Lib.hid (HG.out.ext.le HE.out.inv)
              have k1 := blk_cell_J HG.out.nbx 1 rfl
              have m1 := blk_cell_J HBm.out 1 rfl
              go_upto_region 9 with (at_builtin; go_must (refine wpList_append_J (J := J1) (s := .tmp 93) (x := .tmp 95) (t := 22) (e := 55) (base := w3.heap.size) (v := .slice A1 IL c1) (n := IL) (xs := clC (a.items ++ mid a key)) rfl (.agg #[.string ByteArray.empty, .string ByteArray.empty, .int .i64 0, .int .i64 0]) 4 48 rfl Try.underlying22 info_cell rfl rfl HG.out.ext.inv (by have h := HG.out.oi; rw [← HIL.out] at h; exact h) rfl (Sl.mono HCB.out HLE.out) (clC_one _) (by simp only [maxLen]; omega) (by omega) HG.out.ext.below.size ?_; intro v8 w8 J8 ho8 hg8 hv8; obtain ⟨A8, c8, rfl, -, -⟩ := ho8.sl.form; have HNB8 := Lib.hid (HG.out.box_i hg8); have HO8 := Lib.hid ho8; have HGR8 := Lib.hid hg8; clear ho8 hg8 hv8; have n81 := blk_cell_J HNB8.out 1 rfl; have n8f := frozen_of_row _ nb 1 _ _ HNB8.out))
              have HG2 := Lib.hid (HG.out.item (L := b.items) rfl (by rw [← HIL.out]; exact HO8.out) HGR8.out)
              clear k1 m1 n81 n8f HBm HNB8 HO8 HGR8 F61
              generalize World.setCell w8 _ _ = W2 at *
              have F62 := Lib.hid (F6.out.ext HG2.out.ext)
              have k0 := blk_cell_J HG2.out.nbx 0 rfl
              have k1 := blk_cell_J HG2.out.nbx 1 rfl
              have k2 := blk_cell_J HG2.out.nbx 2 rfl
              have HJS := Lib.hid (joined_S HSA.out HSB.out hk hla hlb)
              have HND := Lib.hid (show NdO J8 W2 w3.heap.size _ (joined a key b) from HG2.out.node)
              go_wp2_with fail
              refine (Check_calls HG2.out.ext.inv HND.out.v HJS.out).mono ?_
              have HJ6 := Lib.hid ((HG2.out.ext.old b6 (Array.getElem?_eq_some_iff.1 F6.out).1).trans HJ.out.2.2)
              rcases wrong_le (joined a key b) with hwr | hwr | hwr
              · rw [hwr]
                rintro e w9 ⟨rfl, hb9⟩
                have hX := Ext.of_below HG2.out.ext.inv hb9
                have HG3 := Lib.hid (HG2.out.step hX)
                have F6 := Lib.hid (F62.out.ext hX)
                have HND := Lib.hid (HND.out.ext hX)
                clear hX k0 k1 k2
                have HZ := Lib.hid (show jE a key b = 0 ∧ jN a key b = joined a key b from ⟨HJE.out.trans hwr, by unfold jN; rw [if_pos (HJE.out.trans hwr)]⟩)
                have k0 := blk_cell_J HG3.out.nbx 0 rfl
                have k1 := blk_cell_J HG3.out.nbx 1 rfl
                have k2 := blk_cell_J HG3.out.nbx 2 rfl
                have f0 := blk_cell_J F6.out 0 rfl
                have f1 := blk_cell_J F6.out 1 rfl
                have f2 := blk_cell_J F6.out 2 rfl
                have f0f := frozen_of_row _ b6 0 _ _ F6.out
                have f1f := frozen_of_row _ b6 1 _ _ F6.out
                have f2f := frozen_of_row _ b6 2 _ _ F6.out
                clear hwr
                go_wp2_with fail
                have hFA := put3_at (l' := a.leaf) (vi' := .slice A8 (IL + b.items.length) c8) (vk' := .slice A10 KL c10) F6.out
                refine bodyPost_join (e := .int .i64 0) rfl hFA rfl rfl ?_
                refine ⟨_, J8, by rw [HZ.out.1]; rfl, put3_e (HE.out.trans HG3.out.ext) HLO.out HJ6.out _ _ _, ?_⟩
                rw [HZ.out.2]
                exact put3_node HND.out (Array.getElem?_eq_some_iff.1 HF6W.out).1 HE.out.below.size _ _ _
              · rw [hwr]
                rintro e w9 ⟨rfl, hb9⟩
                have hX := Ext.of_below HG2.out.ext.inv hb9
                have F6 := Lib.hid (F62.out.ext hX)
                have HZ := Lib.hid (show jE a key b = 2 ∧ jN a key b = zN from ⟨HJE.out.trans hwr, jN_two (HJE.out.trans hwr) (by decide)⟩)
                have HE := Lib.hid (HE.out.trans (HG2.out.ext.trans hX))
                clear hX k0 k1 k2 hwr hb9
                have f0 := blk_cell_J F6.out 0 rfl
                have f1 := blk_cell_J F6.out 1 rfl
                have f2 := blk_cell_J F6.out 2 rfl
                have f0f := frozen_of_row _ b6 0 _ _ F6.out
                have f1f := frozen_of_row _ b6 1 _ _ F6.out
                have f2f := frozen_of_row _ b6 2 _ _ F6.out
                go_wp2_with fail
                have hFA := put3_at (l' := false) (vi' := .slice none 0 0) (vk' := .slice none 0 0) F6.out
                refine bodyPost_join (e := .int .i64 (2 : Nat)) rfl hFA rfl rfl ?_
                refine ⟨.agg #[.bool false, .slice none 0 0, .slice none 0 0], J8, by rw [HZ.out.1], put3_e HE.out HLO.out HJ6.out _ _ _, ?_⟩
                rw [HZ.out.2]
                exact ⟨_, _, rfl, Own.nil _ _ _ _ _, Own.nil _ _ _ _ _⟩
              · rw [hwr]
                rintro e w9 ⟨rfl, hb9⟩
                have hX := Ext.of_below HG2.out.ext.inv hb9
                have F6 := Lib.hid (F62.out.ext hX)
                have HZ := Lib.hid (show jE a key b = 3 ∧ jN a key b = zN from ⟨HJE.out.trans hwr, jN_two (HJE.out.trans hwr) (by decide)⟩)
                have HE := Lib.hid (HE.out.trans (HG2.out.ext.trans hX))
                clear hX k0 k1 k2 hwr hb9
                have f0 := blk_cell_J F6.out 0 rfl
                have f1 := blk_cell_J F6.out 1 rfl
                have f2 := blk_cell_J F6.out 2 rfl
                have f0f := frozen_of_row _ b6 0 _ _ F6.out
                have f1f := frozen_of_row _ b6 1 _ _ F6.out
                have f2f := frozen_of_row _ b6 2 _ _ F6.out
                go_wp2_with fail
                have hFA := put3_at (l' := false) (vi' := .slice none 0 0) (vk' := .slice none 0 0) F6.out
                refine bodyPost_join (e := .int .i64 (3 : Nat)) rfl hFA rfl rfl ?_
                refine ⟨.agg #[.bool false, .slice none 0 0, .slice none 0 0], J8, by rw [HZ.out.1], put3_e HE.out HLO.out HJ6.out _ _ _, ?_⟩
                rw [HZ.out.2]
                exact ⟨_, _, rfl, Own.nil _ _ _ _ _, Own.nil _ _ _ _ _⟩
end Go.Proofs.Ytnnkgjaahmflmaa
