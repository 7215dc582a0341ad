/- The walk of the document's Join. -/
import Derived.Test.YtnnkgjaahmflmaaCellJoin
namespace Go.Proofs.Ytnnkgjaahmflmaa
open Go.RowKit
set_option linter.unusedVariables false
def bad0 (a b : Nd) : Bool := !right a || !right b || (a.leaf != b.leaf)
theorem bad0_bad1 {a b : Nd} {key : List UInt8} (h : bad0 a b = true) : bad1 a key b = true := by unfold bad1; unfold bad0 at h; rw [h]; rfl
theorem bad0_no {a b : Nd} {key : List UInt8} (h : bad0 a b = false) : bad1 a key b = (!a.leaf && !okItem (keyC key) false) := by unfold bad1; unfold bad0 at h; rw [h]; rfl
theorem bad0_srt {a b : Nd} (h : bad0 a b = false) : Srt a.items ∧ Srt b.items := by
  unfold bad0 at h
  simp only [Bool.or_eq_false_iff, Bool.not_eq_false'] at h
  exact ⟨right_srt h.1.1, right_srt h.1.2⟩
theorem okItem_key (key : List UInt8) : okItem (keyC key) false = decide (1 ≤ key.length ∧ key.length ≤ 64) := by
  unfold okItem keyC
  by_cases h : key.length < 1 ∨ 64 < key.length
  · rw [if_pos h]
    exact (decide_eq_false (by omega)).symm
  · rw [if_neg h]
    rw [decide_eq_true (show 1 ≤ key.length ∧ key.length ≤ 64 by omega)]
    rfl
theorem bad2_no {a b : Nd} {key : List UInt8} (h1 : lastB a key = false) (h2 : firstB b key = false) : bad2 a key b = false := by unfold bad2; rw [h1, h2]; rfl
theorem bodyPost_rjoin {R : Ending → World → Prop} {F : Act} {w : World} {b6 : Nat} {l : Bool} {vi vk e : Value} (hd : F.defers = []) (h : NBox w b6 l vi vk)
    (h6 : F.tmps.getD 6 undef = .pointer (some ⟨b6, 0, none⟩)) (h7 : F.tmps.getD 7 undef = e) (hR : R (.returned (.tuple #[.agg #[.bool l, vi, vk], e])) w) : bodyPost Try.prog Try.f31 R .ret F w := by
  have n0 := blk_cell_J h 0 rfl
  have n1 := blk_cell_J h 1 rfl
  have n2 := blk_cell_J h 2 rfl
  rw [Array.getD_eq_getD_getElem?] at h6 h7
  obtain ⟨tmps, defers⟩ := F
  simp only at hd h6 h7
  subst hd
  refine ⟨rfl, _, ?_, hR⟩
  simp [results, Try.results31, go_sem, n0, n1, n2, h6, h7]
set_option maxRecDepth 100000 in
set_option maxHeartbeats 8000000 in
theorem refJoin_calls {J : Jm} {w : World} (hI : Inv J w) {va vb : Value} {a b : Nd} {key : List UInt8} (ha : NdV J va a) (hb : NdV J vb b) (hsa : NdS a) (hsb : NdS b) (hk : key.length ≤ 9223372036854775807) (hla : a.items.length ≤ 300000) (hlb : b.items.length ≤ 300000) (hka : a.kids.length ≤ 300001) (hkb : b.kids.length ≤ 300001) :
    Calls Try.prog 31 #[va, .string (strB key), vb] w (JoinP J w a key b) := by
  obtain ⟨Ai, ci, Ak, ck, rfl, hni, hmi, hnk, hmk⟩ := ha.form
  obtain ⟨Bi, di, Bk, dk, rfl, hnj, hmj, hnl, hml⟩ := hb.form
  unfold maxLen at hmi hmk hmj hml
  have HVA := Lib.hid ha
  have HVB := Lib.hid hb
  have HSA := Lib.hid hsa
  have HSB := Lib.hid hsb
  clear ha hb hsa hsb
  go_enter Try.func31, Try.ntmps31
  go_upto_region 1 with fail
  have hX1 := two_boxes hI #[.bool a.leaf, .slice Ai a.items.length ci, .slice Ak a.kids.length ck] #[.bool b.leaf, .slice Bi b.items.length di, .slice Bk b.kids.length dk] 25
  have hX2 := hX1.1.alloc (.cells #[.bool false, .slice none 0 0, .slice none 0 0] 25)
  have hs1 : ((w.alloc (.cells #[.bool a.leaf, .slice Ai a.items.length ci, .slice Ak a.kids.length ck] 25)).alloc (.cells #[.bool b.leaf, .slice Bi b.items.length di, .slice Bk b.kids.length dk] 25)).heap.size = w.heap.size + 1 + 1 := by simp
  have hX3 := (Ext.refl hX1.1.inv).alloc (.cells #[.bool false, .slice none 0 0, .slice none 0 0] 25)
  have HA := Lib.hid (show NBox _ w.heap.size a.leaf (.slice Ai a.items.length ci) (.slice Ak a.kids.length ck) from NBox.ext (J := J) (J' := J) hX1.2.1 hX3)
  have HB := Lib.hid (show NBox _ (w.heap.size + 1) b.leaf (.slice Bi b.items.length di) (.slice Bk b.kids.length dk) from NBox.ext (J := J) (J' := J) hX1.2.2 hX3)
  have hX4 := heap_alloc_new ((w.alloc (.cells #[.bool a.leaf, .slice Ai a.items.length ci, .slice Ak a.kids.length ck] 25)).alloc (.cells #[.bool b.leaf, .slice Bi b.items.length di, .slice Bk b.kids.length dk] 25)) (.cells #[.bool false, .slice none 0 0, .slice none 0 0] 25)
  rw [hs1] at hX4
  have F6 := Lib.hid (show NBox _ (w.heap.size + 1 + 1) false (.slice none 0 0) (.slice none 0 0) from hX4)
  have HE := Lib.hid hX2
  have HJ := Lib.hid (show (J w.heap.size = [] ∧ J (w.heap.size + 1) = [] ∧ J (w.heap.size + 1 + 1) = []) from ⟨hI.nil (by omega), hI.nil (by omega), hI.nil (by omega)⟩)
  have HNE := Lib.hid (show w.heap.size ≤ w.heap.size ∧ w.heap.size < w.heap.size + 1 ∧ w.heap.size + 1 < w.heap.size + 1 + 1 from by omega)
  clear hX1 hX2 hX3 hX4 hs1
  generalize World.alloc (World.alloc (World.alloc w _) _) _ = W at *
  generalize hb6 : w.heap.size + 1 + 1 = b6 at *
  generalize hbb : w.heap.size + 1 = bb at *
  obtain ⟨ab, hab⟩ : ∃ ab, ab = w.heap.size := ⟨_, rfl⟩
  have HNE := Lib.hid (show w.heap.size ≤ ab ∧ ab < bb ∧ bb < b6 from by rw [hab]; exact HNE.out)
  have HJ := Lib.hid (show J ab = [] ∧ J bb = [] ∧ J b6 = [] from by rw [hab]; exact HJ.out)
  have HA := Lib.hid (show NBox W ab _ _ _ from by rw [hab]; exact HA.out)
  rw [← hab]
  clear hb6 hbb hab
  go_cut [26] (fun cv wx => cv = .bool (bad0 a b) ∧ Hid (Below W.heap.size W wx))
  case first => as_aux_lemma =>
    have n0 := blk_cell_J HA.out 0 rfl
    have n1 := blk_cell_J HA.out 1 rfl
    have n2 := blk_cell_J HA.out 2 rfl
    have m0 := blk_cell_J HB.out 0 rfl
    have m1 := blk_cell_J HB.out 1 rfl
    have m2 := blk_cell_J HB.out 2 rfl
    go_wp2_with fail
    refine (refRightC HE.out.inv HVA.out HSA.out.2).mono ?_
    cases hra : right a with
    | false =>
      rintro e w1 ⟨rfl, hb1⟩
      clear n0 n1 n2 m0 m1 m2
      go_wp2_with fail
      go_meet
      exact ⟨by rw [show bad0 a b = true from by unfold bad0; rw [hra]; rfl], hb1⟩
    | true =>
      rintro e w1 ⟨rfl, hb1⟩
      have hX := Ext.of_below HE.out.inv hb1
      have HA := Lib.hid (HA.out.ext hX)
      have HB := Lib.hid (HB.out.ext hX)
      have F6 := Lib.hid (F6.out.ext hX)
      have HE := Lib.hid (HE.out.trans hX)
      clear hX
      clear n0 n1 n2 m0 m1 m2
      have n0 := blk_cell_J HA.out 0 rfl
      have n1 := blk_cell_J HA.out 1 rfl
      have n2 := blk_cell_J HA.out 2 rfl
      have m0 := blk_cell_J HB.out 0 rfl
      have m1 := blk_cell_J HB.out 1 rfl
      have m2 := blk_cell_J HB.out 2 rfl
      go_wp2_with fail
      refine (refRightC HE.out.inv HVB.out HSB.out.2).mono ?_
      cases hrb : right b with
      | false =>
        rintro e w2 ⟨rfl, hb2⟩
        clear n0 n1 n2 m0 m1 m2
        go_wp2_with fail
        go_meet
        exact ⟨by rw [show bad0 a b = true from by unfold bad0; rw [hra, hrb]; rfl], hb1.trans (hb2.mono hb1.size)⟩
      | true =>
        rintro e w2 ⟨rfl, hb2⟩
        have hX := Ext.of_below HE.out.inv hb2
        have HA := Lib.hid (HA.out.ext hX)
        have HB := Lib.hid (HB.out.ext hX)
        have F6 := Lib.hid (F6.out.ext hX)
        have HE := Lib.hid (HE.out.trans hX)
        clear hX
        clear n0 n1 n2 m0 m1 m2
        have n0 := blk_cell_J HA.out 0 rfl
        have n1 := blk_cell_J HA.out 1 rfl
        have n2 := blk_cell_J HA.out 2 rfl
        have m0 := blk_cell_J HB.out 0 rfl
        have m1 := blk_cell_J HB.out 1 rfl
        have m2 := blk_cell_J HB.out 2 rfl
        have hbw := hb1.trans (hb2.mono hb1.size)
        have HRA := Lib.hid hra
        have HRB := Lib.hid hrb
        have HBW := Lib.hid hbw
        clear hb1 hb2 hbw hra hrb
        rcases Bool.eq_false_or_eq_true a.leaf with hal | hal <;> rcases Bool.eq_false_or_eq_true b.leaf with hbl | hbl
        all_goals
          rw [hal] at n0
          rw [hbl] at m0
          have HAL := Lib.hid hal
          have HBL := Lib.hid hbl
          clear hal hbl
          go_wp2_with fail
          go_meet
          first
          | exact ⟨by rw [show bad0 a b = false from by unfold bad0; rw [HRA.out, HRB.out, HAL.out, HBL.out]; rfl], HBW⟩
          | exact ⟨by rw [show bad0 a b = true from by unfold bad0; rw [HRA.out, HRB.out, HAL.out, HBL.out]; rfl], HBW⟩
  case rest =>
    obtain ⟨rfl, HBW⟩ := hcut
    have hX := Ext.of_below HE.out.inv HBW.out
    have HA := Lib.hid (HA.out.ext hX)
    have HB := Lib.hid (HB.out.ext hX)
    have F6 := Lib.hid (F6.out.ext hX)
    have HE := Lib.hid (HE.out.trans hX)
    clear hX
    clear HBW
    have HLO := Lib.hid (show w.heap.size ≤ b6 from by have := HNE.out; omega)
    have HJ6 := Lib.hid HJ.out.2.2
    cases hbd0 : bad0 a b with
    | true =>
      have hbd1 := bad0_bad1 (key := key) hbd0
      have HZ := Lib.hid (show jE a key b = 2 ∧ jN a key b = zN from ⟨jE_bad1 hbd1, jN_two (jE_bad1 hbd1) (by decide)⟩)
      clear hbd1
      have f0 := blk_cell_J F6.out 0 rfl
      have f1 := blk_cell_J F6.out 1 rfl
      have f2 := blk_cell_J F6.out 2 rfl
      have f0f := frozen_of_row _ b6 0 _ _ F6.out
      have f1f := frozen_of_row _ b6 1 _ _ F6.out
      have f2f := frozen_of_row _ b6 2 _ _ F6.out
      go_wp2_with fail
      have hFA := put3_at (l' := false) (vi' := .slice none 0 0) (vk' := .slice none 0 0) F6.out
      refine bodyPost_rjoin (e := .int .i64 (2 : Nat)) rfl hFA rfl rfl ?_
      refine ⟨.agg #[.bool false, .slice none 0 0, .slice none 0 0], J, by rw [HZ.out.1], put3_e HE.out HLO.out HJ6.out _ _ _, ?_⟩
      rw [HZ.out.2]
      exact ⟨_, _, rfl, Own.nil _ _ _ _ _, Own.nil _ _ _ _ _⟩
    | false =>
      have HSRT := Lib.hid (bad0_srt hbd0)
      have HB1 := Lib.hid (bad0_no (key := key) hbd0)
      clear hbd0
      obtain ⟨hvi, hvk⟩ := ndv_open HVA.out
      obtain ⟨hwi, hwk⟩ := ndv_open HVB.out
      have HCI := Lib.hid hvi
      have HKA := Lib.hid hvk
      have HCB := Lib.hid hwi
      have HKB := Lib.hid hwk
      clear hvi hvk hwi hwk
      have n0 := blk_cell_J HA.out 0 rfl
      have n1 := blk_cell_J HA.out 1 rfl
      have n2 := blk_cell_J HA.out 2 rfl
      have m0 := blk_cell_J HB.out 0 rfl
      have m1 := blk_cell_J HB.out 1 rfl
      have m2 := blk_cell_J HB.out 2 rfl
      go_wp2_with fail
      go_loopw [8] (fun iv wr => ∃ k : Nat, k ≤ a.items.length ∧ iv = .int .i64 k ∧ wr = wc ∧ Hid (∀ j (hj : j < a.items.length), j < k → lt8 a.items[j].key key = true)) (fun iv _ => a.items.length - (intOf iv).toNat)
      case atStart => exact ⟨0, by omega, rfl, rfl, fun j hj h => absurd h (by omega)⟩
      case round =>
        obtain ⟨k, hk1, rfl, hwr, HAL⟩ := hrel
        cases hwr.symm
        have k0 : (0 : Int) ≤ (k : Int) := by omega
        have k9 : (k : Int) ≤ 300000 := by omega
        by_cases hlt : k < a.items.length
        · have h1 : (k : Int) < a.items.length := by omega
          obtain ⟨xb, xo, rfl, c0, -, -, -⟩ := Cls.cell HCI.out HE.out.inv hlt
          have HAN := Lib.hid (fun h : lt8 a.items[k].key key = false => lastB_any HSRT.out.1 hlt h)
          have HAY := Lib.hid (fun (h : lt8 a.items[k].key key = true) j (hj : j < a.items.length) (h2 : j < k + 1) => show lt8 a.items[j].key key = true from by
            by_cases e : j = k
            · subst e; exact h
            · exact HAL.out j hj (by omega))
          generalize a.items[k].key = xk at c0 HAN HAY
          have hlb := lt8_str xk key
          cases hlx : lt8 xk key with
          | false =>
            rw [hlx] at hlb
            have hbd2 : bad2 a key b = true := by unfold bad2; rw [HAN.out hlx]; rfl
            have HZ := Lib.hid (show jE a key b = 2 ∧ jN a key b = zN from ⟨jE_bad2 hbd2, jN_two (jE_bad2 hbd2) (by decide)⟩)
            clear hbd2 hlx
            have f0 := blk_cell_J F6.out 0 rfl
            have f1 := blk_cell_J F6.out 1 rfl
            have f2 := blk_cell_J F6.out 2 rfl
            have f0f := frozen_of_row _ b6 0 _ _ F6.out
            have f1f := frozen_of_row _ b6 1 _ _ F6.out
            have f2f := frozen_of_row _ b6 2 _ _ F6.out
            go_wp2_with fail
            have hFA := put3_at (l' := false) (vi' := .slice none 0 0) (vk' := .slice none 0 0) F6.out
            refine bodyPost_rjoin (e := .int .i64 (2 : Nat)) rfl hFA rfl rfl ?_
            refine ⟨.agg #[.bool false, .slice none 0 0, .slice none 0 0], J, by rw [HZ.out.1], put3_e HE.out HLO.out HJ6.out _ _ _, ?_⟩
            rw [HZ.out.2]
            exact ⟨_, _, rfl, Own.nil _ _ _ _ _, Own.nil _ _ _ _ _⟩
          | true =>
            rw [hlx] at hlb
            have HAY := Lib.hid (HAY.out hlx)
            clear hlx
            go_wp2_with fail
            go_roundw
            case rel => exact ⟨k + 1, by omega, by go_num, by trivial, HAY⟩
            case measure => simp [intOf] <;> omega
        · have h1 : ¬ (k : Int) < a.items.length := by omega
          have HLB := Lib.hid (lastB_none (a := a) (key := key) (fun j hj => HAL.out j hj (by omega)))
          go_wp2_with fail
          go_loopw [9] (fun iv wr => ∃ k : Nat, k ≤ b.items.length ∧ iv = .int .i64 k ∧ wr = wc ∧ Hid (∀ j (hj : j < b.items.length), j < k → lt8 b.items[j].key key = false)) (fun iv _ => b.items.length - (intOf iv).toNat)
          case atStart => exact ⟨0, by omega, rfl, rfl, fun j hj h => absurd h (by omega)⟩
          case round =>
            obtain ⟨q, hq1, rfl, hwr, HBL⟩ := hrel
            cases hwr.symm
            have q0 : (0 : Int) ≤ (q : Int) := by omega
            have q9 : (q : Int) ≤ 300000 := by omega
            by_cases hlq : q < b.items.length
            · have h2 : (q : Int) < b.items.length := by omega
              obtain ⟨yb, yo, rfl, c0, -, -, -⟩ := Cls.cell HCB.out HE.out.inv hlq
              have HAN := Lib.hid (fun h : lt8 b.items[q].key key = true => firstB_any HSRT.out.2 hlq h)
              have HAY := Lib.hid (fun (h : lt8 b.items[q].key key = false) j (hj : j < b.items.length) (h2 : j < q + 1) => show lt8 b.items[j].key key = false from by
                by_cases e : j = q
                · subst e; exact h
                · exact HBL.out j hj (by omega))
              have HDU := Lib.hid (fun (h : b.items[q].key = key) (hal : a.leaf = false) => jE_dup hal hlq h)
              generalize b.items[q].key = yk at c0 HAN HAY HDU
              have hlb := lt8_str yk key
              cases hlx : lt8 yk key with
              | true =>
                rw [hlx] at hlb
                have hbd2 : bad2 a key b = true := by unfold bad2; rw [HAN.out hlx, Bool.or_true]
                have HZ := Lib.hid (show jE a key b = 2 ∧ jN a key b = zN from ⟨jE_bad2 hbd2, jN_two (jE_bad2 hbd2) (by decide)⟩)
                clear hbd2 hlx
                have f0 := blk_cell_J F6.out 0 rfl
                have f1 := blk_cell_J F6.out 1 rfl
                have f2 := blk_cell_J F6.out 2 rfl
                have f0f := frozen_of_row _ b6 0 _ _ F6.out
                have f1f := frozen_of_row _ b6 1 _ _ F6.out
                have f2f := frozen_of_row _ b6 2 _ _ F6.out
                go_wp2_with fail
                have hFA := put3_at (l' := false) (vi' := .slice none 0 0) (vk' := .slice none 0 0) F6.out
                refine bodyPost_rjoin (e := .int .i64 (2 : Nat)) rfl hFA rfl rfl ?_
                refine ⟨.agg #[.bool false, .slice none 0 0, .slice none 0 0], J, by rw [HZ.out.1], put3_e HE.out HLO.out HJ6.out _ _ _, ?_⟩
                rw [HZ.out.2]
                exact ⟨_, _, rfl, Own.nil _ _ _ _ _, Own.nil _ _ _ _ _⟩
              | false =>
                rw [hlx] at hlb
                have HAY := Lib.hid (HAY.out hlx)
                clear hlx
                have hkq : ((strB yk).toList == (strB key).toList) = decide (yk = key) := by rw [strB_toList, strB_toList]; by_cases h : yk = key <;> simp [h]
                rcases Bool.eq_false_or_eq_true a.leaf with hal | hal
                · rw [hal] at n0
                  have HAL2 := Lib.hid hal
                  clear hal hkq
                  go_wp2_with fail
                  go_roundw
                  case rel => exact ⟨q + 1, by omega, by go_num, by trivial, HAY⟩
                  case measure => simp [intOf] <;> omega
                · rw [hal] at n0
                  have HAL2 := Lib.hid hal
                  clear hal
                  by_cases hey : yk = key
                  · have HZ := Lib.hid (show jE a key b = 2 ∧ jN a key b = zN from ⟨HDU.out hey HAL2.out, jN_two (HDU.out hey HAL2.out) (by decide)⟩)
                    have hde : decide (yk = key) = true := decide_eq_true hey
                    rw [hde] at hkq
                    clear hde hey
                    have f0 := blk_cell_J F6.out 0 rfl
                    have f1 := blk_cell_J F6.out 1 rfl
                    have f2 := blk_cell_J F6.out 2 rfl
                    have f0f := frozen_of_row _ b6 0 _ _ F6.out
                    have f1f := frozen_of_row _ b6 1 _ _ F6.out
                    have f2f := frozen_of_row _ b6 2 _ _ F6.out
                    go_wp2_with fail
                    have hFA := put3_at (l' := false) (vi' := .slice none 0 0) (vk' := .slice none 0 0) F6.out
                    refine bodyPost_rjoin (e := .int .i64 (2 : Nat)) rfl hFA rfl rfl ?_
                    refine ⟨.agg #[.bool false, .slice none 0 0, .slice none 0 0], J, by rw [HZ.out.1], put3_e HE.out HLO.out HJ6.out _ _ _, ?_⟩
                    rw [HZ.out.2]
                    exact ⟨_, _, rfl, Own.nil _ _ _ _ _, Own.nil _ _ _ _ _⟩
                  · have hde : decide (yk = key) = false := decide_eq_false hey
                    rw [hde] at hkq
                    clear hde hey
                    go_wp2_with fail
                    go_roundw
                    case rel => exact ⟨q + 1, by omega, by go_num, by trivial, HAY⟩
                    case measure => simp [intOf] <;> omega
            · have h2 : ¬ (q : Int) < b.items.length := by omega
              have HFB := Lib.hid (firstB_none (b := b) (key := key) (fun j hj => HBL.out j hj (by omega)))
              have HBD2 := Lib.hid (bad2_no HLB.out HFB.out)
              go_upto_region 14 with fail
              have HG0 := Lib.hid (show Jn J wc wc.heap.size a.leaf (.slice none 0 0) (.slice none 0 0) [] [] J (wc.alloc (.cells #[.bool a.leaf, .slice none 0 0, .slice none 0 0] 25)) from
                ⟨(Ext.refl HE.out.inv).alloc _, heap_alloc_new wc _, HE.out.inv.nil (Nat.le_refl _), Own.nil _ _ _ _ _, Own.nil _ _ _ _ _, Nat.le_refl _⟩)
              obtain ⟨nb, hnb⟩ : ∃ nb, nb = wc.heap.size := ⟨_, rfl⟩
              have HG0 := Lib.hid (show Jn J wc nb a.leaf (.slice none 0 0) (.slice none 0 0) [] [] J (wc.alloc (.cells #[.bool a.leaf, .slice none 0 0, .slice none 0 0] 25)) from by rw [hnb]; exact HG0.out)
              rw [← hnb]
              generalize World.alloc wc _ = W0 at *
              clear hnb n0 n1 n2 m0 m1 m2
              have HA0 := Lib.hid (HA.out.ext HG0.out.ext)
              have n0 := blk_cell_J HA0.out 0 rfl
              have n1 := blk_cell_J HA0.out 1 rfl
              have k1 := blk_cell_J HG0.out.nbx 1 rfl
              obtain ⟨wq, rfl⟩ : ∃ x, x = wc := ⟨wc, rfl⟩
              go_upto_region 15 with (at_builtin; go_must (refine wpList_append_J (J := J) (s := .tmp 79) (x := .tmp 81) (t := 22) (e := 55) (base := wq.heap.size) (v := .slice none 0 0) (n := 0) (xs := clC []) rfl (.agg #[.string ByteArray.empty, .string ByteArray.empty, .int .i64 0, .int .i64 0]) 4 48 rfl Try.underlying22 info_cell rfl rfl HG0.out.ext.inv (HG0.out.oi) rfl (HCI.out) (clC_one _) (by simp only [maxLen]; omega) (by omega) HG0.out.ext.below.size ?_; intro v8 w8 J8 ho8 hg8 hv8; simp only [Nat.zero_add] at ho8; obtain ⟨A8, c8, rfl, -, -⟩ := ho8.sl.form; have HNB8 := Lib.hid (HG0.out.box_i hg8); have HO8 := Lib.hid ho8; have HGR8 := Lib.hid hg8; clear ho8 hg8 hv8; have n81 := blk_cell_J HNB8.out 1 rfl; have n8f := frozen_of_row _ nb 1 _ _ HNB8.out))
              have HG1 := Lib.hid (show Jn J wq nb a.leaf (.slice A8 a.items.length c8) (.slice none 0 0) a.items [] J8 _ from HG0.out.item (L := a.items) (m := a.items.length) rfl (by rw [show ([] : List Cl).length + a.items.length = a.items.length from Nat.zero_add _]; exact HO8.out) HGR8.out)
              clear k1 n0 n1 n81 n8f HNB8 HO8 HGR8 HA0
              generalize World.setCell w8 _ _ = W1 at *
              have HA1 := Lib.hid (HA.out.ext HG1.out.ext)
              have n0 := blk_cell_J HA1.out 0 rfl
              go_upto_if 86 with fail
              clear n0
              go_cut [86] (fun _ wx => ∃ A1 c1 J1, Hid (bad1 a key b = false) ∧ Hid (Jn J wq nb a.leaf (.slice A1 (a.items ++ mid a key).length c1) (.slice none 0 0) (a.items ++ mid a key) [] J1 wx))
              case first => as_aux_lemma =>
                rcases Bool.eq_false_or_eq_true a.leaf with hal | hal
                · have hnl : (!a.leaf) = false := by rw [hal]; rfl
                  have HMD := Lib.hid (show mid a key = [] from if_pos hal)
                  have HBD1 := Lib.hid (show bad1 a key b = false from by rw [HB1.out, hnl]; rfl)
                  clear hal
                  rw [hnl]
                  go_wp2_with fail
                  go_meet
                  exact ⟨A8, c8, J8, HBD1, by rw [HMD.out, List.append_nil]; exact HG1⟩
                · have hnl : (!a.leaf) = true := by rw [hal]; rfl
                  have HMD := Lib.hid (show mid a key = [keyC key] from if_neg (by rw [hal]; decide))
                  have HBD1 := Lib.hid (show bad1 a key b = !decide (1 ≤ key.length ∧ key.length ≤ 64) from by rw [HB1.out, hnl, okItem_key]; rfl)
                  clear hal
                  rw [hnl]
                  have hsz : (strB key).size = key.length := strB_size key
                  by_cases hkl : 1 ≤ key.length ∧ key.length ≤ 64
                  · have HB11 := Lib.hid (show bad1 a key b = false from by rw [HBD1.out, decide_eq_true hkl]; rfl)
                    have g1 : ¬ (key.length : Int) < 1 := by omega
                    have g2 : ¬ (64 : Int) < (key.length : Int) := by omega
                    clear hkl
                    have k1 := blk_cell_J HG1.out.nbx 1 rfl
                    have HJl := Lib.hid (HG1.out.step ((Ext.refl HG1.out.ext.inv).alloc (.cells (clC [keyC key]).toArray 55)))
                    go_wp2_with (at_builtin; go_must (refine wpList_append_lit (J := J8) (s := .tmp 97) (x := .tmp 100) (t := 22) (e := 55) (base := wq.heap.size) (v := .slice A8 a.items.length c8) (n := a.items.length) (xs := clC a.items) (m := 1) (news := clC [keyC key]) rfl (.agg #[.string ByteArray.empty, .string ByteArray.empty, .int .i64 0, .int .i64 0]) 4 48 rfl Try.underlying22 info_cell rfl rfl (HG1.out.ext.inv.alloc _) (HG1.out.oi.alloc _) rfl (heap_alloc_new _ _) rfl (clC_one _) (by simp only [maxLen]; omega) (by omega) (by have := HG1.out.ext.below.size; simp; omega) ?_; intro v9 w9 J9 ho9 hg9 hv9; obtain ⟨A9, c9, rfl, -, -⟩ := ho9.sl.form; have HNB9 := Lib.hid (HJl.out.box_i hg9); have HO9 := Lib.hid ho9; have HGR9 := Lib.hid hg9; clear ho9 hg9 hv9; have n91 := blk_cell_J HNB9.out 1 rfl; have n9f := frozen_of_row _ nb 1 _ _ HNB9.out))
                    go_meet
                    exact ⟨A9, c9, J9, HB11, by rw [HMD.out, show (a.items ++ [keyC key]).length = a.items.length + 1 from by simp]; exact Lib.hid (HJl.out.item (L := [keyC key]) rfl HO9.out HGR9.out)⟩
                  · have hbd1 : bad1 a key b = true := by rw [HBD1.out, decide_eq_false hkl]; rfl
                    have HZ := Lib.hid (show jE a key b = 2 ∧ jN a key b = zN from ⟨jE_bad1 hbd1, jN_two (jE_bad1 hbd1) (by decide)⟩)
                    clear hbd1
                    have HJ6 := Lib.hid ((HG1.out.ext.old b6 (Array.getElem?_eq_some_iff.1 F6.out).1).trans HJ.out.2.2)
                    have F6 := Lib.hid (F6.out.ext HG1.out.ext)
                    have HE := Lib.hid (HE.out.trans HG1.out.ext)
                    by_cases g1 : key.length < 1
                    · have g2 : (key.length : Int) < 1 := by omega
                      have f0 := blk_cell_J F6.out 0 rfl
                      have f1 := blk_cell_J F6.out 1 rfl
                      have f2 := blk_cell_J F6.out 2 rfl
                      have f0f := frozen_of_row _ b6 0 _ _ F6.out
                      have f1f := frozen_of_row _ b6 1 _ _ F6.out
                      have f2f := frozen_of_row _ b6 2 _ _ F6.out
                      go_wp2_with fail
                      have hFA := put3_at (l' := false) (vi' := .slice none 0 0) (vk' := .slice none 0 0) F6.out
                      refine bodyPost_rjoin (e := .int .i64 (2 : Nat)) rfl hFA rfl rfl ?_
                      refine ⟨.agg #[.bool false, .slice none 0 0, .slice none 0 0], J8, by rw [HZ.out.1], put3_e HE.out HLO.out HJ6.out _ _ _, ?_⟩
                      rw [HZ.out.2]
                      exact ⟨_, _, rfl, Own.nil _ _ _ _ _, Own.nil _ _ _ _ _⟩
                    · have g2 : ¬ (key.length : Int) < 1 := by omega
                      have g3 : (64 : Int) < (key.length : Int) := by omega
                      have f0 := blk_cell_J F6.out 0 rfl
                      have f1 := blk_cell_J F6.out 1 rfl
                      have f2 := blk_cell_J F6.out 2 rfl
                      have f0f := frozen_of_row _ b6 0 _ _ F6.out
                      have f1f := frozen_of_row _ b6 1 _ _ F6.out
                      have f2f := frozen_of_row _ b6 2 _ _ F6.out
                      go_wp2_with fail
                      have hFA := put3_at (l' := false) (vi' := .slice none 0 0) (vk' := .slice none 0 0) F6.out
                      refine bodyPost_rjoin (e := .int .i64 (2 : Nat)) rfl hFA rfl rfl ?_
                      refine ⟨.agg #[.bool false, .slice none 0 0, .slice none 0 0], J8, by rw [HZ.out.1], put3_e HE.out HLO.out HJ6.out _ _ _, ?_⟩
                      rw [HZ.out.2]
                      exact ⟨_, _, rfl, Own.nil _ _ _ _ _, Own.nil _ _ _ _ _⟩
              case rest =>
                obtain ⟨A1, c1, J1, HBD1, HG⟩ := hcut
                clear HG1 HA1
                have HJE := Lib.hid (jE_ok HBD1.out HBD2.out)
                obtain ⟨IL, hIL⟩ : ∃ IL, IL = (a.items ++ mid a key).length := ⟨_, rfl⟩
                have hILb : IL ≤ 300001 := by
                  rw [hIL, List.length_append]
                  unfold mid
                  split <;> simp <;> omega
                rw [← hIL] at HG
                have HIL := Lib.hid hIL
                clear hIL
                obtain ⟨w3, rfl⟩ : ∃ x, x = wc := ⟨wc, rfl⟩
                have HB2 := Lib.hid (HB.out.ext HG.out.ext)
                have HLE := Lib.hid (HG.out.ext.le HE.out.inv)
                have k1 := blk_cell_J HG.out.nbx 1 rfl
                have m1 := blk_cell_J HB2.out 1 rfl
                go_upto_region 20 with (at_builtin; go_must (refine wpList_append_J (J := J1) (s := .tmp 104) (x := .tmp 106) (t := 22) (e := 55) (base := wq.heap.size) (v := .slice A1 IL c1) (n := IL) (xs := clC (a.items ++ mid a key)) rfl (.agg #[.string ByteArray.empty, .string ByteArray.empty, .int .i64 0, .int .i64 0]) 4 48 rfl Try.underlying22 info_cell rfl rfl HG.out.ext.inv (by have h := HG.out.oi; rw [← HIL.out] at h; exact h) rfl (Sl.mono HCB.out HLE.out) (clC_one _) (by simp only [maxLen]; omega) (by omega) HG.out.ext.below.size ?_; intro v8 w8 J8 ho8 hg8 hv8; obtain ⟨A8, c8, rfl, -, -⟩ := ho8.sl.form; have HNB8 := Lib.hid (HG.out.box_i hg8); have HO8 := Lib.hid ho8; have HGR8 := Lib.hid hg8; clear ho8 hg8 hv8; have n81 := blk_cell_J HNB8.out 1 rfl; have n8f := frozen_of_row _ nb 1 _ _ HNB8.out))
                have HG2 := Lib.hid (HG.out.item (L := b.items) rfl (by rw [← HIL.out]; exact HO8.out) HGR8.out)
                clear k1 m1 n81 n8f HB2 HNB8 HO8 HGR8
                generalize World.setCell w8 _ _ = W2 at *
                have HA2 := Lib.hid (HA.out.ext HG2.out.ext)
                have HLE := Lib.hid (HG2.out.ext.le HE.out.inv)
                have k2 := blk_cell_J HG2.out.nbx 2 rfl
                have n2 := blk_cell_J HA2.out 2 rfl
                go_upto_region 21 with (at_builtin; go_must (refine wpList_append_J (J := J8) (s := .tmp 110) (x := .tmp 112) (t := 23) (e := 3) (base := wq.heap.size) (v := .slice none 0 0) (n := 0) (xs := kcs []) rfl (.int .i64 0) 1 8 rfl Try.underlying23 info_int rfl rfl HG2.out.ext.inv (HG2.out.ok) rfl (Sl.mono HKA.out HLE.out) (kcs_one _) (by simp only [maxLen]; omega) (by omega) HG2.out.ext.below.size ?_; intro v7 w7 J7 ho7 hg7 hv7; simp only [Nat.zero_add] at ho7; obtain ⟨A7, c7, rfl, -, -⟩ := ho7.sl.form; have HNB7 := Lib.hid (HG2.out.box_k hg7); have HO7 := Lib.hid ho7; have HGR7 := Lib.hid hg7; clear ho7 hg7 hv7; have n72 := blk_cell_J HNB7.out 2 rfl; have n7f := frozen_of_row _ nb 2 _ _ HNB7.out))
                have HG3 := Lib.hid (show Jn J wq nb a.leaf _ (.slice A7 a.kids.length c7) (a.items ++ mid a key ++ b.items) a.kids J7 _ from HG2.out.kid (M := a.kids) (m := a.kids.length) rfl (by rw [show ([] : List Int).length + a.kids.length = a.kids.length from Nat.zero_add _]; exact HO7.out) HGR7.out)
                clear k2 n2 n72 n7f HA2 HNB7 HO7 HGR7
                generalize World.setCell w7 _ _ = W3 at *
                have HB3 := Lib.hid (HB.out.ext HG3.out.ext)
                have HLE := Lib.hid (HG3.out.ext.le HE.out.inv)
                have k2 := blk_cell_J HG3.out.nbx 2 rfl
                have m2 := blk_cell_J HB3.out 2 rfl
                go_upto_region 22 with (at_builtin; go_must (refine wpList_append_J (J := J7) (s := .tmp 116) (x := .tmp 118) (t := 23) (e := 3) (base := wq.heap.size) (v := .slice A7 a.kids.length c7) (n := a.kids.length) (xs := kcs a.kids) rfl (.int .i64 0) 1 8 rfl Try.underlying23 info_int rfl rfl HG3.out.ext.inv (HG3.out.ok) rfl (Sl.mono HKB.out HLE.out) (kcs_one _) (by simp only [maxLen]; omega) (by omega) HG3.out.ext.below.size ?_; intro v6 w6 J6 ho6 hg6 hv6; obtain ⟨A6, c6, rfl, -, -⟩ := ho6.sl.form; have HNB6 := Lib.hid (HG3.out.box_k hg6); have HO6 := Lib.hid ho6; have HGR6 := Lib.hid hg6; clear ho6 hg6 hv6; have n62 := blk_cell_J HNB6.out 2 rfl; have n6f := frozen_of_row _ nb 2 _ _ HNB6.out))
                have HG4 := Lib.hid (HG3.out.kid (M := b.kids) (m := b.kids.length) rfl HO6.out HGR6.out)
                clear k2 m2 n62 n6f HB3 HNB6 HO6 HGR6
                generalize World.setCell w6 _ _ = W4 at *
                have F64 := Lib.hid (F6.out.ext HG4.out.ext)
                have k0 := blk_cell_J HG4.out.nbx 0 rfl
                have k1 := blk_cell_J HG4.out.nbx 1 rfl
                have k2 := blk_cell_J HG4.out.nbx 2 rfl
                have HJS := Lib.hid (joined_S HSA.out HSB.out hk hla hlb)
                have HND := Lib.hid (show NdO J6 W4 wq.heap.size _ (joined a key b) from HG4.out.node)
                go_wp2_with fail
                refine (Wrong_calls HG4.out.ext.inv HND.out.v HJS.out).mono ?_
                have HJ6 := Lib.hid ((HG4.out.ext.old b6 (Array.getElem?_eq_some_iff.1 F6.out).1).trans HJ.out.2.2)
                have HF6W := F6
                rcases wrong_le (joined a key b) with hwr | hwr | hwr
                · rw [hwr]
                  rintro e w9 ⟨rfl, hb9⟩
                  have hX := Ext.of_below HG4.out.ext.inv hb9
                  have HG5 := Lib.hid (HG4.out.step hX)
                  have F6 := Lib.hid (F64.out.ext hX)
                  have HND := Lib.hid (HND.out.ext hX)
                  clear hX k0 k1 k2
                  have HZ := Lib.hid (show jE a key b = 0 ∧ jN a key b = joined a key b from ⟨HJE.out.trans hwr, by unfold jN; rw [if_pos (HJE.out.trans hwr)]⟩)
                  have k0 := blk_cell_J HG5.out.nbx 0 rfl
                  have k1 := blk_cell_J HG5.out.nbx 1 rfl
                  have k2 := blk_cell_J HG5.out.nbx 2 rfl
                  have f0 := blk_cell_J F6.out 0 rfl
                  have f1 := blk_cell_J F6.out 1 rfl
                  have f2 := blk_cell_J F6.out 2 rfl
                  have f0f := frozen_of_row _ b6 0 _ _ F6.out
                  have f1f := frozen_of_row _ b6 1 _ _ F6.out
                  have f2f := frozen_of_row _ b6 2 _ _ F6.out
                  clear hwr
                  go_wp2_with fail
                  have hFA := put3_at (l' := a.leaf) (vi' := .slice A8 (IL + b.items.length) c8) (vk' := .slice A6 (a.kids.length + b.kids.length) c6) F6.out
                  refine bodyPost_rjoin (e := .int .i64 0) rfl hFA rfl rfl ?_
                  refine ⟨_, J6, by rw [HZ.out.1]; rfl, put3_e (HE.out.trans HG5.out.ext) HLO.out HJ6.out _ _ _, ?_⟩
                  rw [HZ.out.2]
                  exact put3_node HND.out (Array.getElem?_eq_some_iff.1 HF6W.out).1 HE.out.below.size _ _ _
                · rw [hwr]
                  rintro e w9 ⟨rfl, hb9⟩
                  have hX := Ext.of_below HG4.out.ext.inv hb9
                  have F6 := Lib.hid (F64.out.ext hX)
                  have HZ := Lib.hid (show jE a key b = 2 ∧ jN a key b = zN from ⟨HJE.out.trans hwr, jN_two (HJE.out.trans hwr) (by decide)⟩)
                  have HE := Lib.hid (HE.out.trans (HG4.out.ext.trans hX))
                  clear hX k0 k1 k2 hwr hb9
                  have f0 := blk_cell_J F6.out 0 rfl
                  have f1 := blk_cell_J F6.out 1 rfl
                  have f2 := blk_cell_J F6.out 2 rfl
                  have f0f := frozen_of_row _ b6 0 _ _ F6.out
                  have f1f := frozen_of_row _ b6 1 _ _ F6.out
                  have f2f := frozen_of_row _ b6 2 _ _ F6.out
                  go_wp2_with fail
                  have hFA := put3_at (l' := false) (vi' := .slice none 0 0) (vk' := .slice none 0 0) F6.out
                  refine bodyPost_rjoin (e := .int .i64 (2 : Nat)) rfl hFA rfl rfl ?_
                  refine ⟨.agg #[.bool false, .slice none 0 0, .slice none 0 0], J6, by rw [HZ.out.1], put3_e HE.out HLO.out HJ6.out _ _ _, ?_⟩
                  rw [HZ.out.2]
                  exact ⟨_, _, rfl, Own.nil _ _ _ _ _, Own.nil _ _ _ _ _⟩
                · rw [hwr]
                  rintro e w9 ⟨rfl, hb9⟩
                  have hX := Ext.of_below HG4.out.ext.inv hb9
                  have F6 := Lib.hid (F64.out.ext hX)
                  have HZ := Lib.hid (show jE a key b = 3 ∧ jN a key b = zN from ⟨HJE.out.trans hwr, jN_two (HJE.out.trans hwr) (by decide)⟩)
                  have HE := Lib.hid (HE.out.trans (HG4.out.ext.trans hX))
                  clear hX k0 k1 k2 hwr hb9
                  have f0 := blk_cell_J F6.out 0 rfl
                  have f1 := blk_cell_J F6.out 1 rfl
                  have f2 := blk_cell_J F6.out 2 rfl
                  have f0f := frozen_of_row _ b6 0 _ _ F6.out
                  have f1f := frozen_of_row _ b6 1 _ _ F6.out
                  have f2f := frozen_of_row _ b6 2 _ _ F6.out
                  go_wp2_with fail
                  have hFA := put3_at (l' := false) (vi' := .slice none 0 0) (vk' := .slice none 0 0) F6.out
                  refine bodyPost_rjoin (e := .int .i64 (3 : Nat)) rfl hFA rfl rfl ?_
                  refine ⟨.agg #[.bool false, .slice none 0 0, .slice none 0 0], J6, by rw [HZ.out.1], put3_e HE.out HLO.out HJ6.out _ _ _, ?_⟩
                  rw [HZ.out.2]
                  exact ⟨_, _, rfl, Own.nil _ _ _ _ _, Own.nil _ _ _ _ _⟩
end Go.Proofs.Ytnnkgjaahmflmaa
