/- The walk of the document's Half. -/
import Derived.Test.YtnnkgjaahmflmaaCellHalf
namespace Go.Proofs.Ytnnkgjaahmflmaa
open Go.RowKit
set_option linter.unusedVariables false
theorem zN_v (J : Jm) : NdV J (.agg #[.bool false, .slice none 0 0, .slice none 0 0]) zN := ⟨_, _, rfl, (Own.nil J default 0 0 4).sl, (Own.nil J default 0 0 1).sl⟩
theorem fill_put7 {ops : Array Oper} {L : Nat → Bool} {v : Nat → Value} {a : Act} (d0 d1 d2 d3 d4 d5 d6 : Tmp) (hall : ∀ j, j < 7 → L j = true) (h0 : dstOf ops 0 = some d0) (h1 : dstOf ops 1 = some d1) (h2 : dstOf ops 2 = some d2) (h3 : dstOf ops 3 = some d3) (h4 : dstOf ops 4 = some d4) (h5 : dstOf ops 5 = some d5) (h6 : dstOf ops 6 = some d6) :
    fillP ops L v a 7 = ((((((a.put (some d0) (v 0)).put (some d1) (v 1)).put (some d2) (v 2)).put (some d3) (v 3)).put (some d4) (v 4)).put (some d5) (v 5)).put (some d6) (v 6) := by
  rw [← h0, ← h1, ← h2, ← h3, ← h4, ← h5, ← h6, fill_congr (L' := fun _ => true) 7 hall]
  rfl
def RHalfP (J : Jm) (w : World) (n : Nd) (e : Ending) (w' : World) : Prop := ∃ va vb, e = .returned (.tuple #[va, .string (strB (hK n)), vb, .bool (decide (hOk n))]) ∧ Ext J w J w' ∧ NdV J va (hA n) ∧ NdV J vb (hB n)
theorem bodyPost_rhalf {R : Ending → World → Prop} {F : Act} {w : World} {b2 b4 : Nat} {l l' : Bool} {vi vk vi' vk' s e : Value} (hd : F.defers = []) (h : NBox w b2 l vi vk) (h' : NBox w b4 l' vi' vk')
    (h2 : F.tmps.getD 2 undef = .pointer (some ⟨b2, 0, none⟩)) (h3 : F.tmps.getD 3 undef = s) (h4 : F.tmps.getD 4 undef = .pointer (some ⟨b4, 0, none⟩)) (h5 : F.tmps.getD 5 undef = e) (hR : R (.returned (.tuple #[.agg #[.bool l, vi, vk], s, .agg #[.bool l', vi', vk'], e])) w) : bodyPost Try.prog Try.f29 R .ret F w := by
  have n0 := blk_cell_J h 0 rfl
  have n1 := blk_cell_J h 1 rfl
  have n2 := blk_cell_J h 2 rfl
  have m0 := blk_cell_J h' 0 rfl
  have m1 := blk_cell_J h' 1 rfl
  have m2 := blk_cell_J h' 2 rfl
  rw [Array.getD_eq_getD_getElem?] at h2 h3 h4 h5
  obtain ⟨tmps, defers⟩ := F
  simp only at hd h2 h3 h4 h5
  subst hd
  refine ⟨rfl, _, ?_, hR⟩
  simp [results, Try.results29, go_sem, n0, n1, n2, m0, m1, m2, h2, h3, h4, h5]
set_option maxRecDepth 100000 in
set_option maxHeartbeats 8000000 in
theorem refHalf_calls {J : Jm} {w : World} (hI : Inv J w) {v : Value} {n : Nd} (hn : NdV J v n) (hs : NdS n) (hr : right n = true) :
    Calls Try.prog 29 #[v] w (RHalfP J w n) := by
  obtain ⟨Ai, ci, Ak, ck, rfl, hni, hmi, hnk, hmk⟩ := hn.form
  unfold maxLen at hmi hmk
  have HV := Lib.hid hn
  clear hn
  have HS := Lib.hid hs
  have hl := hs.1
  have HR := Lib.hid hr
  clear hs
  go_enter Try.func29, Try.ntmps29
  go_upto_region 1 with fail
  have HEa := Lib.hid (((Ext.refl hI).alloc (.cells #[.bool n.leaf, .slice Ai n.items.length ci, .slice Ak n.kids.length ck] 25)))
  have HNa := Lib.hid (show NBox (w.alloc (.cells #[.bool n.leaf, .slice Ai n.items.length ci, .slice Ak n.kids.length ck] 25)) w.heap.size n.leaf (.slice Ai n.items.length ci) (.slice Ak n.kids.length ck) from heap_alloc_new w _)
  have hs1 : (w.alloc (.cells #[.bool n.leaf, .slice Ai n.items.length ci, .slice Ak n.kids.length ck] 25)).heap.size = w.heap.size + 1 := by simp
  have hX := two_boxes HEa.out.inv #[.bool false, .slice none 0 0, .slice none 0 0] #[.bool false, .slice none 0 0, .slice none 0 0] 25
  rw [hs1] at hX
  have HN := Lib.hid (HNa.out.ext hX.1)
  have HE := Lib.hid (HEa.out.trans hX.1)
  have F2 := Lib.hid (show NBox _ (w.heap.size + 1) false (.slice none 0 0) (.slice none 0 0) from hX.2.1)
  have F4 := Lib.hid (show NBox _ (w.heap.size + 1 + 1) false (.slice none 0 0) (.slice none 0 0) from hX.2.2)
  have HJ := Lib.hid (show (J w.heap.size = [] ∧ J (w.heap.size + 1) = [] ∧ J (w.heap.size + 1 + 1) = []) from ⟨hI.nil (by omega), hI.nil (by omega), hI.nil (by omega)⟩)
  have HNE := Lib.hid (show w.heap.size ≤ w.heap.size ∧ w.heap.size < w.heap.size + 1 ∧ w.heap.size + 1 < w.heap.size + 1 + 1 from by omega)
  clear HEa HNa hs1 hX
  generalize World.alloc (World.alloc (World.alloc w _) _) _ = W at *
  generalize hb4 : w.heap.size + 1 + 1 = b4 at *
  generalize hb2 : w.heap.size + 1 = b2 at *
  obtain ⟨nb, hnb⟩ : ∃ nb, nb = w.heap.size := ⟨_, rfl⟩
  have HNE := Lib.hid (show w.heap.size ≤ nb ∧ nb < b2 ∧ b2 < b4 from by rw [hnb]; exact HNE.out)
  have HJ := Lib.hid (show J nb = [] ∧ J b2 = [] ∧ J b4 = [] from by rw [hnb]; exact HJ.out)
  have HN := Lib.hid (show NBox W nb _ _ _ from by rw [hnb]; exact HN.out)
  rw [← hnb]
  clear hb4 hb2 hnb
  have n0 := blk_cell_J HN.out 0 rfl
  have n1 := blk_cell_J HN.out 1 rfl
  have n2 := blk_cell_J HN.out 2 rfl
  have HR2 := Lib.hid hr
  clear hr
  go_upto_if 21 with fail
  go_cut [6] (fun lv wx => lv = .int .i64 ((lastN n : Int) - 1) ∧ wx = W)
  case first => as_aux_lemma =>
    have hlm : lastN n ≤ n.items.length := (by unfold lastN; split <;> omega)
    have hcase : ∀ h : (!n.leaf) = true, (n.items.length : Int) - 2 = lastN n - 1 := fun h => by
      have hlf : n.leaf = false := by simpa using h
      have hr := HR2.out
      unfold right okKids at hr
      rw [hlf] at hr
      simp only [Bool.false_eq_true, if_false, Bool.and_eq_true, decide_eq_true_eq] at hr
      have := hr.2.1.1
      unfold lastN
      rw [if_neg (by rw [hlf]; decide)]
      omega
    have hcas2 : ∀ h : (!n.leaf) = false, (n.items.length : Int) - 1 = (lastN n : Int) - 1 := fun h => by
      have hlf : n.leaf = true := by simpa using h
      unfold lastN
      rw [if_pos hlf]
    go_wp2_with fail
    · go_meet
      rename_i hh
      exact ⟨rfl, rfl⟩
    · go_meet
      rename_i hh
      exact ⟨by rw [hcas2 hh], rfl⟩
  case rest =>
    obtain ⟨rfl, hwc⟩ := hcut
    cases hwc.symm
    clear HR2
    obtain ⟨ln, hln⟩ : ∃ ln, ln = lastN n := ⟨_, rfl⟩
    rw [← hln]
    have HLN := Lib.hid hln.symm
    have hi1 : ln ≤ 1048576 := by rw [hln]; unfold lastN; split <;> omega
    clear hln
    go_wp2_with fail
    go_loopw [7, 8, 9] (fun av lv iv wr => ∃ k : Nat, k + 1 ≤ max 1 ln ∧ av = .int .i64 (best n k) ∧ lv = .int .i64 ((if best n k = 0 then 0 else szN n (best n k) : Nat) : Int) ∧ iv = .int .i64 ((k + 1 : Nat) : Int) ∧ Hid (Below W.heap.size W wr)) (fun _ _ iv _ => 1048577 - (intOf iv).toNat)
    case atStart => exact ⟨0, by omega, rfl, rfl, rfl, Below.refl _ _⟩
    case round =>
      obtain ⟨k, hk, rfl, rfl, rfl, HW⟩ := hrel
      obtain ⟨i, hik⟩ : ∃ i, i = k + 1 := ⟨_, rfl⟩
      rw [← hik] at hk
      obtain ⟨b, hb⟩ : ∃ b, b = best n k := ⟨_, rfl⟩
      have hbk : b ≤ k := by rw [hb]; exact best_le n k
      have HIR := Lib.hid (HE.out.inv.below HW.out)
      have i0 : (1 : Int) ≤ i := by omega
      have il : (i : Int) ≤ 1048576 := by omega
      have iw : IntKind.i64.wrap ((i : Int) + 1) = ((i + 1 : Nat) : Int) := by rw [IntKind.wrap_i64]; omega
      have HBP := Lib.hid (show 0 < k → 0 < b from fun h => by rw [hb]; exact best_pos n k h)
      have HBE := Lib.hid (show best n i = if b = 0 ∨ szN n i < szN n b then i else b from by rw [hik, hb]; rfl)
      have HIK := Lib.hid hik
      rw [← hik, ← hb]
      obtain ⟨lz, hlz⟩ : ∃ lz : Nat, lz = if b = 0 then 0 else szN n b := ⟨_, rfl⟩
      rw [← hlz]
      have HLZ := Lib.hid hlz
      clear hlz
      by_cases hlt : i < ln
      · have h1 : (i : Int) ≤ (ln : Int) - 1 := by omega
        have hbi : b < i := by omega
        clear hik hb
        have hil : i < lastN n := by rw [HLN.out]; exact hlt
        have hra := right_cut HR.out (by omega : 1 ≤ i) hil
        have hla := cut_len (i := i) hl
        have HCO := Lib.hid (cut_ok HR.out hil)
        have HRR := Lib.hid (And.intro (And.intro hra.1 hla.1) (And.intro hra.2 hla.2))
        have HSZ := Lib.hid (show szN n i = max (form (cutA n i)).length (form (cutB n i)).length from rfl)
        have hNr := HN.out.ext (Ext.of_below HE.out.inv HW.out)
        have n0 := blk_cell_J hNr 0 rfl
        have n1 := blk_cell_J hNr 1 rfl
        have n2 := blk_cell_J hNr 2 rfl
        clear hra hla hNr
        go_wp2_with fail
        refine (refCut_calls HIR.out HV.out i HCO.out.1 hl HCO.out.2).mono ?_
        rintro e w5 ⟨va, vb, rfl, hE1, hA, hB⟩
        have HA := Lib.hid hA
        have HB := Lib.hid hB
        obtain ⟨Aa, ca, Ka, da, rfl, -⟩ := hA.form
        obtain ⟨Ab, cb, Kb, db, rfl, -⟩ := hB.form
        clear hA hB n0 n1 n2
        go_upto_region 9 with fail
        have HR := HRR
        generalize hfa : (form (cutA n i)).length = fa at HSZ
        have HFA := Lib.hid hfa
        generalize hfb : (form (cutB n i)).length = fb at HSZ
        have HFB := Lib.hid hfb
        clear hfa hfb
        have HE1 := Lib.hid hE1
        have HVA := Lib.hid (And.intro HA.out HR.out.1)
        have HVB := Lib.hid (And.intro HB.out HR.out.2)
        have hX := two_boxes hE1.inv #[.bool (cutA n i).leaf, .slice Aa (cutA n i).items.length ca, .slice Ka (cutA n i).kids.length da] #[.bool (cutB n i).leaf, .slice Ab (cutB n i).items.length cb, .slice Kb (cutB n i).kids.length db] 25
        have HBX := Lib.hid (show NBox _ w5.heap.size (cutA n i).leaf (.slice Aa (cutA n i).items.length ca) (.slice Ka (cutA n i).kids.length da) ∧ NBox _ (w5.heap.size + 1) (cutB n i).leaf (.slice Ab (cutB n i).items.length cb) (.slice Kb (cutB n i).kids.length db) from hX.2)
        have HX := Lib.hid (And.intro hX.1 trivial)
        clear hE1 hX
        generalize World.alloc (World.alloc w5 _) _ = W5 at *
        generalize hbb : w5.heap.size + 1 = bb at *
        generalize hab : w5.heap.size = ab at *
        refine wp_region_pool2 7 (RC J W5 (szP fa fb (.agg #[.bool (cutA n i).leaf, .slice Aa (cutA n i).items.length ca, .slice Ka (cutA n i).kids.length da]) (.agg #[.bool (cutB n i).leaf, .slice Ab (cutB n i).items.length cb, .slice Kb (cutB n i).kids.length db]))) (by kernel_rfl) (by kernel_rfl) (fun _ => undef) (RC.start HX.out.1.inv) ?_ ?_
        · intro q o hk ho L v w' F hc hL hw hout hdp
          have qa : F.tmps.getD 10 undef = .pointer (some ⟨ab, 0, none⟩) := hout 10 (by kernel_rfl)
          have qb : F.tmps.getD 11 undef = .pointer (some ⟨bb, 0, none⟩) := hout 11 (by kernel_rfl)
          have hkk : q = 0 ∨ q = 1 ∨ q = 2 ∨ q = 3 ∨ q = 4 ∨ q = 5 ∨ q = 6 := by omega
          rcases hkk with rfl | rfl | rfl | rfl | rfl | rfl | rfl
          · cases ho
            obtain ⟨J9, hE9⟩ := hc.ext
            have n0 := blk_cell_J ((HBX.out.1).ext hE9) 0 rfl
            have n1 := blk_cell_J ((HBX.out.1).ext hE9) 1 rfl
            have n2 := blk_cell_J ((HBX.out.1).ext hE9) 2 rfl
            refine wp_value (x := _) (w' := w') ?_ ⟨_, rfl, hc.put rfl hc.ext⟩
            clear hw hout hdp hc hE9
            unfold execOp
            simp only [Act.eval, qa]
            go_simp
          · cases ho
            have e37 := (hdp 0 37 (by kernel_rfl) (hw 0 (by kernel_rfl))).trans (hc.rd 0 (hw 0 (by kernel_rfl)))
            obtain ⟨J9, hE9⟩ := hc.ext
            have hcl := refFormC hE9.inv (HVA.out.1.mono (hE9.le HX.out.1.inv)) HVA.out.2.1 HVA.out.2.2
            have HCC := Lib.hid hc
            clear hw hout hdp hc
            unfold Oper.wp execOp
            go_simp
            refine hcl.mono ?_
            rintro e5 w5 ⟨v5, J5, rfl, hE5, hO5⟩
            obtain ⟨A5, c5, rfl, -, -⟩ := hO5.sl.form
            exact ⟨_, rfl, HCC.out.put ⟨A5, c5, by rw [HFA.out]⟩ ⟨J5, hE9.trans hE5⟩⟩
          · cases ho
            obtain ⟨A5, c5, h5⟩ := hc.rd 1 (hw 1 (by kernel_rfl))
            have e38 := (hdp 1 38 (by kernel_rfl) (hw 1 (by kernel_rfl))).trans h5
            refine wp_value (x := _) (w' := w') ?_ ⟨_, rfl, hc.put rfl hc.ext⟩
            clear hw hout hdp hc
            unfold execOp
            go_simp
          · cases ho
            obtain ⟨J9, hE9⟩ := hc.ext
            have n0 := blk_cell_J ((HBX.out.2).ext hE9) 0 rfl
            have n1 := blk_cell_J ((HBX.out.2).ext hE9) 1 rfl
            have n2 := blk_cell_J ((HBX.out.2).ext hE9) 2 rfl
            refine wp_value (x := _) (w' := w') ?_ ⟨_, rfl, hc.put rfl hc.ext⟩
            clear hw hout hdp hc hE9
            unfold execOp
            simp only [Act.eval, qb]
            go_simp
          · cases ho
            have e40 := (hdp 3 40 (by kernel_rfl) (hw 3 (by kernel_rfl))).trans (hc.rd 3 (hw 3 (by kernel_rfl)))
            obtain ⟨J9, hE9⟩ := hc.ext
            have hcl := refFormC hE9.inv (HVB.out.1.mono (hE9.le HX.out.1.inv)) HVB.out.2.1 HVB.out.2.2
            have HCC := Lib.hid hc
            clear hw hout hdp hc
            unfold Oper.wp execOp
            go_simp
            refine hcl.mono ?_
            rintro e5 w5 ⟨v5, J5, rfl, hE5, hO5⟩
            obtain ⟨A5, c5, rfl, -, -⟩ := hO5.sl.form
            exact ⟨_, rfl, HCC.out.put ⟨A5, c5, by rw [HFB.out]⟩ ⟨J5, hE9.trans hE5⟩⟩
          · cases ho
            obtain ⟨A5, c5, h5⟩ := hc.rd 4 (hw 4 (by kernel_rfl))
            have e41 := (hdp 4 41 (by kernel_rfl) (hw 4 (by kernel_rfl))).trans h5
            refine wp_value (x := _) (w' := w') ?_ ⟨_, rfl, hc.put rfl hc.ext⟩
            clear hw hout hdp hc
            unfold execOp
            go_simp
          · cases ho
            have e39 := (hdp 2 39 (by kernel_rfl) (hw 2 (by kernel_rfl))).trans (hc.rd 2 (hw 2 (by kernel_rfl)))
            have e42 := (hdp 5 42 (by kernel_rfl) (hw 5 (by kernel_rfl))).trans (hc.rd 5 (hw 5 (by kernel_rfl)))
            refine wp_value (x := _) (w' := w') ?_ ⟨_, rfl, hc.put rfl hc.ext⟩
            clear hw hout hdp hc
            unfold execOp
            go_simp
        · intro L v w' F hall hc hF hFd hout hdp
          obtain ⟨J9, hE9⟩ := hc.ext
          have h6 : v 6 = .int .i64 (szN n i) := by rw [show v 6 = _ from hc.rd 6 (hall 6 (by omega)), max_if, ← HSZ.out]
          have hF := hF.trans (fill_put7 37 38 39 40 41 42 43 hall rfl rfl rfl rfl rfl rfl rfl)
          clear hFd hout hdp hc hall
          simp only [Act.put, List.setIfInBounds_toArray, List.set_cons_succ, List.set_cons_zero, h6] at hF
          subst hF
          have HW5 := Lib.hid (HW.out.trans ((HE1.out.trans (HX.out.1.trans hE9)).below.mono HW.out.size))
          clear hE9 h6
          generalize v 0 = v0
          generalize v 1 = v1
          generalize v 2 = v2
          generalize v 3 = v3
          generalize v 4 = v4
          generalize v 5 = v5
          simp only [List.drop_succ_cons, List.drop_zero]
          refine wpList_value (x := .int .i64 (szN n i)) (w' := w') rfl (by unfold execOp; go_simp) ?_
          simp only [Act.put, List.setIfInBounds_toArray, List.set_cons_succ, List.set_cons_zero]
          refine wpList_nil ?_
          by_cases hb0 : b = 0
          · have HB2 := Lib.hid (show best n i = i from by rw [HBE.out, if_pos (.inl hb0)])
            subst hb0
            go_wp2_with fail
            go_roundw
            case rel => exact ⟨i, by omega, by rw [HB2.out], by rw [HB2.out, if_neg (by omega)], by go_num, HW5⟩
            case measure => simp [intOf] <;> omega
          · have hb1 : ¬ (b : Int) = 0 := by omega
            have hb2 : ((b : Int) == 0) = false := by simp [hb0]
            have hlz := HLZ.out
            rw [if_neg hb0] at hlz
            subst hlz
            by_cases hsz : szN n i < szN n b
            · have HB2 := Lib.hid (show best n i = i from by rw [HBE.out, if_pos (.inr hsz)])
              have hsz1 : (szN n i : Int) < szN n b := by omega
              go_wp2_with fail
              go_roundw
              case rel => exact ⟨i, by omega, by rw [HB2.out], by rw [HB2.out, if_neg (by omega)], by go_num, HW5⟩
              case measure => simp [intOf] <;> omega
            · have HB2 := Lib.hid (show best n i = b from by rw [HBE.out, if_neg (fun h => h.elim hb0 hsz)])
              have hsz1 : ¬ (szN n i : Int) < szN n b := by omega
              go_wp2_with fail
              go_roundw
              case rel => exact ⟨i, by omega, by rw [HB2.out], by rw [HB2.out, if_neg hb0], by go_num, HW5⟩
              case measure => simp [intOf] <;> omega
      · have h1 : ¬ (i : Int) ≤ (ln : Int) - 1 := by omega
        have HAT := Lib.hid (show halfAt n = b from by unfold halfAt; rw [HLN.out, hb, show ln - 1 = k by omega])
        have hX := Ext.of_below HE.out.inv HW.out
        have HN := Lib.hid (HN.out.ext hX)
        have F2 := Lib.hid (F2.out.ext hX)
        have F4 := Lib.hid (F4.out.ext hX)
        have HE := Lib.hid (HE.out.trans hX)
        clear hX n0 n1 n2 hik hb
        have n0 := blk_cell_J HN.out 0 rfl
        have n1 := blk_cell_J HN.out 1 rfl
        have n2 := blk_cell_J HN.out 2 rfl
        by_cases hb0 : b = 0
        · have HZ := Lib.hid (show hA n = zN ∧ hB n = zN ∧ hK n = [] ∧ decide (hOk n) = false from by
            have h : ¬ hOk n := fun h => h.2 (HAT.out.trans hb0)
            unfold hA hB hK
            rw [if_neg h, if_neg h, if_neg h]
            exact ⟨rfl, rfl, rfl, decide_eq_false h⟩)
          subst hb0
          have f0 := blk_cell_J F2.out 0 rfl
          have f1 := blk_cell_J F2.out 1 rfl
          have f2 := blk_cell_J F2.out 2 rfl
          have g0 := blk_cell_J F4.out 0 rfl
          have g1 := blk_cell_J F4.out 1 rfl
          have g2 := blk_cell_J F4.out 2 rfl
          have f0f := frozen_of_row _ b2 0 _ _ F2.out
          have f1f := frozen_of_row _ b2 1 _ _ F2.out
          have f2f := frozen_of_row _ b2 2 _ _ F2.out
          have g0f := frozen_of_row _ b4 0 _ _ F4.out
          have g1f := frozen_of_row _ b4 1 _ _ F4.out
          have g2f := frozen_of_row _ b4 2 _ _ F4.out
          have d24 : b2 ≠ b4 := by have := HNE.out; omega
          have d42 : b4 ≠ b2 := by have := HNE.out; omega
          go_wp2_with fail
          have hFA := put3_nb (.bool false) (.slice none 0 0) (.slice none 0 0) (put3_at (l' := false) (vi' := .slice none 0 0) (vk' := .slice none 0 0) F2.out) d24
          have hFB := put3_at (l' := false) (vi' := .slice none 0 0) (vk' := .slice none 0 0) (put3_nb (.bool false) (.slice none 0 0) (.slice none 0 0) F4.out d42)
          refine bodyPost_rhalf (s := .string (strB [])) (e := .bool false) rfl hFA hFB rfl rfl rfl rfl ?_
          refine ⟨.agg #[.bool false, .slice none 0 0, .slice none 0 0], .agg #[.bool false, .slice none 0 0, .slice none 0 0], ?_, put3_e (put3_e HE.out (by have := HNE.out; omega) HJ.out.2.1 _ _ _) (by have := HNE.out; omega) HJ.out.2.2 _ _ _, ?_, ?_⟩
          · rw [HZ.out.2.2.1, HZ.out.2.2.2]
          · rw [HZ.out.1]; exact zN_v J
          · rw [HZ.out.2.1]; exact zN_v J
        · have hbl : b < lastN n := by have := HIK.out; rw [HLN.out]; omega
          have HOK := Lib.hid (show hOk n from ⟨HR.out, by rw [HAT.out]; exact hb0⟩)
          have HCO := Lib.hid (cut_ok (i := b) HR.out hbl)
          have hlen : b < n.items.length := by unfold lastN at hbl; split at hbl <;> omega
          obtain ⟨xb, xo, rfl, hjk⟩ := key_jcell HV.out hlen
          obtain ⟨key, hkey⟩ : ∃ key, key = n.items[b].key := ⟨_, rfl⟩
          rw [← hkey] at hjk
          have HJK := Lib.hid hjk
          have HRS := Lib.hid (show hA n = cutA n b ∧ hB n = cutB n b ∧ hK n = key ∧ decide (hOk n) = true from by
            unfold hA hB hK
            rw [if_pos HOK.out, if_pos HOK.out, if_pos HOK.out, HAT.out, hkey, List.getElem?_eq_getElem hlen]
            exact ⟨rfl, rfl, rfl, decide_eq_true HOK.out⟩)
          have hb1 : ¬ (b : Int) = 0 := by omega
          have hb2 : ((b : Int) == 0) = false := by simp [hb0]
          have hb3 : (b : Int) ≤ 1048576 := by omega
          have hb4 : b ≤ 1048576 := by omega
          clear hjk hkey hbl
          go_wp2_with fail
          refine (refCut_calls HE.out.inv HV.out b HCO.out.1 hl HCO.out.2).mono ?_
          rintro e w8 ⟨va, vb, rfl, hE1, hA1, hB1⟩
          have HA := Lib.hid hA1
          have HB := Lib.hid hB1
          obtain ⟨Aa, ca, Ka, da, rfl, -⟩ := hA1.form
          obtain ⟨Ab, cb, Kb, db, rfl, -⟩ := hB1.form
          have HE1 := Lib.hid hE1
          clear hA1 hB1 hE1 n0 n1 n2
          go_upto_region 15 with fail
          generalize (cutA n b).leaf = LA at *
          generalize (cutA n b).items.length = LAI at *
          generalize (cutA n b).kids.length = LAK at *
          generalize (cutB n b).leaf = LB at *
          generalize (cutB n b).items.length = LBI at *
          generalize (cutB n b).kids.length = LBK at *
          have hX := two_boxes HE1.out.inv #[.bool LA, .slice Aa LAI ca, .slice Ka LAK da] #[.bool LB, .slice Ab LBI cb, .slice Kb LBK db] 25
          have HBX9 := Lib.hid (show NBox _ w8.heap.size LA (.slice Aa LAI ca) (.slice Ka LAK da) ∧ NBox _ (w8.heap.size + 1) LB (.slice Ab LBI cb) (.slice Kb LBK db) from hX.2)
          have HX := Lib.hid (HE1.out.trans hX.1)
          clear hX
          generalize World.alloc (World.alloc w8 _) _ = W9 at *
          have hlt2 := (Array.getElem?_eq_some_iff.1 F2.out).1
          have hle8 := HE1.out.below.size
          have hltn := (Array.getElem?_eq_some_iff.1 HN.out).1
          have F29 := Lib.hid (F2.out.ext HX.out)
          have F49 := Lib.hid (F4.out.ext HX.out)
          have HN9 := Lib.hid (HN.out.ext HX.out)
          have HE9 := Lib.hid (HE.out.trans HX.out)
          have HKC0 := Lib.hid (HX.out.inv.cell HJK.out)
          have HKC := Lib.hid (show W9.drew.cell? ⟨xb, xo + b * 4, none⟩ = some (.string (strB key)) from HKC0.out)
          have HNE9 := Lib.hid (show nb ≠ b2 ∧ w8.heap.size ≠ b2 ∧ w8.heap.size + 1 ≠ b2 ∧ b2 ≠ b4 ∧ nb ≠ b4 ∧ xb ≠ b2 from by
            have := HNE.out
            refine ⟨by omega, by omega, by omega, by omega, by omega, fun h => ?_⟩
            have hj := HJK.out
            rw [h, HJ.out.2.1] at hj
            simp at hj)
          have HLJ := Lib.hid (show w.heap.size ≤ b2 ∧ w.heap.size ≤ b4 ∧ J b2 = [] ∧ J b4 = [] from by
            have := HNE.out
            exact ⟨by omega, by omega, HJ.out.2.1, HJ.out.2.2⟩)
          generalize hbb : w8.heap.size + 1 = bb at *
          generalize hab : w8.heap.size = ab at *
          clear hlt2 hltn hle8 hbb hab HX
          refine wp_region_pool2 10 (RS (cstH nb xb xo n.items.length ci b (.agg #[.bool LA, .slice Aa LAI ca, .slice Ka LAK da]) (.agg #[.bool LB, .slice Ab LBI cb, .slice Kb LBK db]) key) 8 W9.drew (put3 W9.drew b2 (.bool LA) (.slice Aa LAI ca) (.slice Ka LAK da))) (by kernel_rfl) (by kernel_rfl) (fun _ => undef) RS.start ?_ ?_
          · intro q o hk ho L v w' F hc hL hw hout hdp
            have q1 : F.tmps.getD 1 undef = .pointer (some ⟨nb, 0, none⟩) := hout 1 (by kernel_rfl)
            have q2 : F.tmps.getD 2 undef = .pointer (some ⟨b2, 0, none⟩) := hout 2 (by kernel_rfl)
            have q7 : F.tmps.getD 7 undef = .int .i64 b := hout 7 (by kernel_rfl)
            have q13 : F.tmps.getD 13 undef = .pointer (some ⟨ab, 0, none⟩) := hout 13 (by kernel_rfl)
            have q14 : F.tmps.getD 14 undef = .pointer (some ⟨bb, 0, none⟩) := hout 14 (by kernel_rfl)
            have hn : NBox w' nb n.leaf (.slice (some ⟨xb, xo, none⟩) n.items.length ci) (.slice Ak n.kids.length ck) := hc.all (P := fun X => NBox X nb _ _ _) HN9.out (put3_nb _ _ _ HN9.out HNE9.out.1)
            have hA1 : NBox w' ab LA (.slice Aa LAI ca) (.slice Ka LAK da) := hc.all (P := fun X => NBox X ab _ _ _) HBX9.out.1 (put3_nb _ _ _ HBX9.out.1 HNE9.out.2.1)
            have hB1 : NBox w' bb LB (.slice Ab LBI cb) (.slice Kb LBK db) := hc.all (P := fun X => NBox X bb _ _ _) HBX9.out.2 (put3_nb _ _ _ HBX9.out.2 HNE9.out.2.2.1)
            have hkc : w'.cell? ⟨xb, xo + b * 4, none⟩ = some (.string (strB key)) := hc.all (P := fun X => X.cell? ⟨xb, xo + b * 4, none⟩ = _) HKC.out (put3_keepD HKC0.out HNE9.out.2.2.2.2.2)
            have hkk : q = 0 ∨ q = 1 ∨ q = 2 ∨ q = 3 ∨ q = 4 ∨ q = 5 ∨ q = 6 ∨ q = 7 ∨ q = 8 ∨ q = 9 := by omega
            rcases hkk with rfl | rfl | rfl | rfl | rfl | rfl | rfl | rfl | rfl | rfl
            · cases ho
              have n0 := blk_cell_J hA1 0 rfl
              have n1 := blk_cell_J hA1 1 rfl
              have n2 := blk_cell_J hA1 2 rfl
              refine wp_value (x := .agg #[.bool LA, .slice Aa LAI ca, .slice Ka LAK da]) (w' := w') ?_ ⟨_, rfl, hc.read rfl (by decide)⟩
              clear hw hout hdp hc hn hA1 hB1 hkc
              unfold execOp
              simp only [Act.eval, q13]
              go_simp
            · cases ho
              refine wp_value (x := .pointer (some ⟨nb, 1, none⟩)) (w' := w') ?_ ⟨_, rfl, hc.read rfl (by decide)⟩
              clear hw hout hdp hc hn hA1 hB1 hkc
              unfold execOp
              simp only [Act.eval, q1]
              go_simp
            · cases ho
              have e64 := (hdp 1 64 (by kernel_rfl) (hw 1 (by kernel_rfl))).trans (hc.rd 1 _ rfl (hw 1 (by kernel_rfl)))
              have n1 := blk_cell_J hn 1 rfl
              refine wp_value (x := .slice (some ⟨xb, xo, none⟩) n.items.length ci) (w' := w') ?_ ⟨_, rfl, hc.read rfl (by decide)⟩
              clear hw hout hdp hc hn hA1 hB1 hkc
              unfold execOp
              simp only [Act.eval, e64]
              go_simp
            · cases ho
              refine wp_value (x := .int .i64 b) (w' := w') ?_ ⟨_, rfl, hc.read rfl (by decide)⟩
              clear hw hout hdp hc hn hA1 hB1 hkc
              unfold execOp
              simp only [Act.eval, q7]
              go_simp
            · cases ho
              have e65 := (hdp 2 65 (by kernel_rfl) (hw 2 (by kernel_rfl))).trans (hc.rd 2 _ rfl (hw 2 (by kernel_rfl)))
              have e66 := (hdp 3 66 (by kernel_rfl) (hw 3 (by kernel_rfl))).trans (hc.rd 3 _ rfl (hw 3 (by kernel_rfl)))
              refine wp_value (x := .pointer (some ⟨xb, xo + b * 4, none⟩)) (w' := w') ?_ ⟨_, rfl, hc.read rfl (by decide)⟩
              clear hw hout hdp hc hn hA1 hB1 hkc
              unfold execOp
              simp only [Act.eval, e65]
              go_simp
            · cases ho
              have e67 := (hdp 4 67 (by kernel_rfl) (hw 4 (by kernel_rfl))).trans (hc.rd 4 _ rfl (hw 4 (by kernel_rfl)))
              refine wp_value (x := .pointer (some ⟨xb, xo + b * 4, none⟩)) (w' := w') ?_ ⟨_, rfl, hc.read rfl (by decide)⟩
              clear hw hout hdp hc hn hA1 hB1 hkc
              unfold execOp
              simp only [Act.eval, e67]
              go_simp
            · cases ho
              have e68 := (hdp 5 68 (by kernel_rfl) (hw 5 (by kernel_rfl))).trans (hc.rd 5 _ rfl (hw 5 (by kernel_rfl)))
              have k0 := hkc
              refine wp_value (x := .string (strB key)) (w' := w') ?_ ⟨_, rfl, hc.read rfl (by decide)⟩
              clear hw hout hdp hc hn hA1 hB1 hkc
              unfold execOp
              simp only [Act.eval, e68]
              go_simp
            · cases ho
              have n0 := blk_cell_J hB1 0 rfl
              have n1 := blk_cell_J hB1 1 rfl
              have n2 := blk_cell_J hB1 2 rfl
              refine wp_value (x := .agg #[.bool LB, .slice Ab LBI cb, .slice Kb LBK db]) (w' := w') ?_ ⟨_, rfl, hc.read rfl (by decide)⟩
              clear hw hout hdp hc hn hA1 hB1 hkc
              unfold execOp
              simp only [Act.eval, q14]
              go_simp
            · cases ho
              have hb := hc.before hL
              have e63 := (hdp 0 63 (by kernel_rfl) (hw 0 (by kernel_rfl))).trans (hc.rd 0 _ rfl (hw 0 (by kernel_rfl)))
              refine wp_skip (w' := put3 w' b2 (.bool LA) (.slice Aa LAI ca) (.slice Ka LAK da)) (run_store3 rfl q2 e63 (by rw [hb]; exact F29.out)) ⟨undef, rfl, ?_⟩
              rw [hb]
              exact hc.store rfl undef
            · cases ho
              have e69 := (hdp 6 69 (by kernel_rfl) (hw 6 (by kernel_rfl))).trans (hc.rd 6 _ rfl (hw 6 (by kernel_rfl)))
              refine wp_value (x := .string (strB key)) (w' := w') ?_ ⟨_, rfl, hc.read rfl (by decide)⟩
              clear hw hout hdp hc hn hA1 hB1 hkc
              unfold execOp
              simp only [Act.eval, e69]
              go_simp
          · intro L v w' F hall hc hF hFd hout hdp
            have q2 : F.tmps.getD 2 undef = .pointer (some ⟨b2, 0, none⟩) := hout 2 (by kernel_rfl)
            have q4 : F.tmps.getD 4 undef = .pointer (some ⟨b4, 0, none⟩) := hout 4 (by kernel_rfl)
            have e70 := (hdp 7 70 (by kernel_rfl)).trans (hc.rd 7 _ rfl (hall 7 (by omega)))
            have Q3 := (hdp 9 3 (by kernel_rfl)).trans (hc.rd 9 _ rfl (hall 9 (by omega)))
            have hb := hc.behind (hall 8 (by omega))
            have pd : F.defers = [] := hFd
            have psz : F.tmps.size = 71 := by rw [hF, fill_size]; rfl
            have G4 : NBox w' b4 false (.slice none 0 0) (.slice none 0 0) := by rw [hb]; exact put3_nb _ _ _ F49.out HNE9.out.2.2.2.1.symm
            have hFA : NBox (put3 w' b4 (.bool LB) (.slice Ab LBI cb) (.slice Kb LBK db)) b2 LA (.slice Aa LAI ca) (.slice Ka LAK da) := by rw [hb]; exact put3_nb _ _ _ (put3_at F29.out) HNE9.out.2.2.2.1
            have hFB : NBox (put3 w' b4 (.bool LB) (.slice Ab LBI cb) (.slice Kb LBK db)) b4 LB (.slice Ab LBI cb) (.slice Kb LBK db) := put3_at G4
            have hFE : Ext J w J (put3 w' b4 (.bool LB) (.slice Ab LBI cb) (.slice Kb LBK db)) := by rw [hb]; exact put3_e (put3_e HE9.out.drew HLJ.out.1 HLJ.out.2.2.1 _ _ _) HLJ.out.2.1 HLJ.out.2.2.2 _ _ _
            clear hF hFd hout hdp hc hall
            simp only [List.drop_succ_cons, List.drop_zero]
            have q3 : F.tmps.getD 3 undef = .string (strB key) := Q3
            refine wpList_skip rfl (run_store3 rfl q4 e70 G4) ?_
            change wpList _ _ _ _ F _
            refine wpList_value (x := .bool true) (w' := put3 w' b4 (.bool LB) (.slice Ab LBI cb) (.slice Kb LBK db)) rfl (by clear hFA hFB hFE G4; unfold execOp; go_simp) ?_
            have q2 : (F.put (some 5) (.bool true)).tmps.getD 2 undef = _ := (putD_ne (by decide)).trans q2
            have q4 : (F.put (some 5) (.bool true)).tmps.getD 4 undef = _ := (putD_ne (by decide)).trans q4
            have q3 : (F.put (some 5) (.bool true)).tmps.getD 3 undef = _ := (putD_ne (by decide)).trans q3
            have q5 : (F.put (some 5) (.bool true)).tmps.getD 5 undef = _ := putD_same (by rw [psz]; decide)
            refine wpList_nil ?_
            change Exit.then _ _ .normal (F.put (some 5) (.bool true)) _
            go_step
            go_step
            go_step
            exact bodyPost_rhalf pd hFA hFB q2 q3 q4 q5 ⟨_, _, by rw [HRS.out.2.2.1, HRS.out.2.2.2], hFE, by rw [HRS.out.1]; exact HA.out, by rw [HRS.out.2.1]; exact HB.out⟩
end Go.Proofs.Ytnnkgjaahmflmaa
