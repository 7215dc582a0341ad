/- The walk of Half. -/
import Derived.Test.YtnnkgjaahmflmaaCellHalf1
import Derived.Test.YtnnkgjaahmflmaaCellGets
namespace Go.Proofs.Ytnnkgjaahmflmaa
open Go.RowKit
set_option linter.unusedVariables false
def hOk (n : Nd) : Prop := right n = true ∧ halfAt n ≠ 0
instance (n : Nd) : Decidable (hOk n) := by unfold hOk; infer_instance
def hA (n : Nd) : Nd := if hOk n then cutA n (halfAt n) else zN
def hB (n : Nd) : Nd := if hOk n then cutB n (halfAt n) else zN
def hK (n : Nd) : List UInt8 := if hOk n then (n.items[halfAt n]?.map (·.key)).getD [] else []
def hE (n : Nd) : Int := if right n = true then (if halfAt n = 0 then 4 else 0) else 2
def cstH (nb xb xo len ci at0 : Nat) (A B : Value) (key : List UInt8) : Nat → Option Value
  | 0 => some (A)
  | 1 => some (.pointer (some ⟨nb, 1, none⟩))
  | 2 => some (.slice (some ⟨xb, xo, none⟩) len ci)
  | 3 => some (.int .i64 at0)
  | 4 => some (.pointer (some ⟨xb, xo + at0 * 4, none⟩))
  | 5 => some (.pointer (some ⟨xb, xo + at0 * 4, none⟩))
  | 6 => some (.string (strB key))
  | 7 => some (B)
  | 9 => some (.string (strB key))
  | _ => none
def HalfP (J : Jm) (w : World) (n : Nd) (e : Ending) (w' : World) : Prop := ∃ va vb J', e = .returned (.tuple #[va, .string (strB (hK n)), vb, .int .i64 (hE n)]) ∧ Ext J w J' w' ∧ NdO J' w' w.heap.size va (hA n) ∧ NdO J' w' w.heap.size vb (hB n)
theorem bodyPost_half {R : Ending → World → Prop} {F : Act} {w : World} {b2 b4 : Nat} {l l' : Bool} {vi vk vi' vk' s e : Value} (hd : F.defers = []) (h : NBox w b2 l vi vk) (h' : NBox w b4 l' vi' vk')
    (h2 : F.tmps.getD 2 undef = .pointer (some ⟨b2, 0, none⟩)) (h3 : F.tmps.getD 3 undef = s) (h4 : F.tmps.getD 4 undef = .pointer (some ⟨b4, 0, none⟩)) (h5 : F.tmps.getD 5 undef = e) (hR : R (.returned (.tuple #[.agg #[.bool l, vi, vk], s, .agg #[.bool l', vi', vk'], e])) w) : bodyPost Try.prog Try.f28 R .ret F w := by
  have n0 := blk_cell_J h 0 rfl
  have n1 := blk_cell_J h 1 rfl
  have n2 := blk_cell_J h 2 rfl
  have m0 := blk_cell_J h' 0 rfl
  have m1 := blk_cell_J h' 1 rfl
  have m2 := blk_cell_J h' 2 rfl
  rw [Array.getD_eq_getD_getElem?] at h2 h3 h4 h5
  obtain ⟨tmps, defers⟩ := F
  simp only at hd h2 h3 h4 h5
  subst hd
  refine ⟨rfl, _, ?_, hR⟩
  simp [results, Try.results28, go_sem, n0, n1, n2, m0, m1, m2, h2, h3, h4, h5]
theorem key_jcell {J : Jm} {l : Bool} {A : Option Addr} {m c : Nat} {vk : Value} {n : Nd} (h : NdV J (.agg #[.bool l, .slice A m c, vk]) n) {k : Nat} (hk : k < n.items.length) : ∃ b o, A = some ⟨b, o, none⟩ ∧ (J b)[o + k * 4]? = some (.string (strB n.items[k].key)) := by
  obtain ⟨vi, vk', h0, h1, h2⟩ := h
  simp only [Value.agg.injEq, Array.mk.injEq, List.cons.injEq] at h0
  obtain ⟨-, rfl, -⟩ := h0
  exact Sl.jcell h1 (clC_at _ k hk).1
set_option maxRecDepth 100000 in
set_option maxHeartbeats 8000000 in
theorem Half_calls {J : Jm} {w : World} (hI : Inv J w) {v : Value} {n : Nd} (hn : NdV J v n) (hs : NdS n) :
    Calls Try.prog 28 #[v] w (HalfP J w n) := by
  obtain ⟨Ai, ci, Ak, ck, rfl, hni, hmi, hnk, hmk⟩ := hn.form
  unfold maxLen at hmi hmk
  have HV := Lib.hid hn
  clear hn
  have HS := Lib.hid hs
  have hl := hs.1
  clear hs
  go_enter Try.func28, Try.ntmps28
  go_upto_region 1 with fail
  have HEa := Lib.hid (((Ext.refl hI).alloc (.cells #[.bool n.leaf, .slice Ai n.items.length ci, .slice Ak n.kids.length ck] 25)))
  have HNa := Lib.hid (show NBox (w.alloc (.cells #[.bool n.leaf, .slice Ai n.items.length ci, .slice Ak n.kids.length ck] 25)) w.heap.size n.leaf (.slice Ai n.items.length ci) (.slice Ak n.kids.length ck) from heap_alloc_new w _)
  have hs1 : (w.alloc (.cells #[.bool n.leaf, .slice Ai n.items.length ci, .slice Ak n.kids.length ck] 25)).heap.size = w.heap.size + 1 := by simp
  have hX := two_boxes HEa.out.inv #[.bool false, .slice none 0 0, .slice none 0 0] #[.bool false, .slice none 0 0, .slice none 0 0] 25
  rw [hs1] at hX
  have HN := Lib.hid (HNa.out.ext hX.1)
  have HE := Lib.hid (HEa.out.trans hX.1)
  have F2 := Lib.hid (show NBox _ (w.heap.size + 1) false (.slice none 0 0) (.slice none 0 0) from hX.2.1)
  have F4 := Lib.hid (show NBox _ (w.heap.size + 1 + 1) false (.slice none 0 0) (.slice none 0 0) from hX.2.2)
  have HJ := Lib.hid (show (J w.heap.size = [] ∧ J (w.heap.size + 1) = [] ∧ J (w.heap.size + 1 + 1) = []) from ⟨hI.nil (by omega), hI.nil (by omega), hI.nil (by omega)⟩)
  have HNE := Lib.hid (show w.heap.size ≤ w.heap.size ∧ w.heap.size < w.heap.size + 1 ∧ w.heap.size + 1 < w.heap.size + 1 + 1 from by omega)
  clear HEa HNa hs1 hX
  generalize World.alloc (World.alloc (World.alloc w _) _) _ = W at *
  generalize hb4 : w.heap.size + 1 + 1 = b4 at *
  generalize hb2 : w.heap.size + 1 = b2 at *
  obtain ⟨nb, hnb⟩ : ∃ nb, nb = w.heap.size := ⟨_, rfl⟩
  have HNE := Lib.hid (show w.heap.size ≤ nb ∧ nb < b2 ∧ b2 < b4 from by rw [hnb]; exact HNE.out)
  have HJ := Lib.hid (show J nb = [] ∧ J b2 = [] ∧ J b4 = [] from by rw [hnb]; exact HJ.out)
  have HN := Lib.hid (show NBox W nb _ _ _ from by rw [hnb]; exact HN.out)
  rw [← hnb]
  clear hb4 hb2 hnb
  have n0 := blk_cell_J HN.out 0 rfl
  have n1 := blk_cell_J HN.out 1 rfl
  have n2 := blk_cell_J HN.out 2 rfl
  go_wp2_with fail
  refine (rightC HE.out.inv HV.out HS.out.2).mono ?_
  have HRT := Lib.hid (show right n = right n from rfl)
  cases hr : right n with
  | false =>
    have HZ := Lib.hid (show hA n = zN ∧ hB n = zN ∧ hK n = [] ∧ hE n = 2 from by
      have h : ¬ hOk n := fun h => by rw [h.1] at hr; cases hr
      unfold hA hB hK hE
      rw [if_neg h, if_neg h, if_neg h, if_neg (by rw [hr]; decide)]
      exact ⟨rfl, rfl, rfl, rfl⟩)
    rintro e w1 ⟨rfl, hb1⟩
    clear n0 n1 n2
    have hX := Ext.of_below HE.out.inv hb1
    have F2 := Lib.hid (F2.out.ext hX)
    have F4 := Lib.hid (F4.out.ext hX)
    have HE := Lib.hid (HE.out.trans hX)
    have f0 := blk_cell_J F2.out 0 rfl
    have f1 := blk_cell_J F2.out 1 rfl
    have f2 := blk_cell_J F2.out 2 rfl
    have g0 := blk_cell_J F4.out 0 rfl
    have g1 := blk_cell_J F4.out 1 rfl
    have g2 := blk_cell_J F4.out 2 rfl
    have f0f := frozen_of_row _ b2 0 _ _ F2.out
    have f1f := frozen_of_row _ b2 1 _ _ F2.out
    have f2f := frozen_of_row _ b2 2 _ _ F2.out
    have g0f := frozen_of_row _ b4 0 _ _ F4.out
    have g1f := frozen_of_row _ b4 1 _ _ F4.out
    have g2f := frozen_of_row _ b4 2 _ _ F4.out
    have d24 : b2 ≠ b4 := by have := HNE.out; omega
    have d42 : b4 ≠ b2 := by have := HNE.out; omega
    clear hX hb1
    go_wp2_with fail
    have hFA := put3_nb (.bool false) (.slice none 0 0) (.slice none 0 0) (put3_at (l' := false) (vi' := .slice none 0 0) (vk' := .slice none 0 0) F2.out) d24
    have hFB := put3_at (l' := false) (vi' := .slice none 0 0) (vk' := .slice none 0 0) (put3_nb (.bool false) (.slice none 0 0) (.slice none 0 0) F4.out d42)
    refine bodyPost_half (s := .string (strB [])) (e := .int .i64 2) rfl hFA hFB rfl rfl rfl rfl ?_
    refine ⟨.agg #[.bool false, .slice none 0 0, .slice none 0 0], .agg #[.bool false, .slice none 0 0, .slice none 0 0], J, ?_, put3_e (put3_e HE.out (by have := HNE.out; omega) HJ.out.2.1 _ _ _) (by have := HNE.out; omega) HJ.out.2.2 _ _ _, ?_, ?_⟩
    · rw [HZ.out.2.2.1, HZ.out.2.2.2]
    · rw [HZ.out.1]; exact ⟨_, _, rfl, Own.nil _ _ _ _ _, Own.nil _ _ _ _ _⟩
    · rw [HZ.out.2.1]; exact ⟨_, _, rfl, Own.nil _ _ _ _ _, Own.nil _ _ _ _ _⟩
  | true =>
    rintro e w1 ⟨rfl, hb1⟩
    have HR := Lib.hid hr
    have hX := Ext.of_below HE.out.inv hb1
    have HN := Lib.hid (HN.out.ext hX)
    have F2 := Lib.hid (F2.out.ext hX)
    have F4 := Lib.hid (F4.out.ext hX)
    have HE := Lib.hid (HE.out.trans hX)
    clear hX hb1 n0 n1 n2 HRT
    have n0 := blk_cell_J HN.out 0 rfl
    have n1 := blk_cell_J HN.out 1 rfl
    have n2 := blk_cell_J HN.out 2 rfl
    have HR2 := Lib.hid hr
    clear hr
    go_upto_if 22 with fail
    go_cut [6] (fun lv wx => lv = .int .i64 (lastN n) ∧ wx = w1)
    case first => as_aux_lemma =>
      have hcase : ∀ h : (!n.leaf) = true, (n.items.length : Int) - 1 = lastN n := fun h => by
        have hlf : n.leaf = false := by simpa using h
        have hr := HR2.out
        unfold right okKids at hr
        rw [hlf] at hr
        simp only [Bool.false_eq_true, if_false, Bool.and_eq_true, decide_eq_true_eq] at hr
        have := hr.2.1.1
        unfold lastN
        rw [if_neg (by rw [hlf]; decide)]
        omega
      have hcas2 : ∀ h : (!n.leaf) = false, (n.items.length : Int) = lastN n := fun h => by
        have hlf : n.leaf = true := by simpa using h
        unfold lastN
        rw [if_pos hlf]
      go_wp2_with fail
      · go_meet
        rename_i hh
        exact ⟨by have hlm : lastN n ≤ n.items.length := (by unfold lastN; split <;> omega); rw [show wrap64 (lastN n : Int) = lastN n from by unfold wrap64; omega], rfl⟩
      · go_meet
        rename_i hh
        exact ⟨by first | rw [hcas2 hh] | (have hlm : lastN n ≤ n.items.length := (by unfold lastN; split <;> omega); go_num), rfl⟩
    case rest =>
      obtain ⟨rfl, hwc⟩ := hcut
      cases hwc.symm
      clear HR2
      obtain ⟨ln, hln⟩ : ∃ ln, ln = lastN n := ⟨_, rfl⟩
      rw [← hln]
      have HLN := Lib.hid hln.symm
      have hi1 : ln ≤ 1048576 := by rw [hln]; unfold lastN; split <;> omega
      clear hln
      go_wp2_with fail
      have HNB := Lib.hid (show Nb J w1 nb n from ⟨Ai, ci, Ak, ck, HN.out, HV.out⟩)
      go_loopw [8, 9] (fun av iv wr => ∃ k : Nat, k + 1 ≤ max 1 ln ∧ av = .int .i64 (best n k) ∧ iv = .int .i64 ((k + 1 : Nat) : Int) ∧ Hid (Below w1.heap.size w1 wr)) (fun _ iv _ => 1048577 - (intOf iv).toNat)
      case atStart => exact ⟨0, by omega, rfl, rfl, Below.refl _ _⟩
      case round =>
        obtain ⟨k, hk, rfl, rfl, HW⟩ := hrel
        obtain ⟨i, hik⟩ : ∃ i, i = k + 1 := ⟨_, rfl⟩
        rw [← hik] at hk
        obtain ⟨b, hb⟩ : ∃ b, b = best n k := ⟨_, rfl⟩
        have hbk : b ≤ k := by rw [hb]; exact best_le n k
        have HIR := Lib.hid (HE.out.inv.below HW.out)
        have HNR := Lib.hid (show Nb J wr nb n from ⟨Ai, ci, Ak, ck, HN.out.ext (Ext.of_below HE.out.inv HW.out), HV.out⟩)
        have i0 : (1 : Int) ≤ i := by omega
        have il : (i : Int) ≤ 1048576 := by omega
        have iw : IntKind.i64.wrap ((i : Int) + 1) = ((i + 1 : Nat) : Int) := by rw [IntKind.wrap_i64]; omega
        have HBP := Lib.hid (show 0 < k → 0 < b from fun h => by rw [hb]; exact best_pos n k h)
        have HBE := Lib.hid (show best n i = if b = 0 ∨ szN n i < szN n b then i else b from by rw [hik, hb]; rfl)
        have HIK := Lib.hid hik
        rw [← hik, ← hb]
        by_cases hlt : i < ln
        · have h1 : (i : Int) < ln := by omega
          have hbi : b < i := by omega
          clear hik hb
          have hil : i < lastN n := by rw [HLN.out]; exact hlt
          by_cases hb0 : b = 0
          · have HB2 := Lib.hid (show best n i = i from by rw [HBE.out, if_pos (.inl hb0)])
            subst hb0
            go_wp2_with fail
            go_roundw
            case rel => exact ⟨i, by omega, by rw [HB2.out], by go_num, HW⟩
            case measure => simp [intOf] <;> omega
          · have hb1 : ¬ (b : Int) = 0 := by omega
            have hb2 : ((b : Int) == 0) = false := by simp [hb0]
            have hbl : b < lastN n := by omega
            have hb3 : 1 ≤ b := by omega
            go_wp2_with fail
            refine (great_calls HIR.out HNR.out HR.out i (by omega) hil hl).mono ?_
            rintro e w5 ⟨rfl, hb5⟩
            have HIR5 := Lib.hid (HIR.out.below hb5)
            have HNR5 := Lib.hid (show Nb J w5 nb n from ⟨Ai, ci, Ak, ck, HN.out.ext (Ext.of_below HE.out.inv (HW.out.trans (hb5.mono HW.out.size))), HV.out⟩)
            have HW5 := Lib.hid (HW.out.trans (hb5.mono HW.out.size))
            clear hb5
            go_wp2_with fail
            refine (great_calls HIR5.out HNR5.out HR.out b hb3 hbl hl).mono ?_
            rintro e w6 ⟨rfl, hb6⟩
            have HW6 := Lib.hid (HW5.out.trans (hb6.mono HW5.out.size))
            clear hb6
            by_cases hsz : szN n i < szN n b
            · have HB2 := Lib.hid (show best n i = i from by rw [HBE.out, if_pos (.inr hsz)])
              have hsz1 : (szN n i : Int) < szN n b := by omega
              go_wp2_with fail
              go_roundw
              case rel => exact ⟨i, by omega, by rw [HB2.out], by go_num, HW6⟩
              case measure => simp [intOf] <;> omega
            · have HB2 := Lib.hid (show best n i = b from by rw [HBE.out, if_neg (fun h => h.elim hb0 hsz)])
              have hsz1 : ¬ (szN n i : Int) < szN n b := by omega
              go_wp2_with fail
              go_roundw
              case rel => exact ⟨i, by omega, by rw [HB2.out], by go_num, HW6⟩
              case measure => simp [intOf] <;> omega
        · have h1 : ¬ (i : Int) < ln := by omega
          have HAT := Lib.hid (show halfAt n = b from by unfold halfAt; rw [HLN.out, hb, show ln - 1 = k by omega])
          have hX := Ext.of_below HE.out.inv HW.out
          have HN := Lib.hid (HN.out.ext hX)
          have F2 := Lib.hid (F2.out.ext hX)
          have F4 := Lib.hid (F4.out.ext hX)
          have HE := Lib.hid (HE.out.trans hX)
          clear hX n0 n1 n2 hik hb
          have n0 := blk_cell_J HN.out 0 rfl
          have n1 := blk_cell_J HN.out 1 rfl
          have n2 := blk_cell_J HN.out 2 rfl
          have hb7 := Below.refl wr.heap.size wr
          by_cases hb0 : b = 0
          · have HZ := Lib.hid (show hA n = zN ∧ hB n = zN ∧ hK n = [] ∧ hE n = 4 from by
              have h : ¬ hOk n := fun h => h.2 (HAT.out.trans hb0)
              unfold hA hB hK hE
              rw [if_neg h, if_neg h, if_neg h, if_pos HR.out, if_pos (HAT.out.trans hb0)]
              exact ⟨rfl, rfl, rfl, rfl⟩)
            subst hb0
            have hX := Ext.of_below HE.out.inv hb7
            have F2 := Lib.hid (F2.out.ext hX)
            have F4 := Lib.hid (F4.out.ext hX)
            have HE := Lib.hid (HE.out.trans hX)
            have f0 := blk_cell_J F2.out 0 rfl
            have f1 := blk_cell_J F2.out 1 rfl
            have f2 := blk_cell_J F2.out 2 rfl
            have g0 := blk_cell_J F4.out 0 rfl
            have g1 := blk_cell_J F4.out 1 rfl
            have g2 := blk_cell_J F4.out 2 rfl
            have f0f := frozen_of_row _ b2 0 _ _ F2.out
            have f1f := frozen_of_row _ b2 1 _ _ F2.out
            have f2f := frozen_of_row _ b2 2 _ _ F2.out
            have g0f := frozen_of_row _ b4 0 _ _ F4.out
            have g1f := frozen_of_row _ b4 1 _ _ F4.out
            have g2f := frozen_of_row _ b4 2 _ _ F4.out
            have d24 : b2 ≠ b4 := by have := HNE.out; omega
            have d42 : b4 ≠ b2 := by have := HNE.out; omega
            clear hX hb7
            go_wp2_with fail
            have hFA := put3_nb (.bool false) (.slice none 0 0) (.slice none 0 0) (put3_at (l' := false) (vi' := .slice none 0 0) (vk' := .slice none 0 0) F2.out) d24
            have hFB := put3_at (l' := false) (vi' := .slice none 0 0) (vk' := .slice none 0 0) (put3_nb (.bool false) (.slice none 0 0) (.slice none 0 0) F4.out d42)
            refine bodyPost_half (s := .string (strB [])) (e := .int .i64 4) rfl hFA hFB rfl rfl rfl rfl ?_
            refine ⟨.agg #[.bool false, .slice none 0 0, .slice none 0 0], .agg #[.bool false, .slice none 0 0, .slice none 0 0], J, ?_, put3_e (put3_e HE.out (by have := HNE.out; omega) HJ.out.2.1 _ _ _) (by have := HNE.out; omega) HJ.out.2.2 _ _ _, ?_, ?_⟩
            · rw [HZ.out.2.2.1, HZ.out.2.2.2]
            · rw [HZ.out.1]; exact ⟨_, _, rfl, Own.nil _ _ _ _ _, Own.nil _ _ _ _ _⟩
            · rw [HZ.out.2.1]; exact ⟨_, _, rfl, Own.nil _ _ _ _ _, Own.nil _ _ _ _ _⟩
          · have hbl : b < lastN n := by have := HIK.out; rw [HLN.out]; omega
            have HOK := Lib.hid (show hOk n from ⟨HR.out, by rw [HAT.out]; exact hb0⟩)
            have HCO := Lib.hid (cut_ok (i := b) HR.out hbl)
            have hlen : b < n.items.length := by unfold lastN at hbl; split at hbl <;> omega
            obtain ⟨xb, xo, rfl, hjk⟩ := key_jcell HV.out hlen
            obtain ⟨key, hkey⟩ : ∃ key, key = n.items[b].key := ⟨_, rfl⟩
            rw [← hkey] at hjk
            have HJK := Lib.hid hjk
            have HRS := Lib.hid (show hA n = cutA n b ∧ hB n = cutB n b ∧ hK n = key ∧ hE n = 0 from by
              unfold hA hB hK hE
              rw [if_pos HOK.out, if_pos HOK.out, if_pos HOK.out, if_pos HR.out, if_neg HOK.out.2, HAT.out, hkey, List.getElem?_eq_getElem hlen]
              exact ⟨rfl, rfl, rfl, rfl⟩)
            have hb1 : ¬ (b : Int) = 0 := by omega
            have hb2 : ((b : Int) == 0) = false := by simp [hb0]
            have hb3 : (b : Int) ≤ 1048576 := by omega
            have hb4 : b ≤ 1048576 := by omega
            clear hb7 hjk hkey hbl
            go_wp2_with fail
            refine (cutR_calls HE.out.inv HV.out b HCO.out.1 hl HCO.out.2).mono ?_
            rintro e w8 ⟨va, vb, J9, rfl, hE1, hA1, hB1⟩
            have HA := Lib.hid hA1
            have HB := Lib.hid hB1
            obtain ⟨Aa, ca, Ka, da, rfl, -⟩ := hA1.v.form
            obtain ⟨Ab, cb, Kb, db, rfl, -⟩ := hB1.v.form
            have HE1 := Lib.hid hE1
            clear hA1 hB1 hE1 n0 n1 n2
            go_upto_region 16 with fail
            generalize (cutA n b).leaf = LA at *
            generalize (cutA n b).items.length = LAI at *
            generalize (cutA n b).kids.length = LAK at *
            generalize (cutB n b).leaf = LB at *
            generalize (cutB n b).items.length = LBI at *
            generalize (cutB n b).kids.length = LBK at *
            have hX := two_boxes HE1.out.inv #[.bool LA, .slice Aa LAI ca, .slice Ka LAK da] #[.bool LB, .slice Ab LBI cb, .slice Kb LBK db] 25
            have HBX9 := Lib.hid (show NBox _ w8.heap.size LA (.slice Aa LAI ca) (.slice Ka LAK da) ∧ NBox _ (w8.heap.size + 1) LB (.slice Ab LBI cb) (.slice Kb LBK db) from hX.2)
            have HX := Lib.hid (HE1.out.trans hX.1)
            have HA9 := Lib.hid (HA.out.ext hX.1)
            have HB9 := Lib.hid (HB.out.ext hX.1)
            clear hX
            generalize World.alloc (World.alloc w8 _) _ = W9 at *
            have hlt2 := (Array.getElem?_eq_some_iff.1 F2.out).1
            have hlt4 := (Array.getElem?_eq_some_iff.1 F4.out).1
            have hltn := (Array.getElem?_eq_some_iff.1 HN.out).1
            have hle8 := HE1.out.below.size
            have F29 := Lib.hid (F2.out.ext HX.out)
            have F49 := Lib.hid (F4.out.ext HX.out)
            have HN9 := Lib.hid (HN.out.ext HX.out)
            have HE9 := Lib.hid (HE.out.trans HX.out)
            have HKC0 := Lib.hid ((HX.out.inv.anti (HX.out.le HE.out.inv)).cell HJK.out)
            have HKC := Lib.hid (show W9.drew.cell? ⟨xb, xo + b * 4, none⟩ = some (.string (strB key)) from HKC0.out)
            have HNE9 := Lib.hid (show nb ≠ b2 ∧ w8.heap.size ≠ b2 ∧ w8.heap.size + 1 ≠ b2 ∧ b2 ≠ b4 ∧ nb ≠ b4 ∧ xb ≠ b2 from by
              have := HNE.out
              refine ⟨by omega, by omega, by omega, by omega, by omega, fun h => ?_⟩
              have hj := HJK.out
              rw [h, HJ.out.2.1] at hj
              simp at hj)
            have HLJ := Lib.hid (show w.heap.size ≤ b2 ∧ w.heap.size ≤ b4 ∧ J9 b2 = [] ∧ J9 b4 = [] from by
              have := HNE.out
              exact ⟨by omega, by omega, (HX.out.old _ hlt2).trans HJ.out.2.1, (HX.out.old _ hlt4).trans HJ.out.2.2⟩)
            have HLB := Lib.hid (show b2 < wr.heap.size ∧ b4 < wr.heap.size ∧ w.heap.size ≤ wr.heap.size from ⟨hlt2, hlt4, HE.out.below.size⟩)
            generalize hbb : w8.heap.size + 1 = bb at *
            generalize hab : w8.heap.size = ab at *
            clear hlt2 hlt4 hltn hle8 hbb hab HX
            refine wp_region_pool2 10 (RS (cstH nb xb xo n.items.length ci b (.agg #[.bool LA, .slice Aa LAI ca, .slice Ka LAK da]) (.agg #[.bool LB, .slice Ab LBI cb, .slice Kb LBK db]) key) 8 W9.drew (put3 W9.drew b2 (.bool LA) (.slice Aa LAI ca) (.slice Ka LAK da))) (by kernel_rfl) (by kernel_rfl) (fun _ => undef) RS.start ?_ ?_
            · intro q o hk ho L v w' F hc hL hw hout hdp
              have q1 : F.tmps.getD 1 undef = .pointer (some ⟨nb, 0, none⟩) := hout 1 (by kernel_rfl)
              have q2 : F.tmps.getD 2 undef = .pointer (some ⟨b2, 0, none⟩) := hout 2 (by kernel_rfl)
              have q8 : F.tmps.getD 8 undef = .int .i64 b := hout 8 (by kernel_rfl)
              have q10 : F.tmps.getD 10 undef = .pointer (some ⟨ab, 0, none⟩) := hout 10 (by kernel_rfl)
              have q11 : F.tmps.getD 11 undef = .pointer (some ⟨bb, 0, none⟩) := hout 11 (by kernel_rfl)
              have hn : NBox w' nb n.leaf (.slice (some ⟨xb, xo, none⟩) n.items.length ci) (.slice Ak n.kids.length ck) := hc.all (P := fun X => NBox X nb _ _ _) HN9.out (put3_nb _ _ _ HN9.out HNE9.out.1)
              have hA1 : NBox w' ab LA (.slice Aa LAI ca) (.slice Ka LAK da) := hc.all (P := fun X => NBox X ab _ _ _) HBX9.out.1 (put3_nb _ _ _ HBX9.out.1 HNE9.out.2.1)
              have hB1 : NBox w' bb LB (.slice Ab LBI cb) (.slice Kb LBK db) := hc.all (P := fun X => NBox X bb _ _ _) HBX9.out.2 (put3_nb _ _ _ HBX9.out.2 HNE9.out.2.2.1)
              have hkc : w'.cell? ⟨xb, xo + b * 4, none⟩ = some (.string (strB key)) := hc.all (P := fun X => X.cell? ⟨xb, xo + b * 4, none⟩ = _) HKC.out (put3_keepD HKC0.out HNE9.out.2.2.2.2.2)
              have hkk : q = 0 ∨ q = 1 ∨ q = 2 ∨ q = 3 ∨ q = 4 ∨ q = 5 ∨ q = 6 ∨ q = 7 ∨ q = 8 ∨ q = 9 := by omega
              rcases hkk with rfl | rfl | rfl | rfl | rfl | rfl | rfl | rfl | rfl | rfl
              · cases ho
                have n0 := blk_cell_J hA1 0 rfl
                have n1 := blk_cell_J hA1 1 rfl
                have n2 := blk_cell_J hA1 2 rfl
                refine wp_value (x := .agg #[.bool LA, .slice Aa LAI ca, .slice Ka LAK da]) (w' := w') ?_ ⟨_, rfl, hc.read rfl (by decide)⟩
                clear hw hout hdp hc hn hA1 hB1 hkc
                unfold execOp
                simp only [Act.eval, q10]
                go_simp
              · cases ho
                refine wp_value (x := .pointer (some ⟨nb, 1, none⟩)) (w' := w') ?_ ⟨_, rfl, hc.read rfl (by decide)⟩
                clear hw hout hdp hc hn hA1 hB1 hkc
                unfold execOp
                simp only [Act.eval, q1]
                go_simp
              · cases ho
                have e54 := (hdp 1 54 (by kernel_rfl) (hw 1 (by kernel_rfl))).trans (hc.rd 1 _ rfl (hw 1 (by kernel_rfl)))
                have n1 := blk_cell_J hn 1 rfl
                refine wp_value (x := .slice (some ⟨xb, xo, none⟩) n.items.length ci) (w' := w') ?_ ⟨_, rfl, hc.read rfl (by decide)⟩
                clear hw hout hdp hc hn hA1 hB1 hkc
                unfold execOp
                simp only [Act.eval, e54]
                go_simp
              · cases ho
                refine wp_value (x := .int .i64 b) (w' := w') ?_ ⟨_, rfl, hc.read rfl (by decide)⟩
                clear hw hout hdp hc hn hA1 hB1 hkc
                unfold execOp
                simp only [Act.eval, q8]
                go_simp
              · cases ho
                have e55 := (hdp 2 55 (by kernel_rfl) (hw 2 (by kernel_rfl))).trans (hc.rd 2 _ rfl (hw 2 (by kernel_rfl)))
                have e56 := (hdp 3 56 (by kernel_rfl) (hw 3 (by kernel_rfl))).trans (hc.rd 3 _ rfl (hw 3 (by kernel_rfl)))
                refine wp_value (x := .pointer (some ⟨xb, xo + b * 4, none⟩)) (w' := w') ?_ ⟨_, rfl, hc.read rfl (by decide)⟩
                clear hw hout hdp hc hn hA1 hB1 hkc
                unfold execOp
                simp only [Act.eval, e55]
                go_simp
              · cases ho
                have e57 := (hdp 4 57 (by kernel_rfl) (hw 4 (by kernel_rfl))).trans (hc.rd 4 _ rfl (hw 4 (by kernel_rfl)))
                refine wp_value (x := .pointer (some ⟨xb, xo + b * 4, none⟩)) (w' := w') ?_ ⟨_, rfl, hc.read rfl (by decide)⟩
                clear hw hout hdp hc hn hA1 hB1 hkc
                unfold execOp
                simp only [Act.eval, e57]
                go_simp
              · cases ho
                have e58 := (hdp 5 58 (by kernel_rfl) (hw 5 (by kernel_rfl))).trans (hc.rd 5 _ rfl (hw 5 (by kernel_rfl)))
                have k0 := hkc
                refine wp_value (x := .string (strB key)) (w' := w') ?_ ⟨_, rfl, hc.read rfl (by decide)⟩
                clear hw hout hdp hc hn hA1 hB1 hkc
                unfold execOp
                simp only [Act.eval, e58]
                go_simp
              · cases ho
                have n0 := blk_cell_J hB1 0 rfl
                have n1 := blk_cell_J hB1 1 rfl
                have n2 := blk_cell_J hB1 2 rfl
                refine wp_value (x := .agg #[.bool LB, .slice Ab LBI cb, .slice Kb LBK db]) (w' := w') ?_ ⟨_, rfl, hc.read rfl (by decide)⟩
                clear hw hout hdp hc hn hA1 hB1 hkc
                unfold execOp
                simp only [Act.eval, q11]
                go_simp
              · cases ho
                have hb := hc.before hL
                have e53 := (hdp 0 53 (by kernel_rfl) (hw 0 (by kernel_rfl))).trans (hc.rd 0 _ rfl (hw 0 (by kernel_rfl)))
                refine wp_skip (w' := put3 w' b2 (.bool LA) (.slice Aa LAI ca) (.slice Ka LAK da)) (run_store3 rfl q2 e53 (by rw [hb]; exact F29.out)) ⟨undef, rfl, ?_⟩
                rw [hb]
                exact hc.store rfl undef
              · cases ho
                have e59 := (hdp 6 59 (by kernel_rfl) (hw 6 (by kernel_rfl))).trans (hc.rd 6 _ rfl (hw 6 (by kernel_rfl)))
                refine wp_value (x := .string (strB key)) (w' := w') ?_ ⟨_, rfl, hc.read rfl (by decide)⟩
                clear hw hout hdp hc hn hA1 hB1 hkc
                unfold execOp
                simp only [Act.eval, e59]
                go_simp
            · intro L v w' F hall hc hF hFd hout hdp
              have q2 : F.tmps.getD 2 undef = .pointer (some ⟨b2, 0, none⟩) := hout 2 (by kernel_rfl)
              have q4 : F.tmps.getD 4 undef = .pointer (some ⟨b4, 0, none⟩) := hout 4 (by kernel_rfl)
              have e60 := (hdp 7 60 (by kernel_rfl)).trans (hc.rd 7 _ rfl (hall 7 (by omega)))
              have Q3 := (hdp 9 3 (by kernel_rfl)).trans (hc.rd 9 _ rfl (hall 9 (by omega)))
              have hb := hc.behind (hall 8 (by omega))
              have pd : F.defers = [] := hFd
              have psz : F.tmps.size = 61 := by rw [hF, fill_size]; rfl
              have G4 : NBox w' b4 false (.slice none 0 0) (.slice none 0 0) := by rw [hb]; exact put3_nb _ _ _ F49.out HNE9.out.2.2.2.1.symm
              have hFA : NBox (put3 w' b4 (.bool LB) (.slice Ab LBI cb) (.slice Kb LBK db)) b2 LA (.slice Aa LAI ca) (.slice Ka LAK da) := by rw [hb]; exact put3_nb _ _ _ (put3_at F29.out) HNE9.out.2.2.2.1
              have hFB : NBox (put3 w' b4 (.bool LB) (.slice Ab LBI cb) (.slice Kb LBK db)) b4 LB (.slice Ab LBI cb) (.slice Kb LBK db) := put3_at G4
              have hFE : Ext J w J9 (put3 w' b4 (.bool LB) (.slice Ab LBI cb) (.slice Kb LBK db)) := by rw [hb]; exact put3_e (put3_e HE9.out.drew HLJ.out.1 HLJ.out.2.2.1 _ _ _) HLJ.out.2.1 HLJ.out.2.2.2 _ _ _
              have hFNA : NdO J9 (put3 w' b4 (.bool LB) (.slice Ab LBI cb) (.slice Kb LBK db)) w.heap.size (.agg #[.bool LA, .slice Aa LAI ca, .slice Ka LAK da]) (cutA n b) := by rw [hb]; exact put3_node (put3_node HA9.out.drew HLB.out.1 (Nat.le_refl _) _ _ _) HLB.out.2.1 HLB.out.2.2 _ _ _
              have hFNB : NdO J9 (put3 w' b4 (.bool LB) (.slice Ab LBI cb) (.slice Kb LBK db)) w.heap.size (.agg #[.bool LB, .slice Ab LBI cb, .slice Kb LBK db]) (cutB n b) := by rw [hb]; exact put3_node (put3_node HB9.out.drew HLB.out.1 (Nat.le_refl _) _ _ _) HLB.out.2.1 HLB.out.2.2 _ _ _
              clear hF hFd hout hdp hc hall
              simp only [List.drop_succ_cons, List.drop_zero]
              have q3 : F.tmps.getD 3 undef = .string (strB key) := Q3
              refine wpList_skip rfl (run_store3 rfl q4 e60 G4) ?_
              change wpList _ _ _ _ F _
              refine wpList_value (x := .int .i64 0) (w' := put3 w' b4 (.bool LB) (.slice Ab LBI cb) (.slice Kb LBK db)) rfl (by clear hFA hFB hFE hFNA hFNB G4; unfold execOp; go_simp) ?_
              have q2 : (F.put (some 5) (.int .i64 0)).tmps.getD 2 undef = _ := (putD_ne (by decide)).trans q2
              have q4 : (F.put (some 5) (.int .i64 0)).tmps.getD 4 undef = _ := (putD_ne (by decide)).trans q4
              have q3 : (F.put (some 5) (.int .i64 0)).tmps.getD 3 undef = _ := (putD_ne (by decide)).trans q3
              have q5 : (F.put (some 5) (.int .i64 0)).tmps.getD 5 undef = _ := putD_same (by rw [psz]; decide)
              refine wpList_nil ?_
              change Exit.then _ _ .normal (F.put (some 5) (.int .i64 0)) _
              go_step
              go_step
              go_step
              exact bodyPost_half pd hFA hFB q2 q3 q4 q5 ⟨_, _, J9, by rw [HRS.out.2.2.1, HRS.out.2.2.2], hFE, by rw [HRS.out.1]; exact hFNA, by rw [HRS.out.2.1]; exact hFNB⟩
end Go.Proofs.Ytnnkgjaahmflmaa
