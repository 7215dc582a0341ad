/- The walks of Put and of the document's Page. -/
import Derived.Test.YtnnkgjaahmflmaaCellPut
namespace Go.Proofs.Ytnnkgjaahmflmaa
open Go.RowKit
set_option linter.unusedVariables false

def outP (n : Nd) : List UInt8 := if wrong n = 0 then page n else []
theorem page_len {n : Nd} (h : (form n).length ≤ 240) : (page n).length = 240 := by unfold page; rw [List.length_append, List.length_replicate]; omega
theorem own_heap {J J1 : Jm} {w W : World} (h : Ext J w J1 W) {g : Nat} {l : List UInt8} (hg : w.heap.size ≤ g) (hc : W.heap[g]? = some (.cells (bcs l).toArray 5 (0, 0))) (hJ : J1 g = []) (hm : l.length ≤ maxLen) :
    ∃ J2, Ext J w J2 W ∧ Rb J2 W w.heap.size (.slice (some ⟨g, 0, none⟩) l.length l.length) l := by
  refine ⟨J1.put g (bcs l), ⟨h.below, h.inv.put hc (by simp), fun b hb => ?_⟩, ⟨by simp, .inr ⟨g, l.length, _, rfl, hg, hc, Nat.le_refl _, hm, by simp, by simp [List.take_of_length_le]⟩⟩, fun b e => ?_⟩
  · rw [Jm.put_other _ _ _ (by omega)]; exact h.old b hb
  · simp [Value.ownBlock] at e; subst e; exact Jm.put_same _ _ _
theorem row_page (f : List UInt8) (N : Nat) : List.take f.length (bcs f) ++ List.drop f.length (bcs (List.replicate N 0)) = bcs (f ++ List.replicate (N - f.length) 0) := by
  rw [List.take_of_length_le (by simp)]
  simp [bcs, List.drop_replicate]
theorem row_get {f : List UInt8} {k N : Nat} (h : k < f.length) (hN : f.length ≤ N) : (bcs (f.take k ++ List.replicate (N - k) 0))[k]? = some (.int .u8 0) := by
  have h1 : (f.take k ++ List.replicate (N - k) (0 : UInt8))[k]? = some 0 := by
    rw [List.getElem?_append_right (by simp; omega), List.getElem?_replicate]
    simp; omega
  simp only [bcs, List.getElem?_map, h1]
  rfl
theorem row_set {f : List UInt8} {k N : Nat} (h : k < f.length) (hN : f.length ≤ N) : (bcs (f.take k ++ List.replicate (N - k) 0)).set k (.int .u8 (f[k].toNat : Nat)) = bcs (f.take (k + 1) ++ List.replicate (N - (k + 1)) 0) := by
  rw [List.take_succ_eq_append_getElem h, show N - k = (N - (k + 1)) + 1 by omega, List.replicate_succ]
  simp only [bcs, List.map_append, List.map_cons, List.map_nil]
  rw [List.set_append_right _ _ (by simp; omega)]
  simp [show k - min k f.length = 0 by omega, bv]
theorem wrong_right {n : Nd} (h : wrong n = 0) : right n = true ∧ (form n).length ≤ 240 := by
  unfold wrong at h
  split at h
  · split at h
    · cases h
    · exact ⟨by assumption, by omega⟩
  · cases h
set_option maxRecDepth 100000 in
set_option maxHeartbeats 4000000 in
theorem Put_calls {J : Jm} {w : World} (hI : Inv J w) {v : Value} {n : Nd} (hn : NdV J v n) (hs : NdS n) :
    Calls Try.prog 14 #[v] w fun e w' => ∃ v' J', e = .returned (.tuple #[v', .int .i64 (wrong n : Nat)]) ∧ Ext J w J' w' ∧ Rb J' w' w.heap.size v' (outP n) := by
  obtain ⟨vi, vk, rfl, hi, hk⟩ := hn
  obtain ⟨Ai, ci, rfl, hni, hmi⟩ := hi.form
  obtain ⟨Ak, ck, rfl, hnk, hmk⟩ := hk.form
  unfold maxLen at hmi hmk
  have HND := Lib.hid (show NdV J (.agg #[.bool n.leaf, .slice Ai n.items.length ci, .slice Ak n.kids.length ck]) n from ⟨_, _, rfl, hi, hk⟩)
  clear hi hk
  have HS := Lib.hid hs
  have hmk := run_make_J (P := Try.prog) (t := 30) Try.underlying30 info_u8 240 240 rfl (by omega) (by omega)
  rw [Nat.mul_one] at hmk
  simp only [madeCells_u8] at hmk
  obtain ⟨zs, hzs⟩ : ∃ zs, zs = bcs (List.replicate 240 0) := ⟨_, rfl⟩
  rw [← hzs] at hmk
  have HZS := Lib.hid (show zs = bcs (List.replicate 240 0) ∧ zs.length = 240 from ⟨hzs, by rw [hzs]; simp⟩)
  clear hzs
  go_enter Try.func14, Try.ntmps14
  go_upto_region 1 with fail
  have HE0 := Lib.hid ((Ext.refl hI).alloc (.cells #[.bool n.leaf, .slice Ai n.items.length ci, .slice Ak n.kids.length ck] 25))
  have HN0 : Hid (NBox (w.alloc (.cells #[.bool n.leaf, .slice Ai n.items.length ci, .slice Ak n.kids.length ck] 25)) w.heap.size n.leaf (.slice Ai n.items.length ci) (.slice Ak n.kids.length ck)) := heap_alloc_new w _
  obtain ⟨nb, hnb⟩ : ∃ nb, nb = w.heap.size := ⟨_, rfl⟩
  have HN0 := Lib.hid (show NBox _ nb n.leaf _ _ from by rw [hnb]; exact HN0.out)
  rw [← hnb]
  generalize World.alloc w _ = W at *
  clear hnb
  have n0 := blk_cell_J HN0.out 0 rfl
  have n1 := blk_cell_J HN0.out 1 rfl
  have n2 := blk_cell_J HN0.out 2 rfl
  go_wp2_with fail
  refine (Check_calls HE0.out.inv HND.out HS.out).mono ?_
  rintro e w1 ⟨rfl, hb1⟩
  have HE := Lib.hid (HE0.out.step hb1)
  have HN := Lib.hid (show NBox w1 nb n.leaf _ _ from (hb1.block nb (Array.getElem?_eq_some_iff.1 HN0.out).1).trans HN0.out)
  clear hb1 n0 n1 n2
  have n0 := blk_cell_J HN.out 0 rfl
  have n1 := blk_cell_J HN.out 1 rfl
  have n2 := blk_cell_J HN.out 2 rfl
  by_cases h0 : wrong n = 0
  · have hr := wrong_right h0
    have HO := Lib.hid (show outP n = page n from if_pos h0)
    have HF := Lib.hid hr
    rw [h0]
    clear hr
    have HW0 := Lib.hid h0
    clear h0
    have HE1 := Lib.hid HE.out.below
    go_upto_region 5 with fail
    have HG := Lib.hid (heap_alloc_new w1 (.cells zs.toArray 5))
    have HE := Lib.hid (HE.out.alloc (.cells zs.toArray 5))
    have HN := Lib.hid (show NBox (w1.alloc (.cells zs.toArray 5)) nb n.leaf _ _ from (Below.heap_alloc w1 _ nb (Array.getElem?_eq_some_iff.1 HN.out).1).trans HN.out)
    obtain ⟨g, hg⟩ : ∃ g, g = w1.heap.size := ⟨_, rfl⟩
    have HGE := Lib.hid (show w.heap.size ≤ w1.heap.size ∧ J w1.heap.size = [] from ⟨HE1.out.size, by exact (hI.below HE1.out).nil (Nat.le_refl _)⟩)
    generalize World.alloc w1 _ = W1 at *
    clear hg
    generalize w1.heap.size = gb at *
    clear n0 n1 n2
    have n0 := blk_cell_J HN.out 0 rfl
    have n1 := blk_cell_J HN.out 1 rfl
    have n2 := blk_cell_J HN.out 2 rfl
    go_wp2_with fail
    refine (form_calls HE.out.inv HND.out HF.out.1 HS.out.1).mono ?_
    rintro e w2 ⟨v2, J2, rfl, hE2, hO2⟩
    obtain ⟨A2, c2, rfl, -, -⟩ := hO2.sl.form
    have HJ2 := Lib.hid (show J2 gb = [] from (hE2.old gb (Array.getElem?_eq_some_iff.1 HG.out).1).trans HGE.out.2)
    have HG := Lib.hid ((hE2.below.block gb (Array.getElem?_eq_some_iff.1 HG.out).1).trans HG.out)
    have HE := Lib.hid (HE.out.trans hE2)
    have HB := Lib.hid (Own.sl hO2)
    have hfl := HF.out.2
    clear hE2 hO2 n0 n1 n2 HN
    have hmin : min (form n).length 240 = (form n).length := by omega
    go_wp2_with (refine wpList_copy_J (J := J2) (d := .tmp 12) (s := .tmp 14) rfl rfl Try.underlying30 (by kernel_rfl) (g := gb) (off := 0) rfl HG.out (by have := HZS.out.2; simp; omega) rfl HE.out.inv HB.out (bcs_one _) ?_)
    generalize hWd : World.setRow _ _ _ = W3
    have hW : ∃ J3, Ext J w J3 W3 ∧ Rb J3 W3 w.heap.size (.slice (some ⟨gb, 0, none⟩) 240 240) (page n) := by
      subst hWd
      have hl := page_len HF.out.2
      have hrow : List.take (form n).length (bcs (form n)) ++ List.drop (form n).length zs = bcs (page n) := by
        rw [HZS.out.1, row_page]; rfl
      rw [hrow]
      have := own_heap (J1 := J2) (W := w2.setRow gb (bcs (page n)).toArray) (l := page n) ⟨below_setRow HE.out.below HGE.out.1 _, HE.out.inv.setRow HJ2.out _, HE.out.old⟩ HGE.out.1 (setRow_heap _ _ _ _ _ _ HG.out) HJ2.out (by rw [hl]; decide)
      rw [hl] at this
      exact this
    obtain ⟨J3, h3, h4⟩ := hW
    have HE := Lib.hid h3
    have HO4 := Lib.hid h4
    clear h3 h4 hWd
    go_wp2_with fail
    go_ret2
    exact ⟨.slice (some ⟨gb, 0, none⟩) 240 240, J3, by rw [HW0.out]; rfl, HE.out, by rw [HO.out]; exact HO4.out⟩
  · have HO := Lib.hid (show outP n = [] from if_neg h0)
    obtain ⟨q, hq⟩ : ∃ q, q = wrong n := ⟨_, rfl⟩
    rw [← hq]
    have hne : ((q : Int) != 0) = true := by simp; omega
    have hne2 : ¬ (q : Int) = 0 := by omega
    have HQ := Lib.hid hq
    clear hq h0
    go_wp2_with fail
    go_ret2
    exact ⟨.slice none 0 0, J, by rw [← HQ.out]; rfl, HE.out, by rw [HO.out]; exact Own.nil _ _ _ _ _⟩
set_option maxRecDepth 100000 in
set_option maxHeartbeats 4000000 in
theorem Page_calls {J : Jm} {w : World} (hI : Inv J w) {v : Value} {n : Nd} (hn : NdV J v n) (hs : NdS n) (hw : wrong n = 0) :
    Calls Try.prog 20 #[v] w fun e w' => ∃ v' J', e = .returned v' ∧ Ext J w J' w' ∧ Rb J' w' w.heap.size v' (page n) := by
  obtain ⟨vi, vk, rfl, hi, hk⟩ := hn
  obtain ⟨Ai, ci, rfl, hni, hmi⟩ := hi.form
  obtain ⟨Ak, ck, rfl, hnk, hmk⟩ := hk.form
  unfold maxLen at hmi hmk
  have HND := Lib.hid (show NdV J (.agg #[.bool n.leaf, .slice Ai n.items.length ci, .slice Ak n.kids.length ck]) n from ⟨_, _, rfl, hi, hk⟩)
  clear hi hk
  have HS := Lib.hid hs
  have hmk := run_make_J (P := Try.prog) (t := 30) Try.underlying30 info_u8 240 240 rfl (by omega) (by omega)
  rw [Nat.mul_one] at hmk
  simp only [madeCells_u8] at hmk
  obtain ⟨zs, hzs⟩ : ∃ zs, zs = bcs (List.replicate 240 0) := ⟨_, rfl⟩
  rw [← hzs] at hmk
  have HZS := Lib.hid (show zs = bcs (List.replicate 240 0) ∧ zs.length = 240 from ⟨hzs, by rw [hzs]; simp⟩)
  clear hzs
  have HF := Lib.hid (wrong_right hw)
  clear hw
  go_enter Try.func20, Try.ntmps20
  go_upto_region 1 with fail
  have HE0 := Lib.hid ((Ext.refl hI).alloc (.cells #[.bool n.leaf, .slice Ai n.items.length ci, .slice Ak n.kids.length ck] 25))
  have HN0 : Hid (NBox (w.alloc (.cells #[.bool n.leaf, .slice Ai n.items.length ci, .slice Ak n.kids.length ck] 25)) w.heap.size n.leaf (.slice Ai n.items.length ci) (.slice Ak n.kids.length ck)) := heap_alloc_new w _
  obtain ⟨nb, hnb⟩ : ∃ nb, nb = w.heap.size := ⟨_, rfl⟩
  have HN0 := Lib.hid (show NBox _ nb n.leaf _ _ from by rw [hnb]; exact HN0.out)
  rw [← hnb]
  generalize World.alloc w _ = W at *
  clear hnb
  have n0 := blk_cell_J HN0.out 0 rfl
  have n1 := blk_cell_J HN0.out 1 rfl
  have n2 := blk_cell_J HN0.out 2 rfl
  go_upto_region 2 with fail
  have HG := Lib.hid (heap_alloc_new W (.cells zs.toArray 5))
  have HE := Lib.hid (HE0.out.alloc (.cells zs.toArray 5))
  have HN := Lib.hid (show NBox (W.alloc (.cells zs.toArray 5)) nb n.leaf _ _ from (Below.heap_alloc W _ nb (Array.getElem?_eq_some_iff.1 HN0.out).1).trans HN0.out)
  have HGE := Lib.hid (show w.heap.size ≤ W.heap.size ∧ J W.heap.size = [] from ⟨HE0.out.below.size, HE0.out.inv.nil (Nat.le_refl _)⟩)
  generalize World.alloc W _ = W1 at *
  generalize W.heap.size = gb at *
  clear n0 n1 n2
  have n0 := blk_cell_J HN.out 0 rfl
  have n1 := blk_cell_J HN.out 1 rfl
  have n2 := blk_cell_J HN.out 2 rfl
  go_wp2_with fail
  refine (refForm_calls HE.out.inv HND.out HF.out.1 HS.out.1).mono ?_
  rintro e w2 ⟨v2, J2, rfl, hE2, hO2⟩
  obtain ⟨A2, c2, rfl, -, -⟩ := hO2.sl.form
  have HJ2 := Lib.hid (show J2 gb = [] from (hE2.old gb (Array.getElem?_eq_some_iff.1 HG.out).1).trans HGE.out.2)
  have HGc := Lib.hid (show w2.heap[gb]? = some (.cells (bcs ((form n).take 0 ++ List.replicate (240 - 0) 0)).toArray 5 (0, 0)) from (hE2.below.block gb (Array.getElem?_eq_some_iff.1 HG.out).1).trans (HG.out.trans (by rw [HZS.out.1]; rfl)))
  have HE := Lib.hid (HE.out.trans hE2)
  have HB := Lib.hid (show Bs J2 _ _ from Own.sl hO2)
  have hfl := HF.out.2
  clear hE2 hO2 n0 n1 n2 HN HG
  go_wp2_with fail
  go_loopw [5] (fun iv wr => ∃ k : Nat, k ≤ (form n).length ∧ iv = .int .i64 k ∧ Hid (Ext J w J2 wr) ∧ Hid (wr.heap[gb]? = some (.cells (bcs ((form n).take k ++ List.replicate (240 - k) 0)).toArray 5 (0, 0)))) (fun iv _ => (form n).length - (intOf iv).toNat)
  case atStart => exact ⟨0, Nat.zero_le _, rfl, HE, HGc⟩
  case round =>
    clear HE HGc
    obtain ⟨k, hk, rfl, HE, HG⟩ := hrel
    have i0 : (0 : Int) ≤ (k : Int) := by omega
    by_cases hlt : k < (form n).length
    · have i1 : (k : Int) < (form n).length := by omega
      obtain ⟨b, o, rfl, hc⟩ := HB.out.cell HE.out.inv hlt
      have k2 : (k : Int) < 240 := by omega
      have fz := frozen_of_row _ gb k _ _ HG.out
      have hkc := blk_cell_J HG.out k (v := .int .u8 0) (row_get hlt hfl)
      have HN2 := Lib.hid (blk_set_J HG.out k (.int .u8 ((form n)[k]).toNat))
      have HX := Lib.hid (row_set (N := 240) hlt hfl)
      generalize (form n)[k] = y at *
      go_wp2_with fail
      go_roundw
      case rel => exact ⟨k + 1, by omega, by go_num, Lib.hid (HE.out.setCell HGE.out.1 HJ2.out _), Lib.hid (by rw [← HX.out]; exact HN2.out)⟩
      case measure => simp [intOf] <;> omega
    · obtain rfl : k = (form n).length := by omega
      have i1 : ¬ ((form n).length : Int) < (form n).length := by omega
      have hl := page_len HF.out.2
      have := own_heap (l := page n) HE.out HGE.out.1 (by have h := HG.out; rw [List.take_of_length_le (Nat.le_refl _)] at h; exact h) HJ2.out (by rw [hl]; decide)
      rw [hl] at this
      obtain ⟨J3, h3, h4⟩ := this
      have HE3 := Lib.hid h3
      have HO4 := Lib.hid h4
      clear h3 h4 hl
      go_wp2_with fail
      go_ret
      exact ⟨_, rfl, J3, HE3.out, HO4.out⟩
end Go.Proofs.Ytnnkgjaahmflmaa
