/- The walk of record's Get. -/
import Derived.Test.YtldicbhjmjjfbaaRecGetM
import Derived.WalkMore
import Derived.Deep.CutBlock
import Derived.Deep.DeepCutAuto
namespace Go.Proofs.Ytldicbhjmjjfbaa
open Go.RowKit
set_option linter.unusedVariables false

theorem neeR_yes {s : List UInt8} {r : Rs} {pr : List UInt8 × Rs} {hr : Nat × Rs} {cr : List UInt8 × Rs} (hp : pr = txtR s 60 r) (hh : hr = numR s 1 pr.2) (h1 : hr.1 = 1) (hc : cr = txtR s 256 hr.2) : neeR s r = (⟨pr.1, true, cr.1⟩, cr.2) := by
  subst hp
  subst hh
  subst hc
  unfold neeR; simp only; rw [if_pos h1]
theorem neeR_no {s : List UInt8} {r : Rs} {pr : List UInt8 × Rs} {hr : Nat × Rs} (hp : pr = txtR s 60 r) (hh : hr = numR s 1 pr.2) (h1 : ¬ hr.1 = 1) : neeR s r = (⟨pr.1, false, []⟩, hr.2) := by
  subst hp
  subst hh
  unfold neeR; simp only; rw [if_neg h1]
theorem rdL_e {l : List UInt8} {m q : Int} {x : Nat} (h : rdL l m q = .error x) : x ≠ 0 := by
  have ts : ∀ (n : Nat) (l : List UInt8) (x : Nat), rdTs n l q = .error x → x ≠ 0 := by
    intro n
    induction n with
    | zero => intro l x h; simp [rdTs] at h
    | succ n ih =>
      intro l x h
      rw [rdTs] at h
      split at h
      · rename_i e he; simp only [Except.error.injEq] at h; subst h; exact rdT_e he
      · split at h
        · rename_i e he; simp only [Except.error.injEq] at h; subst h; exact ih _ _ he
        · cases h
  unfold rdL at h
  split at h
  · rename_i e he; simp only [Except.error.injEq] at h; subst h; have := cnt_err he; omega
  · split at h
    · rename_i e he; simp only [Except.error.injEq] at h; subst h; exact ts _ _ _ he
    · cases h
theorem getT_v {s : List UInt8} (h : ¬ (numR s 1 ⟨0, 0⟩).1 = 1) : getT s = none := by unfold getT; simp only; rw [if_pos h]
theorem getT_eq {s : List UInt8} {v n : Nat × Rs} {j : List UInt8 × Rs} {L : List Nee} {r : Rs} (hv : numR s 1 ⟨0, 0⟩ = v) (h1 : v.1 = 1) (hj : txtR s 512 v.2 = j) (hn : numR s 8 j.2 = n) (hl : neesR s n.1 [] n.2 = (L, r)) :
    getT s = if r.e ≠ 0 then none else match rdL (s.drop r.k) 4 256 with
      | .error _ => none
      | .ok (outs, c) => if r.k + c < s.length then none else if rightT ⟨j.1, L, outs⟩ = true then some ⟨j.1, L, outs⟩ else none := by
  unfold getT
  simp only [hv, hj, hn, hl]
  rw [if_neg (fun h => h h1)]
  rfl
set_option maxRecDepth 100000 in
set_option maxHeartbeats 8000000 in
theorem Get_calls {J : Jm} {w : World} (hI : Inv J w) (s : List UInt8) (hs : s.length ≤ 140737488351232) :
    Calls Try.prog 10 #[.string (strB s)] w fun e w' => GetP J w s e w' := by
  have hX := (Ext.refl hI).alloc (.cells #[.string ⟨#[]⟩, .slice none 0 0, .slice none 0 0] 26)
  have HZ : Hid (TBox (w.alloc (.cells #[.string ⟨#[]⟩, .slice none 0 0, .slice none 0 0] 26)) w.heap.size zT (.slice none 0 0) (.slice none 0 0)) := TBox.new w zT (.slice none 0 0) (.slice none 0 0)
  have hJZ := Lib.hid (hI.nil (Nat.le_refl w.heap.size))
  have HLO := Lib.hid (Nat.le_refl w.heap.size)
  go_enter Try.func10, Try.ntmps10
  go_wp2_with fail
  go_step3
  have HX := Lib.hid hX
  clear hX
  generalize World.alloc w _ = W0 at *
  have HZL := Lib.hid (show ∃ z, z = w.heap.size from ⟨_, rfl⟩)
  obtain ⟨zb, hzb⟩ := HZL.out
  rw [← hzb] at HZ hJZ
  have HLO : Hid (w.heap.size ≤ zb) := Nat.le_of_eq hzb.symm
  rw [← hzb]
  clear hzb HZL
  obtain ⟨W1, J1, c1, hcv, hE1, hB1⟩ := conv_bytes HX.out.inv s (by omega)
  have HE1 := Lib.hid hE1
  have HB1 := Lib.hid hB1
  have hlt := HX.out.below.size
  have HZ1 := Lib.hid (HZ.out.ext hE1)
  have HJ1 := Lib.hid ((hE1.old zb HZ.out.lt).trans hJZ.out)
  clear hE1 hB1
  go_wp2_with fail
  refine (new_calls HE1.out.inv HB1.out (by omega)).mono ?_
  rintro e W2 ⟨g, rfl, hg, hE2, hC2⟩
  have hg1 : zb < g := by have h1 := HZ1.out.lt; omega
  have HE2 := Lib.hid ((HX.out.trans HE1.out).trans hE2)
  have HZ2 := Lib.hid (HZ1.out.ext hE2)
  have HJ2 := Lib.hid ((hE2.old zb HZ1.out.lt).trans HJ1.out)
  have hx := (Ext.refl hE2.inv).alloc (.cells #[.pointer (some ⟨g, 0, none⟩), .int .i64 0] 56)
  have HG := Lib.hid (show RB J w zb g W2.heap.size s ⟨0, 0⟩ J1 (W2.alloc (.cells #[.pointer (some ⟨g, 0, none⟩), .int .i64 0] 56)) from
    ⟨HE2.out.trans hx, HZ2.out.ext hx, HJ2.out, ⟨heap_alloc_new W2 _, hE2.inv.nil (Nat.le_refl _), hC2.ext hx, hC2.lt⟩, HLO.out, hg1⟩)
  clear hE2 hC2 hx HE2 HZ2 HJ2 HE1 HB1 HZ1 HJ1 HX HZ hJZ HLO hcv
  go_wp2_with fail
  generalize World.alloc W2 _ = W3 at *
  generalize W2.heap.size = rb at *
  refine (number_calls HG.out.ext.inv HG.out.rd 1 (by omega)).mono ?_
  rintro e W4 ⟨rfl, hM, hR⟩
  have HG := Lib.hid (HG.out.read hM hR)
  clear hM hR
  obtain ⟨v0, hv0⟩ : ∃ v, v = numR s 1 ⟨0, 0⟩ := ⟨_, rfl⟩
  simp only [← hv0] at HG ⊢
  have HV0 := Lib.hid hv0
  clear hv0
  by_cases h1 : v0.1 = 1
  case neg =>
    have HN := Lib.hid (getT_v (s := s) (by rw [← HV0.out]; exact h1))
    have e1 : ((v0.1 : Int) != 1) = true := by simpa using (by omega : ¬ (v0.1 : Int) = 1)
    have e2 : ¬ (v0.1 : Int) = 1 := by omega
    clear h1
    have z0 := HG.out.zx.c0
    have z1 := HG.out.zx.c1
    have z2 := HG.out.zx.c2
    have zf0 := frozen_of_row _ zb 0 _ _ HG.out.zx
    have zf1 := frozen_of_row _ zb 1 _ _ HG.out.zx
    have zf2 := frozen_of_row _ zb 2 _ _ HG.out.zx
    go_wp2_with fail
    try rw [Exit.noGoto_ret]
    exact bodyPost_get (put3_tr HG.out.zx zT _ _) rfl rfl (GetP.no HN.out (put3_ext HG.out.ext HG.out.lo.1 HG.out.jz _ _ _))
  have e1 : ((v0.1 : Int) != 1) = false := by simpa using (by omega : (v0.1 : Int) = 1)
  have e2 : (v0.1 : Int) = 1 := by omega
  have H1 := Lib.hid h1
  clear h1
  go_wp2_with fail
  clear e1 e2
  refine (text_calls HG.out.ext.inv HG.out.rd 512 (by omega)).mono ?_
  rintro e W5 ⟨rfl, hM, hR⟩
  have HG := Lib.hid (HG.out.read hM hR)
  clear hM hR
  have hjl := txtR_len s 512 v0.2
  obtain ⟨j0, hj0⟩ : ∃ v, v = txtR s 512 v0.2 := ⟨_, rfl⟩
  simp only [← hj0] at HG hjl ⊢
  have HJ0 := Lib.hid hj0
  clear hj0
  go_wp2_with fail
  have HG := Lib.hid (RG.new HG.out j0.1)
  generalize World.alloc W5 _ = W6 at *
  generalize W5.heap.size = tb at *
  go_step3
  go_wp2_with fail
  refine (number_calls HG.out.rbx.ext.inv HG.out.rbx.rd 8 (by omega)).mono ?_
  rintro e W7 ⟨rfl, hM, hR⟩
  have HG := Lib.hid (HG.out.read hM hR)
  clear hM hR
  have hn8 := numR_le s 8 j0.2
  obtain ⟨n0, hn0⟩ : ∃ v, v = numR s 8 j0.2 := ⟨_, rfl⟩
  simp only [← hn0] at HG hn8 ⊢
  have HN0 := Lib.hid hn0
  clear hn0
  go_upto_block 0 with fail
  go_cut [23] (fun iv wx => ∃ vn L r J', Hid (RG J w zb g rb tb s j0.1 vn (.slice none 0 0) L r J' wx) ∧ Hid (neesR s n0.1 [] n0.2 = (L, r)))
  case first => as_aux_lemma =>
    go_wp2_with fail
    go_loopw [23] (fun iv wr => ∃ (j : Nat) (vn : Value) (L : List Nee) (r : Rs) (J' : Jm), j ≤ n0.1 ∧ iv = .int .i64 j ∧ Hid (RG J w zb g rb tb s j0.1 vn (.slice none 0 0) L r J' wr) ∧
      Hid (neesR s (n0.1 - j) L r = neesR s n0.1 [] n0.2) ∧ L.length ≤ j) (fun iv _ => n0.1 - (intOf iv).toNat)
    case atStart => exact ⟨0, _, [], n0.2, J1, Nat.zero_le _, rfl, HG, rfl, Nat.zero_le _⟩
    case round =>
      clear HG
      obtain ⟨j, vn, L, r, J', hj, rfl, HG, HRL, HLL⟩ := hrel
      have i0 : (0 : Int) ≤ (j : Int) := by omega
      by_cases hlt : j < n0.1
      · have i1 : (j : Int) < n0.1 := by omega
        obtain ⟨d, hd⟩ : ∃ d, n0.1 - j = d + 1 := ⟨n0.1 - j - 1, by omega⟩
        have HL := Lib.hid (show (if (neeR s r).2.e ≠ 0 then (L, (neeR s r).2) else neesR s d (L ++ [(neeR s r).1]) (neeR s r).2) = neesR s n0.1 [] n0.2 from by have h := HRL.out; rw [hd] at h; exact h)
        have HD := Lib.hid (show d = n0.1 - (j + 1) from by omega)
        clear hd HRL
        go_wp2_with fail
        refine (text_calls HG.out.rbx.ext.inv HG.out.rbx.rd 60 (by omega)).mono ?_
        rintro e W8 ⟨rfl, hM, hR⟩
        have HG := Lib.hid (HG.out.read hM hR)
        clear hM hR
        obtain ⟨pr, hpr⟩ : ∃ v, v = txtR s 60 r := ⟨_, rfl⟩
        simp only [← hpr] at HG ⊢
        have HPR := Lib.hid hpr
        clear hpr
        go_wp2_with fail
        have HX := Lib.hid (show RX tb W8.heap.size ⟨pr.1, false, []⟩ vn J' (W8.alloc (.cells #[.string (strB pr.1), .bool false, .string ⟨#[]⟩] 38)) from RX.new HG.out ⟨pr.1, false, []⟩)
        have HG := Lib.hid (show RG J w zb g rb tb s j0.1 vn (.slice none 0 0) L pr.2 J' (W8.alloc (.cells #[.string (strB pr.1), .bool false, .string ⟨#[]⟩] 38)) from HG.out.step ((Ext.refl HG.out.rbx.ext.inv).alloc _))
        generalize World.alloc W8 _ = W9 at *
        generalize W8.heap.size = eb at *
        refine (number_calls HG.out.rbx.ext.inv HG.out.rbx.rd 1 (by omega)).mono ?_
        rintro e W10 ⟨rfl, hM, hR⟩
        have HX := Lib.hid (HX.out.read HG.out hM)
        have HG := Lib.hid (HG.out.read hM hR)
        clear hM hR
        obtain ⟨hr, hhr⟩ : ∃ v, v = numR s 1 pr.2 := ⟨_, rfl⟩
        simp only [← hhr] at HG ⊢
        have HHR := Lib.hid hhr
        clear hhr
        have xf := frozen_of_row _ eb 1 _ _ HX.out.bx
        have x1 := HX.out.bx.c1
        by_cases hh1 : hr.1 = 1
        · have e1 : ((hr.1 : Int) == 1) = true := by simpa using (by omega : (hr.1 : Int) = 1)
          have e2 : (hr.1 : Int) = 1 := by omega
          go_upto_region 9 with fail
          have HX2 := Lib.hid (show RX tb eb ⟨pr.1, true, []⟩ vn J' _ from HX.out.set1 true)
          have HG := Lib.hid (HG.out.xset HX.out 1 (.bool true))
          have HX := HX2
          clear HX2 xf x1 e1 e2
          generalize World.setCell W10 _ _ = W11 at *
          have x1 := HX.out.bx.c1
          go_wp2_with fail
          clear x1
          refine (text_calls HG.out.rbx.ext.inv HG.out.rbx.rd 256 (by omega)).mono ?_
          rintro e W12 ⟨rfl, hM, hR⟩
          have HX := Lib.hid (HX.out.read HG.out hM)
          have HG := Lib.hid (HG.out.read hM hR)
          clear hM hR
          obtain ⟨cr, hcr⟩ : ∃ v, v = txtR s 256 hr.2 := ⟨_, rfl⟩
          have HNE := Lib.hid (neeR_yes HPR.out HHR.out hh1 hcr)
          simp only [← hcr] at HG ⊢
          clear hcr
          have xf := frozen_of_row _ eb 2 _ _ HX.out.bx
          have x2 := HX.out.bx.c2
          go_upto_region 11 with fail
          have HX2 := Lib.hid (show RX tb eb ⟨pr.1, true, cr.1⟩ vn J' _ from HX.out.set2 cr.1)
          have HG := Lib.hid (HG.out.xset HX.out 2 (.string (strB cr.1)))
          have HX := HX2
          clear HX2 xf x2
          generalize World.setCell W12 _ _ = W13 at *
          obtain ⟨y, hy⟩ : ∃ y : Nee, y = ⟨pr.1, true, cr.1⟩ := ⟨_, rfl⟩
          rw [← hy] at HX HNE
          clear hy
          have HGR := HG.out.rbx.rd.bx
          have r1 := blk_cell_J HGR 1 rfl
          clear HGR
          rw [HNE.out] at HL
          by_cases hre : cr.2.e = 0
          · have HRF := Lib.hid (show neesR s (n0.1 - (j + 1)) (L ++ [y]) cr.2 = neesR s n0.1 [] n0.2 by rw [← HL.out, if_neg (fun h => h hre), ← HD.out])
            rw [hre] at r1
            have x0 := HX.out.bx.c0
            have x1 := HX.out.bx.c1
            have x2 := HX.out.bx.c2
            have t1 := HG.out.tx.c1
            have htl := HG.out.tx.lt
            clear hre HL HNE
            obtain ⟨An, cn, rfl, -, -⟩ := HG.out.on.sl.form
            go_wp2_with (at_builtin; go_must (refine wpList_append_lit (J := J') (s := .tmp 43) (x := .tmp 45) (t := 23) (e := 38) (base := tb + 1) (v := .slice An L.length cn) (n := L.length) (xs := ndC L) (m := 1) (news := ndC [y]) rfl (.agg #[.string ByteArray.empty, .bool false, .string ByteArray.empty]) 3 40 rfl Try.underlying23 info_need rfl rfl (HG.out.rbx.ext.inv.alloc _) (HG.out.on.alloc _) rfl (heap_alloc_new _ _) rfl (ndC_one _) (by simp only [maxLen]; omega) (by omega) (by simp; omega) ?_; intro v8 w8 J8 ho8 hg8 hv8; obtain ⟨A8, c8, rfl, -, -⟩ := ho8.sl.form; have HG8 := Lib.hid (HG.out.step ((Ext.refl HG.out.rbx.ext.inv).alloc (.cells (ndC [y]).toArray 38))); have HN8 := Lib.hid (HG8.out.need ho8 hg8); clear ho8 hg8 hv8; have n81 := HN8.out.1.c1; have n8f := frozen_of_row _ tb 1 _ _ HN8.out.1))
            go_roundw
            case rel => exact ⟨j + 1, _, L ++ [y], cr.2, J8, by omega, by go_num, HN8.out.2, HRF, by rw [List.length_append]; simp only [List.length_cons, List.length_nil]; omega⟩
            case measure => simp [intOf]; omega
          · have HRF := Lib.hid (show neesR s n0.1 [] n0.2 = (L, cr.2) by rw [← HL.out, if_pos hre])
            have e1 : ((cr.2.e : Int) != 0) = true := by simpa using hre
            have e2 : ¬ (cr.2.e : Int) = 0 := by omega
            clear hre HL HNE
            go_wp2_with fail
            go_meet
            case rel => exact ⟨vn, L, cr.2, J', HG, HRF⟩
        · have e1 : ((hr.1 : Int) == 1) = false := by simpa using (by omega : ¬ (hr.1 : Int) = 1)
          have e2 : ¬ (hr.1 : Int) = 1 := by omega
          have HNE := Lib.hid (neeR_no HPR.out HHR.out hh1)
          go_upto_region 9 with fail
          have HX2 := Lib.hid (show RX tb eb ⟨pr.1, false, []⟩ vn J' _ from HX.out.set1 false)
          have HG := Lib.hid (HG.out.xset HX.out 1 (.bool false))
          have HX := HX2
          clear HX2 xf x1 e1 e2
          generalize World.setCell W10 _ _ = W11 at *
          have x1 := HX.out.bx.c1
          go_upto_region 11 with fail
          clear x1
          obtain ⟨y, hy⟩ : ∃ y : Nee, y = ⟨pr.1, false, []⟩ := ⟨_, rfl⟩
          rw [← hy] at HX HNE
          clear hy
          have HGR := HG.out.rbx.rd.bx
          have r1 := blk_cell_J HGR 1 rfl
          clear HGR
          rw [HNE.out] at HL
          by_cases hre : hr.2.e = 0
          · have HRF := Lib.hid (show neesR s (n0.1 - (j + 1)) (L ++ [y]) hr.2 = neesR s n0.1 [] n0.2 by rw [← HL.out, if_neg (fun h => h hre), ← HD.out])
            rw [hre] at r1
            have x0 := HX.out.bx.c0
            have x1 := HX.out.bx.c1
            have x2 := HX.out.bx.c2
            have t1 := HG.out.tx.c1
            have htl := HG.out.tx.lt
            clear hre HL HNE
            obtain ⟨An, cn, rfl, -, -⟩ := HG.out.on.sl.form
            go_wp2_with (at_builtin; go_must (refine wpList_append_lit (J := J') (s := .tmp 43) (x := .tmp 45) (t := 23) (e := 38) (base := tb + 1) (v := .slice An L.length cn) (n := L.length) (xs := ndC L) (m := 1) (news := ndC [y]) rfl (.agg #[.string ByteArray.empty, .bool false, .string ByteArray.empty]) 3 40 rfl Try.underlying23 info_need rfl rfl (HG.out.rbx.ext.inv.alloc _) (HG.out.on.alloc _) rfl (heap_alloc_new _ _) rfl (ndC_one _) (by simp only [maxLen]; omega) (by omega) (by simp; omega) ?_; intro v8 w8 J8 ho8 hg8 hv8; obtain ⟨A8, c8, rfl, -, -⟩ := ho8.sl.form; have HG8 := Lib.hid (HG.out.step ((Ext.refl HG.out.rbx.ext.inv).alloc (.cells (ndC [y]).toArray 38))); have HN8 := Lib.hid (HG8.out.need ho8 hg8); clear ho8 hg8 hv8; have n81 := HN8.out.1.c1; have n8f := frozen_of_row _ tb 1 _ _ HN8.out.1))
            go_roundw
            case rel => exact ⟨j + 1, _, L ++ [y], hr.2, J8, by omega, by go_num, HN8.out.2, HRF, by rw [List.length_append]; simp only [List.length_cons, List.length_nil]; omega⟩
            case measure => simp [intOf]; omega
          · have HRF := Lib.hid (show neesR s n0.1 [] n0.2 = (L, hr.2) by rw [← HL.out, if_pos hre])
            have e1 : ((hr.2.e : Int) != 0) = true := by simpa using hre
            have e2 : ¬ (hr.2.e : Int) = 0 := by omega
            clear hre HL HNE
            go_wp2_with fail
            go_meet
            case rel => exact ⟨vn, L, hr.2, J', HG, HRF⟩
      · obtain rfl : j = n0.1 := by omega
        have HRF := Lib.hid (show neesR s n0.1 [] n0.2 = (L, r) by rw [← HRL.out, Nat.sub_self]; rfl)
        go_wp2_with fail
        go_meet
        case rel => exact ⟨vn, L, r, J', HG, HRF⟩
  case rest => as_aux_lemma =>
    clear HG
    obtain ⟨vn, L, r, J', HG, HRR⟩ := hcut
    have HEQ := Lib.hid (getT_eq HV0.out.symm H1.out HJ0.out.symm HN0.out.symm HRR.out)
    have hlen := neesR_len s n0.1 [] n0.2 (fun x h => by cases h)
    rw [HRR.out] at hlen
    have HLEN := Lib.hid hlen
    have hll : L.length ≤ 8 := by have := hlen.2; simp only [List.length_nil] at this; omega
    clear hlen
    have HGR := HG.out.rbx.rd.bx
    have r0 := blk_cell_J HGR 0 rfl
    have r1 := blk_cell_J HGR 1 rfl
    clear HGR
    by_cases hre : r.e = 0
    case neg =>
      have HN := Lib.hid (show getT s = none by rw [HEQ.out, if_pos hre])
      have e1 : ((r.e : Int) != 0) = true := by simpa using hre
      have e2 : ¬ (r.e : Int) = 0 := by omega
      clear hre
      have z0 := HG.out.rbx.zx.c0
      have z1 := HG.out.rbx.zx.c1
      have z2 := HG.out.rbx.zx.c2
      have zf0 := frozen_of_row _ zb 0 _ _ HG.out.rbx.zx
      have zf1 := frozen_of_row _ zb 1 _ _ HG.out.rbx.zx
      have zf2 := frozen_of_row _ zb 2 _ _ HG.out.rbx.zx
      go_wp2_with fail
      try rw [Exit.noGoto_ret]
      exact bodyPost_get (put3_tr HG.out.rbx.zx zT _ _) rfl rfl (GetP.no HN.out (put3_ext HG.out.rbx.ext HG.out.rbx.lo.1 HG.out.rbx.jz _ _ _))
    rw [hre] at r1
    have HEQ := Lib.hid (show getT s = _ by rw [HEQ.out, if_neg (fun h => h hre)])
    go_wp2_with fail
    refine (List_callsM HG.out.rbx.ext.inv HG.out.rbx.rd.cu 4 256 (.inr (by decide)) (by decide) (by decide) (by decide) (by decide)).mono ?_
    rintro e W8 ⟨k', J2, hP, hM, hC⟩
    have hM2 : Mv (two2 g rb) J' wc J2 W8 := ⟨hM.os, hM.tape, hM.output, hM.size, fun q hq hn => hM.block q hq (fun h => hn (.inl h)), hM.inv, hM.old⟩
    have hrd := HG.out.rbx.rd
    have HG := Lib.hid (HG.out.read hM2 (r' := ⟨k', 0⟩) ⟨by have := (hM.block rb hrd.rlt (by have := hrd.lt; omega)).trans hrd.bx; rw [hre] at this; exact this, (hM.old rb hrd.rlt).trans hrd.jr, hC, hrd.lt⟩)
    clear hM hM2 hrd hC hre r0 r1
    have HGR := HG.out.rbx.rd.bx
    have r0 := blk_cell_J HGR 0 rfl
    clear HGR
    have tf2 := frozen_of_row _ tb 2 _ _ HG.out.tx
    have t2 := HG.out.tx.c2
    unfold ListP at hP
    cases hq : rdL (s.drop r.k) 4 256 with
    | error x =>
      rw [hq] at hP HEQ
      obtain ⟨rfl, rfl⟩ := hP
      have hx := rdL_e hq
      have HN := Lib.hid (show getT s = none from HEQ.out)
      have e1 : ((x : Int) != 0) = true := by simpa using hx
      have e2 : ¬ (x : Int) = 0 := by omega
      clear hx hq
      go_upto_region 18 with fail
      have HG := Lib.hid (HG.out.oset (.slice none 0 0))
      clear tf2 t2 r0
      generalize World.setCell W8 _ _ = W9 at *
      have z0 := HG.out.rbx.zx.c0
      have z1 := HG.out.rbx.zx.c1
      have z2 := HG.out.rbx.zx.c2
      have zf0 := frozen_of_row _ zb 0 _ _ HG.out.rbx.zx
      have zf1 := frozen_of_row _ zb 1 _ _ HG.out.rbx.zx
      have zf2 := frozen_of_row _ zb 2 _ _ HG.out.rbx.zx
      go_wp2_with fail
      try rw [Exit.noGoto_ret]
      exact bodyPost_get (put3_tr HG.out.rbx.zx zT _ _) rfl rfl (GetP.no HN.out (put3_ext HG.out.rbx.ext HG.out.rbx.lo.1 HG.out.rbx.jz _ _ _))
    | ok oc =>
      obtain ⟨outs, c⟩ := oc
      rw [hq] at hP HEQ
      obtain ⟨⟨vo, rfl, hS⟩, rfl⟩ := hP
      have HOL := Lib.hid (rdL_len hq)
      have HEQ := Lib.hid (show getT s = if r.k + c < s.length then none else if rightT ⟨j0.1, L, outs⟩ = true then some ⟨j0.1, L, outs⟩ else none from HEQ.out)
      obtain ⟨Ao, co, rfl, -, -⟩ := hS.form
      have HS := Lib.hid hS
      clear hS hq
      go_upto_region 18 with fail
      have HG := Lib.hid (HG.out.oset (.slice Ao outs.length co))
      clear tf2 t2 r0
      generalize World.setCell W8 _ _ = W9 at *
      have HGR := HG.out.rbx.rd.bx
      have r0 := blk_cell_J HGR 0 rfl
      clear HGR
      go_wp2_with fail
      refine (left_calls HG.out.rbx.rd.cu).mono ?_
      rintro e W10 ⟨rfl, hb⟩
      have HG := Lib.hid (HG.out.step (Ext.of_below HG.out.rbx.ext.inv hb))
      clear hb r0
      by_cases hlt : r.k + c < s.length
      · have HN := Lib.hid (show getT s = none by rw [HEQ.out, if_pos hlt])
        have e1 : (0 : Int) < ((s.length - (r.k + c) : Nat) : Int) := by omega
        obtain ⟨q, hqq⟩ : ∃ q, q = s.length - (r.k + c) := ⟨_, rfl⟩
        rw [← hqq] at e1 ⊢
        clear hqq hlt
        have z0 := HG.out.rbx.zx.c0
        have z1 := HG.out.rbx.zx.c1
        have z2 := HG.out.rbx.zx.c2
        have zf0 := frozen_of_row _ zb 0 _ _ HG.out.rbx.zx
        have zf1 := frozen_of_row _ zb 1 _ _ HG.out.rbx.zx
        have zf2 := frozen_of_row _ zb 2 _ _ HG.out.rbx.zx
        go_wp2_with fail
        try rw [Exit.noGoto_ret]
        exact bodyPost_get (put3_tr HG.out.rbx.zx zT _ _) rfl rfl (GetP.no HN.out (put3_ext HG.out.rbx.ext HG.out.rbx.lo.1 HG.out.rbx.jz _ _ _))
      · have HEQ := Lib.hid (show getT s = if rightT ⟨j0.1, L, outs⟩ = true then some ⟨j0.1, L, outs⟩ else none by rw [HEQ.out, if_neg hlt])
        have hz : s.length - (r.k + c) = 0 := by omega
        rw [hz]
        clear hz hlt
        have t0 := HG.out.tx.c0
        have t1 := HG.out.tx.c1
        have t2 := HG.out.tx.c2
        obtain ⟨An, cn, rfl, -, -⟩ := HG.out.on.sl.form
        have HV := Lib.hid (show TrV J2 (.agg #[.string (strB j0.1), .slice An L.length cn, .slice Ao outs.length co]) ⟨j0.1, L, outs⟩ from ⟨_, _, rfl, HG.out.on.sl, HS.out⟩)
        have HTS := Lib.hid (show TrS ⟨j0.1, L, outs⟩ from ⟨by show j0.1.length ≤ _; omega, fun x hx => by have := HLEN.out.1 x hx; omega, fun x hx => by have := HOL.out.2 x hx; omega, by show L.length * 40 ≤ _; omega, by show outs.length * 16 ≤ _; have := HOL.out.1; omega⟩)
        go_wp2_with fail
        refine (check_calls HG.out.rbx.ext.inv HV.out HTS.out).mono ?_
        rintro e W11 ⟨rfl, hb⟩
        have HG := Lib.hid (HG.out.step (Ext.of_below HG.out.rbx.ext.inv hb))
        clear hb t0 t1 t2
        cases hrt : rightT ⟨j0.1, L, outs⟩ with
        | false =>
          rw [errT_no hrt]
          have HN := Lib.hid (show getT s = none by rw [HEQ.out, hrt]; rfl)
          have z0 := HG.out.rbx.zx.c0
          have z1 := HG.out.rbx.zx.c1
          have z2 := HG.out.rbx.zx.c2
          have zf0 := frozen_of_row _ zb 0 _ _ HG.out.rbx.zx
          have zf1 := frozen_of_row _ zb 1 _ _ HG.out.rbx.zx
          have zf2 := frozen_of_row _ zb 2 _ _ HG.out.rbx.zx
          go_wp2_with fail
          try rw [Exit.noGoto_ret]
          exact bodyPost_get (put3_tr HG.out.rbx.zx zT _ _) rfl rfl (GetP.no HN.out (put3_ext HG.out.rbx.ext HG.out.rbx.lo.1 HG.out.rbx.jz _ _ _))
        | true =>
          rw [errT_yes hrt]
          have HN := Lib.hid (show getT s = some ⟨j0.1, L, outs⟩ by rw [HEQ.out, hrt]; rfl)
          have t0 := HG.out.tx.c0
          have t1 := HG.out.tx.c1
          have t2 := HG.out.tx.c2
          have z0 := HG.out.rbx.zx.c0
          have z1 := HG.out.rbx.zx.c1
          have z2 := HG.out.rbx.zx.c2
          have zf0 := frozen_of_row _ zb 0 _ _ HG.out.rbx.zx
          have zf1 := frozen_of_row _ zb 1 _ _ HG.out.rbx.zx
          have zf2 := frozen_of_row _ zb 2 _ _ HG.out.rbx.zx
          go_wp2_with fail
          try rw [Exit.noGoto_ret]
          exact bodyPost_get (put3_tr HG.out.rbx.zx ⟨j0.1, L, outs⟩ _ _) rfl rfl (GetP.yes HN.out (put3_ext HG.out.rbx.ext HG.out.rbx.lo.1 HG.out.rbx.jz _ _ _) HG.out.on.sl HS.out)
end Go.Proofs.Ytldicbhjmjjfbaa
