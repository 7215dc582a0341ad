/- The walk of the document's Write. -/
import Derived.Test.YthfjeijhnikabaaLexWw
import Derived.Test.YthfjeijhnikabaaLexQur
namespace Go.Proofs.Ythfjeijhnikabaa
open Go.RowKit
set_option linter.unusedVariables false

/-- a row of bytes of the call's own -/
abbrev Rw (J : Jm) (w : World) (B : Nat) (v : Value) (l : List UInt8) : Prop := Own J w B 5 1 v l.length (bcs l)
theorem Rw.lit {J : Jm} {w : World} {B n m : Nat} {v : Value} {pre l : List UInt8} (h : Own J w B 5 1 v (n + m) (bcs pre ++ bcs l)) (hn : n = pre.length) (hm : m = l.length) : Rw J w B v (pre ++ l) := by
  subst hn hm; unfold Rw; rw [List.length_append, bcs_append]; exact h
theorem Rw.str {J : Jm} {w : World} {B n : Nat} {v : Value} {pre l : List UInt8} (h : Own J w B 5 1 v (n + (strB l).size) (bcs pre ++ bcs (strB l).data.toList)) (hn : n = pre.length) : Rw J w B v (pre ++ l) := by
  rw [strB_size, strB_data] at h; exact Rw.lit h hn rfl
set_option maxRecDepth 100000 in
set_option maxHeartbeats 8000000 in
theorem refWrite_calls {J : Jm} {w : World} (hI : Inv J w) {v : Value} {A : List Li} (hv : Lni J v A) (hA : A.length ≤ 1048576) (ht : tot A ≤ 1048576) :
    Calls Try.prog 25 #[v] w fun e w' => e = .returned (.string (strB (writeL (A.map Li.q)))) ∧ Below w.heap.size w w' := by
  obtain ⟨Aa, ca, rfl, hn, hm⟩ := hv.form
  have HV := Lib.hid hv
  have HT := Lib.hid ht
  clear hv hm ht
  go_enter Try.func25, Try.ntmps25
  go_wp2_with fail
  go_loopw [3, 4] (fun bv iv wr => ∃ (k : Nat) (v' : Value) (J' : Jm), k ≤ A.length ∧ iv = .int .i64 k ∧ bv = v' ∧ Hid (Ext J w J' wr) ∧ Hid (Rw J' wr w.heap.size v' (writeL ((A.take k).map Li.q)))) (fun _ iv _ => A.length - (intOf iv).toNat)
  case atStart => exact ⟨0, _, J, Nat.zero_le _, rfl, rfl, Ext.refl hI, Own.nil _ _ _ _ _⟩
  case round =>
    obtain ⟨k, v', J', hk, rfl, rfl, HE, HO⟩ := hrel
    have i0 : (0 : Int) ≤ (k : Int) := by omega
    by_cases hlt : k < A.length
    · have i1 : (k : Int) < A.length := by omega
      obtain ⟨b, o, WA, wc, rfl, c0, c1, c2, hw⟩ := (HV.out.mono (HE.out.le hI)).cell HE.out.inv hlt
      have HTA := Lib.hid (tot_at A k hlt)
      have HTK := Lib.hid (tot_take A (k + 1))
      have HWT := Lib.hid (writeL_take hlt)
      have HWL := Lib.hid (writeL_len (A.take k))
      have HLT := Lib.hid (show (A.take k).length = k by rw [List.length_take]; omega)
      have HLQ : Hid (lnT (A[k].q) = (if A[k].ind = true then [9] else []) ++ wsT (A[k].ws.map Wi.q) ++ [10]) := rfl
      have hwl := totW_len A[k].ws
      have hwl2 : A[k].ws.length ≤ 1048576 := by have := HTA.out; have := HTK.out; have := HT.out; omega
      obtain ⟨l, hAk⟩ : ∃ l, l = A[k] := ⟨_, rfl⟩
      rw [← hAk] at HTA HWT HLQ hwl hwl2 hw c0 c1 c2
      have HL2 := Lib.hid hwl2
      have HLK := Lib.hid hAk
      clear hw hwl hwl2 hk c2 hAk
      obtain ⟨lind, hlind⟩ : ∃ lind, lind = l.ind := ⟨_, rfl⟩
      rw [← hlind] at c1 HLQ
      clear hlind
      obtain ⟨pre, hpre⟩ : ∃ pre, pre = writeL ((A.take k).map Li.q) := ⟨_, rfl⟩
      rw [← hpre] at HO HWL HWT
      obtain ⟨P, hP⟩ : ∃ P, P = pre ++ (if lind = true then [9] else []) := ⟨_, rfl⟩
      have HBN := Lib.hid (show pre.length ≤ 8388608 from by have := HWL.out; have := HLT.out; have := HTA.out; have := HTK.out; have := HT.out; omega)
      have HPN := Lib.hid (show P.length ≤ 8388609 from by rw [hP, List.length_append]; have := HBN.out; have := tab_len lind; omega)
      have HP := Lib.hid hP
      clear hP hpre
      go_upto_if 17 with fail
      go_cut [3] (fun bv wx => ∃ J2, Hid (Ext J w J2 wx) ∧ Hid (Rw J2 wx w.heap.size bv P))
      case first => as_aux_lemma =>
        cases lind with
        | true =>
          have hfl := HBN.out
          go_wp2_with (at_builtin; go_must (refine wpList_append_lit (J := J') (s := .tmp 18) (x := .tmp 19) (t := 38) (e := 5) (base := w.heap.size) (v := u3) (n := pre.length) (xs := bcs pre) (m := 1) (news := bcs [9]) rfl (.int .u8 0) 1 1 rfl Try.underlying38 info_u8 rfl rfl (HE.out.inv.alloc _) (HO.out.alloc _) rfl (heap_alloc_new _ _) rfl (bcs_one _) (by simp only [maxLen]; omega) (by omega) (by have := HE.out.below.size; simp; omega) ?_; intro v5 w5 J5 ho5 hg5 hv5; have HE5 := Lib.hid ((HE.out.alloc _).grew (HO.out.alloc _) hg5); have HO5 := Lib.hid ho5; have HV5 := Lib.hid hv5; clear ho5 hg5 hv5))
          have HO := Lib.hid (Rw.lit HO5.out rfl rfl)
          have HE := HE5
          clear HO5 HE5 HV5
          go_wp2_with fail
          go_meet
          case rel => exact ⟨_, HE, by rw [HP.out]; exact HO⟩
        | false =>
          go_wp2_with fail
          go_meet
          case rel => exact ⟨_, HE, Lib.hid (by rw [HP.out]; simpa using HO.out)⟩
      case rest => as_aux_lemma =>
        clear HO HE c0 c1
        obtain ⟨J2, HE, HO⟩ := hcut
        go_wp2_with fail
        go_loopw [3, 5] (fun bv iv wq => ∃ (q : Nat) (v' : Value) (J' : Jm), q ≤ l.ws.length ∧ iv = .int .i64 q ∧ bv = v' ∧ Hid (Ext J w J' wq) ∧ Hid (Rw J' wq w.heap.size v' (P ++ wsT ((l.ws.take q).map Wi.q)))) (fun _ iv _ => l.ws.length - (intOf iv).toNat)
        case atStart => exact ⟨0, _, _, Nat.zero_le _, rfl, rfl, HE, Lib.hid (by simpa [wsT] using HO.out)⟩
        case round =>
          clear HO HE
          obtain ⟨q, v', J4, hq, rfl, rfl, HE, HO⟩ := hrel
          have q0 : (0 : Int) ≤ (q : Int) := by omega
          have hl2 := HL2.out
          obtain ⟨b9, o9, WA, wcp, hA9, c0, c1, c2, hw⟩ := (HV.out.mono (HE.out.le hI)).cell HE.out.inv hlt
          cases hA9
          rw [← HLK.out] at c0 c1 c2 hw
          by_cases hql : q < l.ws.length
          · have q1 : (q : Int) < l.ws.length := by omega
            obtain ⟨b', o', rfl, d0, d1, d2, d3, d4⟩ := wi_cell hw HE.out.inv hql
            have HWA := Lib.hid (totW_at l.ws q hql)
            have HWK := Lib.hid (totW_take l.ws (q + 1))
            have HWS := Lib.hid (wsT_take hql)
            have HWN := Lib.hid (wsT_len (l.ws.take q))
            obtain ⟨z, hz⟩ : ∃ z, z = l.ws[q] := ⟨_, rfl⟩
            rw [← hz] at HWA HWS d0 d1 d2 d3 d4
            have HZL := Lib.hid hz
            have HQL := Lib.hid hql
            obtain ⟨zq, hzq⟩ : ∃ zq, zq = z.quoted := ⟨_, rfl⟩
            obtain ⟨zm, hzm⟩ : ∃ zm, zm = z.mark := ⟨_, rfl⟩
            rw [← hzq] at d3
            rw [← hzm] at d4
            have HZT : Hid (wt z.q = if zm = true then z.text else if zq = true then quoteL z.text else showL z.text) := by rw [hzq, hzm]; rfl
            have HZQ := Lib.hid hzq
            have HZM := Lib.hid hzm
            clear hzq hzm hq hz hw
            have htz : z.text.length ≤ 1048576 := by have := HWA.out; have := HWK.out; have := HTA.out; have := HTK.out; have := HT.out; omega
            have HTZ := Lib.hid htz
            obtain ⟨pre, hpre⟩ : ∃ pre, pre = P ++ wsT ((l.ws.take q).map Wi.q) := ⟨_, rfl⟩
            rw [← hpre] at HO
            have HBN := Lib.hid (show pre.length ≤ 16777216 from by rw [hpre, List.length_append]; have := HPN.out; have := HWN.out; have := HWA.out; have := HWK.out; have := HTA.out; have := HTK.out; have := HT.out; omega)
            obtain ⟨P2, hP2⟩ : ∃ P2, P2 = pre ++ (if q = 0 then [] else [32]) := ⟨_, rfl⟩
            have HPN2 := Lib.hid (show P2.length ≤ 16777217 from by rw [hP2, List.length_append]; have := HBN.out; have := sp_len q; omega)
            have HP2 := Lib.hid hP2
            have HEQ : Hid (P ++ wsT ((l.ws.take (q + 1)).map Wi.q) = P2 ++ wt z.q) := by
              rw [Hid, HWS.out, hP2, hpre]
              by_cases hq0 : q = 0
              · subst hq0; simp [wsT]
              · rw [if_neg hq0, if_neg hq0]; simp
            clear hP2 htz hpre
            go_upto_if 32 with fail
            go_cut [3] (fun bv wx => ∃ J2, Hid (Ext J w J2 wx) ∧ Hid (Rw J2 wx w.heap.size bv P2))
            case first => as_aux_lemma =>
              by_cases hq0 : q = 0
              · subst hq0
                go_wp2_with fail
                go_meet
                case rel => exact ⟨_, HE, Lib.hid (by rw [HP2.out]; simpa using HO.out)⟩
              · have q2 : (0 : Int) < (q : Int) := by omega
                have hfl := HBN.out
                go_wp2_with (at_builtin; go_must (refine wpList_append_lit (J := J4) (s := .tmp 33) (x := .tmp 34) (t := 38) (e := 5) (base := w.heap.size) (v := u3) (n := pre.length) (xs := bcs pre) (m := 1) (news := bcs [32]) rfl (.int .u8 0) 1 1 rfl Try.underlying38 info_u8 rfl rfl (HE.out.inv.alloc _) (HO.out.alloc _) rfl (heap_alloc_new _ _) rfl (bcs_one _) (by simp only [maxLen]; omega) (by omega) (by have := HE.out.below.size; simp; omega) ?_; intro v5 w5 J5 ho5 hg5 hv5; have HE5 := Lib.hid ((HE.out.alloc _).grew (HO.out.alloc _) hg5); have HO5 := Lib.hid ho5; have HV5 := Lib.hid hv5; clear ho5 hg5 hv5))
                have HO := Lib.hid (Rw.lit HO5.out rfl rfl)
                have HE := HE5
                clear HO5 HE5 HV5
                go_wp2_with fail
                go_meet
                case rel => exact ⟨_, HE, Lib.hid (by rw [HP2.out, if_neg hq0]; exact HO.out)⟩
            case rest => as_aux_lemma =>
              clear HO HE c0 c1 c2 d0 d1 d2 d3 d4
              obtain ⟨J5, HE, HO⟩ := hcut
              obtain ⟨b9, o9, WA, wcp, hA9, c0, c1, c2, hw⟩ := (HV.out.mono (HE.out.le hI)).cell HE.out.inv hlt
              cases hA9
              rw [← HLK.out] at c0 c1 c2 hw
              obtain ⟨b', o', rfl, d0, d1, d2, d3, d4⟩ := wi_cell hw HE.out.inv HQL.out
              rw [← HZL.out] at d0 d1 d2 d3 d4
              rw [← HZQ.out] at d3
              rw [← HZM.out] at d4
              clear hw
              have hfl := HPN2.out
              have htz := HTZ.out
              go_upto_region 13 with fail
              have HE := Lib.hid (HE.out.alloc (.cells #[.string (strB z.text), .int .i64 z.line, .int .i64 z.col, .bool zq, .bool zm] 35))
              have HO := Lib.hid (HO.out.alloc (.cells #[.string (strB z.text), .int .i64 z.line, .int .i64 z.col, .bool zq, .bool zm] 35))
              have HBX := Lib.hid (heap_alloc_new wc (.cells #[.string (strB z.text), .int .i64 z.line, .int .i64 z.col, .bool zq, .bool zm] 35))
              have x0 := blk_cell_J HBX.out 0 rfl
              have x3 := blk_cell_J HBX.out 3 rfl
              have x4 := blk_cell_J HBX.out 4 rfl
              clear c0 c1 c2 d0 d1 d2 d3 d4
              have hzl := strB_size z.text
              generalize World.alloc wc _ = W at *
              cases zm with
              | true =>
                have HWZ : Hid (wt z.q = z.text) := HZT.out
                go_wp2_with (at_builtin; go_must (refine wpList_append_str (J := J5) (s := .tmp 46) (x := .tmp 48) (t := 38) (u := 9) (e := 5) (base := w.heap.size) (v := u3) (n := P2.length) (xs := bcs P2) rfl rfl Try.underlying38 Try.underlying9 info_u8 rfl HE.out.inv HO.out rfl (by rw [strB_size]; omega) (by have := HE.out.below.size; simp; omega) ?_; intro v6 w6 J6 ho6 hg6 hv6; have HE6 := Lib.hid ((HE.out).grew (HO.out) hg6); have HO6 := Lib.hid ho6; have HV6 := Lib.hid hv6; clear ho6 hg6 hv6))
                have HO := Lib.hid (Rw.str HO6.out rfl)
                have HE := HE6
                clear HO6 HE6 HV6
                go_wp2_with fail
                go_roundw
                case rel => exact ⟨q + 1, _, _, by omega, by go_num, rfl, HE, by rw [HEQ.out, HWZ.out]; exact HO⟩
                case measure => simp [intOf] <;> omega
              | false =>
                cases zq with
                | true =>
                  have HWZ : Hid (wt z.q = quoteL z.text) := HZT.out
                  go_wp2_with fail
                  refine (refQuoteC HE.out.inv z.text htz).mono ?_
                  rintro e w3 ⟨rfl, hb3⟩
                  have HO := Lib.hid (HO.out.ext (Ext.of_below HE.out.inv hb3))
                  have HE := Lib.hid (HE.out.step hb3)
                  clear hb3
                  have hql2 := quoteL_len z.text
                  go_wp2_with (at_builtin; go_must (refine wpList_append_str (J := J5) (s := .tmp 52) (x := .tmp 55) (t := 38) (u := 9) (e := 5) (base := w.heap.size) (v := u3) (n := P2.length) (xs := bcs P2) rfl rfl Try.underlying38 Try.underlying9 info_u8 rfl HE.out.inv HO.out rfl (by rw [strB_size]; omega) (by have := HE.out.below.size; simp; omega) ?_; intro v6 w6 J6 ho6 hg6 hv6; have HE6 := Lib.hid ((HE.out).grew (HO.out) hg6); have HO6 := Lib.hid ho6; have HV6 := Lib.hid hv6; clear ho6 hg6 hv6))
                  have HO := Lib.hid (Rw.str HO6.out rfl)
                  have HE := HE6
                  clear HO6 HE6 HV6
                  go_wp2_with fail
                  go_roundw
                  case rel => exact ⟨q + 1, _, _, by omega, by go_num, rfl, HE, by rw [HEQ.out, HWZ.out]; exact HO⟩
                  case measure => simp [intOf] <;> omega
                | false =>
                  have HWZ : Hid (wt z.q = showL z.text) := HZT.out
                  go_wp2_with fail
                  refine (refShowC HE.out.inv z.text htz).mono ?_
                  rintro e w3 ⟨rfl, hb3⟩
                  have HO := Lib.hid (HO.out.ext (Ext.of_below HE.out.inv hb3))
                  have HE := Lib.hid (HE.out.step hb3)
                  clear hb3
                  have hql2 := showL_len z.text
                  go_wp2_with (at_builtin; go_must (refine wpList_append_str (J := J5) (s := .tmp 57) (x := .tmp 60) (t := 38) (u := 9) (e := 5) (base := w.heap.size) (v := u3) (n := P2.length) (xs := bcs P2) rfl rfl Try.underlying38 Try.underlying9 info_u8 rfl HE.out.inv HO.out rfl (by rw [strB_size]; omega) (by have := HE.out.below.size; simp; omega) ?_; intro v6 w6 J6 ho6 hg6 hv6; have HE6 := Lib.hid ((HE.out).grew (HO.out) hg6); have HO6 := Lib.hid ho6; have HV6 := Lib.hid hv6; clear ho6 hg6 hv6))
                  have HO := Lib.hid (Rw.str HO6.out rfl)
                  have HE := HE6
                  clear HO6 HE6 HV6
                  go_wp2_with fail
                  go_roundw
                  case rel => exact ⟨q + 1, _, _, by omega, by go_num, rfl, HE, by rw [HEQ.out, HWZ.out]; exact HO⟩
                  case measure => simp [intOf] <;> omega
          · obtain rfl : q = l.ws.length := by omega
            have q1 : ¬ (l.ws.length : Int) < l.ws.length := by omega
            have hb := HO.out
            rw [List.take_of_length_le (Nat.le_refl _)] at hb
            have HWN := Lib.hid (wsT_len l.ws)
            obtain ⟨pre, hpre⟩ : ∃ pre, pre = P ++ wsT (l.ws.map Wi.q) := ⟨_, rfl⟩
            rw [← hpre] at hb
            have HO := Lib.hid hb
            clear hb
            have hfl : pre.length ≤ 16777216 := by rw [hpre, List.length_append]; have := HPN.out; have := HWN.out; have := HTA.out; have := HTK.out; have := HT.out; omega
            have HEQ : Hid (writeL ((A.take (k + 1)).map Li.q) = pre ++ [10]) := by
              rw [Hid, HWT.out, HLQ.out, hpre, HP.out]; simp
            clear hpre
            go_wp2_with (at_builtin; go_must (refine wpList_append_lit (J := J4) (s := .tmp 62) (x := .tmp 63) (t := 38) (e := 5) (base := w.heap.size) (v := u3) (n := pre.length) (xs := bcs pre) (m := 1) (news := bcs [10]) rfl (.int .u8 0) 1 1 rfl Try.underlying38 info_u8 rfl rfl (HE.out.inv.alloc _) (HO.out.alloc _) rfl (heap_alloc_new _ _) rfl (bcs_one _) (by simp only [maxLen]; omega) (by omega) (by have := HE.out.below.size; simp; omega) ?_; intro v5 w5 J5 ho5 hg5 hv5; have HE5 := Lib.hid ((HE.out.alloc _).grew (HO.out.alloc _) hg5); have HO5 := Lib.hid ho5; have HV5 := Lib.hid hv5; clear ho5 hg5 hv5))
            have HO := Lib.hid (Rw.lit HO5.out rfl rfl)
            have HE := HE5
            clear HO5 HE5 HV5
            go_wp2_with fail
            go_roundw
            case rel => exact ⟨k + 1, _, _, by omega, by go_num, rfl, HE, by rw [HEQ.out]; exact HO⟩
            case measure => simp [intOf] <;> omega
    · obtain rfl : k = A.length := by omega
      have i1 : ¬ (A.length : Int) < A.length := by omega
      have hb := HO.out
      rw [List.take_of_length_le (Nat.le_refl _)] at hb
      have kc := (Own.bs hb).string (P := Try.prog) HE.out.inv 38 9 5 Try.underlying38 Try.underlying5 Try.underlying9
      go_wp2_with fail
      go_ret
      exact ⟨rfl, HE.out.below⟩
end Go.Proofs.Ythfjeijhnikabaa
