/- The walk of Write. -/
import Derived.Test.YthfjeijhnikabaaLexWq
import Derived.Test.YthfjeijhnikabaaLexBldK
import Derived.Test.YthfjeijhnikabaaLexQuw
import Derived.Deep.CutBlock
import Derived.Deep.DeepCutAuto
namespace Go.Proofs.Ythfjeijhnikabaa
open Go.RowKit
set_option linter.unusedVariables false

theorem tab_len (b : Bool) : (if b = true then [(9 : UInt8)] else []).length ≤ 1 := by split <;> simp
theorem sp_len (q : Nat) : (if q = 0 then [] else [(32 : UInt8)]).length ≤ 1 := by split <;> simp
theorem showL_len (s : List UInt8) : (showL s).length ≤ 2 * s.length + 2 := by
  unfold showL; split
  · omega
  · exact quoteL_len _
set_option maxRecDepth 100000 in
set_option maxHeartbeats 8000000 in
theorem write_calls {J : Jm} {w : World} (hI : Inv J w) {v : Value} {A : List Li} (hv : Lni J v A) (hA : A.length ≤ 1048576) (ht : tot A ≤ 1048576) :
    Calls Try.prog 24 #[v] w fun e w' => e = .returned (.string (strB (writeL (A.map Li.q)))) ∧ Below w.heap.size w w' := by
  obtain ⟨Aa, ca, rfl, hn, hm⟩ := hv.form
  have HV := Lib.hid hv
  have HT := Lib.hid ht
  clear hv hm ht
  go_enter Try.func24, Try.ntmps24
  go_wp2_with fail
  go_loopw [10] (fun iv wr => ∃ k : Nat, k ≤ A.length ∧ iv = .int .i64 k ∧ Hid (Below w.heap.size w wr) ∧ Hid (IsB w.heap.size w.heap.size (writeL ((A.take k).map Li.q)) wr)) (fun iv _ => A.length - (intOf iv).toNat)
  case atStart => exact ⟨0, Nat.zero_le _, rfl, (Below.refl _ _).alloc (Nat.le_refl _) _, IsB.new⟩
  case round =>
    obtain ⟨k, hk, rfl, HW, HB⟩ := hrel
    have i0 : (0 : Int) ≤ (k : Int) := by omega
    by_cases hlt : k < A.length
    · have i1 : (k : Int) < A.length := by omega
      obtain ⟨b, o, WA, wc, rfl, c0, c1, c2, hw⟩ := HV.out.cell (hI.below HW.out) hlt
      have HTA := Lib.hid (tot_at A k hlt)
      have HTK := Lib.hid (tot_take A (k + 1))
      have HWT := Lib.hid (writeL_take hlt)
      have HWL := Lib.hid (writeL_len (A.take k))
      have HLT := Lib.hid (show (A.take k).length = k by rw [List.length_take]; omega)
      have HLQ : Hid (lnT (A[k].q) = (if A[k].ind = true then [9] else []) ++ wsT (A[k].ws.map Wi.q) ++ [10]) := rfl
      have hwl := totW_len A[k].ws
      have hwl2 : A[k].ws.length ≤ 1048576 := by have := HTA.out; have := HTK.out; have := HT.out; omega
      generalize A[k] = l at *
      have HS := Lib.hid hw
      have HL2 := Lib.hid hwl2
      clear hw hwl hwl2 hk
      obtain ⟨lind, hlind⟩ : ∃ lind, lind = l.ind := ⟨_, rfl⟩
      rw [← hlind] at c1 HLQ
      clear hlind
      have HX : Hid (IsB w.heap.size w.heap.size (writeL ((A.take k).map Li.q)) (wr.alloc (.cells #[.int .i64 l.num, .bool lind, .slice WA l.ws.length wc] 33))) := HB.out.kept ((Below.refl _ _).alloc (Nat.le_refl _) _)
      have HWX := Lib.hid (HW.out.alloc HW.out.size (.cells #[.int .i64 l.num, .bool lind, .slice WA l.ws.length wc] 33))
      have HBX := Lib.hid (heap_alloc_new wr (.cells #[.int .i64 l.num, .bool lind, .slice WA l.ws.length wc] 33))
      have HB := HX
      clear HX
      obtain ⟨P, hP⟩ : ∃ P, P = writeL ((A.take k).map Li.q) ++ (if lind = true then [9] else []) := ⟨_, rfl⟩
      have HBN := Lib.hid (show (writeL ((A.take k).map Li.q)).length ≤ 8388608 from by have := HWL.out; have := HLT.out; have := HTA.out; have := HTK.out; have := HT.out; omega)
      have HPN := Lib.hid (show P.length ≤ 8388609 from by rw [hP, List.length_append]; have := HBN.out; have := tab_len lind; omega)
      have HP := Lib.hid hP
      clear hP
      go_upto_if 15 with fail
      go_cut [5] (fun pv wx => ∃ xb : Nat, pv = .pointer (some ⟨xb, 0, none⟩) ∧ Hid (wx.heap[xb]? = some (.cells [.int .i64 l.num, .bool lind, .slice WA l.ws.length wc].toArray 33 (0, 0))) ∧ Hid (Below w.heap.size w wx) ∧ Hid (IsB w.heap.size w.heap.size P wx))
      case first => as_aux_lemma =>
        have HW := HWX
        clear HWX
        cases lind with
        | true =>
          go_wp2_with fail
          refine (writeByteK 9 rfl HB.out (by have := HBN.out; omega) HW.out.size).mono ?_
          rintro e w2 ⟨rfl, hB, hbel, hky⟩
          have HB := Lib.hid hB
          have HW := Lib.hid (HW.out.trans hbel)
          have HKY := Lib.hid hky
          clear hB hbel hky
          go_wp2_with fail
          go_meet
          case rel => exact ⟨_, rfl, HKY.out _ _ _ _ HBX.out (by decide) (by decide), HW.out, by rw [HP.out]; exact HB.out⟩
        | false =>
          go_wp2_with fail
          go_meet
          case rel => exact ⟨_, rfl, HBX.out, HW.out, Lib.hid (by rw [HP.out]; simpa using HB.out)⟩
      case rest => as_aux_lemma =>
        clear HB HW HWX HBX c0 c1 c2
        obtain ⟨xb, rfl, HBX, HW, HB⟩ := hcut
        have x2 := blk_cell_J HBX.out 2 rfl
        go_wp2_with fail
        clear x2
        go_loopw [20] (fun iv wq => ∃ q : Nat, q ≤ l.ws.length ∧ iv = .int .i64 q ∧ Hid (Below w.heap.size w wq) ∧ Hid (IsB w.heap.size w.heap.size (P ++ wsT ((l.ws.take q).map Wi.q)) wq)) (fun iv _ => l.ws.length - (intOf iv).toNat)
        case atStart => exact ⟨0, Nat.zero_le _, rfl, HW.out, Lib.hid (by simpa [wsT] using HB.out)⟩
        case round =>
          clear HB HW HBX
          obtain ⟨q, hq, rfl, HW, HB⟩ := hrel
          have q0 : (0 : Int) ≤ (q : Int) := by omega
          have hl2 := HL2.out
          by_cases hql : q < l.ws.length
          · have q1 : (q : Int) < l.ws.length := by omega
            obtain ⟨b', o', rfl, d0, d1, d2, d3, d4⟩ := wi_cell HS.out (hI.below HW.out) hql
            have HWA := Lib.hid (totW_at l.ws q hql)
            have HWK := Lib.hid (totW_take l.ws (q + 1))
            have HWS := Lib.hid (wsT_take hql)
            have HWN := Lib.hid (wsT_len (l.ws.take q))
            generalize l.ws[q] = z at *
            obtain ⟨zq, hzq⟩ : ∃ zq, zq = z.quoted := ⟨_, rfl⟩
            obtain ⟨zm, hzm⟩ : ∃ zm, zm = z.mark := ⟨_, rfl⟩
            rw [← hzq] at d3
            rw [← hzm] at d4
            have HZT : Hid (wt z.q = if zm = true then z.text else if zq = true then quoteL z.text else showL z.text) := by rw [hzq, hzm]; rfl
            clear hzq hzm hq
            have htz : z.text.length ≤ 1048576 := by have := HWA.out; have := HWK.out; have := HTA.out; have := HTK.out; have := HT.out; omega
            have HTZ := Lib.hid htz
            have HBN := Lib.hid (show (P ++ wsT ((l.ws.take q).map Wi.q)).length ≤ 16777216 from by rw [List.length_append]; have := HPN.out; have := HWN.out; have := HWA.out; have := HWK.out; have := HTA.out; have := HTK.out; have := HT.out; omega)
            have HB : Hid (IsB w.heap.size w.heap.size (P ++ wsT ((l.ws.take q).map Wi.q)) (wr.alloc (.cells #[.string (strB z.text), .int .i64 z.line, .int .i64 z.col, .bool zq, .bool zm] 35))) := HB.out.kept ((Below.refl _ _).alloc (Nat.le_refl _) _)
            have HW := Lib.hid (HW.out.alloc HW.out.size (.cells #[.string (strB z.text), .int .i64 z.line, .int .i64 z.col, .bool zq, .bool zm] 35))
            have HBX := Lib.hid (heap_alloc_new wr (.cells #[.string (strB z.text), .int .i64 z.line, .int .i64 z.col, .bool zq, .bool zm] 35))
            obtain ⟨P2, hP2⟩ : ∃ P2, P2 = (P ++ wsT ((l.ws.take q).map Wi.q)) ++ (if q = 0 then [] else [32]) := ⟨_, rfl⟩
            have HPN2 := Lib.hid (show P2.length ≤ 16777217 from by rw [hP2, List.length_append]; have := HBN.out; have := sp_len q; omega)
            have HP2 := Lib.hid hP2
            clear hP2 htz
            go_upto_if 26 with fail
            go_cut [6, 7] (fun iv pv wx => iv = .int .i64 q ∧ ∃ xb : Nat, pv = .pointer (some ⟨xb, 0, none⟩) ∧ Hid (wx.heap[xb]? = some (.cells [.string (strB z.text), .int .i64 z.line, .int .i64 z.col, .bool zq, .bool zm].toArray 35 (0, 0))) ∧ Hid (Below w.heap.size w wx) ∧ Hid (IsB w.heap.size w.heap.size P2 wx))
            case first => as_aux_lemma =>
              by_cases hq0 : q = 0
              · subst hq0
                go_wp2_with fail
                go_meet
                case rel => exact ⟨rfl, _, rfl, HBX.out, HW.out, Lib.hid (by rw [HP2.out]; simpa using HB.out)⟩
              · have q2 : (0 : Int) < (q : Int) := by omega
                go_wp2_with fail
                refine (writeByteK 32 rfl HB.out (by have := HBN.out; omega) HW.out.size).mono ?_
                rintro e w2 ⟨rfl, hB, hbel, hky⟩
                have HB := Lib.hid hB
                have HW := Lib.hid (HW.out.trans hbel)
                have HKY := Lib.hid hky
                clear hB hbel hky
                go_wp2_with fail
                go_meet
                case rel => exact ⟨rfl, _, rfl, HKY.out _ _ _ _ HBX.out (by decide) (by decide), HW.out, by rw [HP2.out, if_neg hq0]; exact HB.out⟩
            case rest => as_aux_lemma =>
              clear HB HW HBX d0 d1 d2 d3 d4
              obtain ⟨rfl, xb, rfl, HBX, HW, HB⟩ := hcut
              have x0 := blk_cell_J HBX.out 0 rfl
              have x3 := blk_cell_J HBX.out 3 rfl
              have x4 := blk_cell_J HBX.out 4 rfl
              have HBN := HPN2
              have HEQ : Hid (P ++ wsT ((l.ws.take (q + 1)).map Wi.q) = P2 ++ wt z.q) := by
                rw [Hid, HWS.out, HP2.out]
                by_cases hq0 : q = 0
                · subst hq0; simp [wsT]
                · rw [if_neg hq0, if_neg hq0]; simp
              cases zm with
              | true =>
                have HWZ : Hid (wt z.q = z.text) := HZT.out
                have htz := HTZ.out
                go_wp2_with fail
                refine (writeStringK z.text _ rfl HB.out (by have := HBN.out; omega) HW.out.size).mono ?_
                rintro e w2 ⟨rfl, hB, hbel, hky⟩
                have HB := Lib.hid hB
                have HW := Lib.hid (HW.out.trans hbel)
                have HKY := Lib.hid hky
                clear hB hbel hky
                go_wp2_with fail
                go_roundw
                case rel => exact ⟨q + 1, by omega, by go_num, HW, by rw [HEQ.out, HWZ.out]; exact HB⟩
                case measure => simp [intOf] <;> omega
              | false =>
                cases zq with
                | true =>
                  have HWZ : Hid (wt z.q = quoteL z.text) := HZT.out
                  go_wp2_with fail
                  refine (quoteC z.text _ HTZ.out).mono ?_
                  rintro e w3 ⟨rfl, hb3⟩
                  have HB := Lib.hid (HB.out.kept hb3)
                  have HW := Lib.hid (HW.out.trans (hb3.mono HW.out.size))
                  clear hb3
                  have hql2 := quoteL_len z.text
                  have htz := HTZ.out
                  go_wp2_with fail
                  refine (writeStringK (quoteL z.text) _ rfl HB.out (by have := HBN.out; omega) HW.out.size).mono ?_
                  rintro e w2 ⟨rfl, hB, hbel, hky⟩
                  have HB := Lib.hid hB
                  have HW := Lib.hid (HW.out.trans hbel)
                  have HKY := Lib.hid hky
                  clear hB hbel hky
                  go_wp2_with fail
                  go_roundw
                  case rel => exact ⟨q + 1, by omega, by go_num, HW, by rw [HEQ.out, HWZ.out]; exact HB⟩
                  case measure => simp [intOf] <;> omega
                | false =>
                  have HWZ : Hid (wt z.q = showL z.text) := HZT.out
                  go_wp2_with fail
                  refine (show_calls z.text _ HTZ.out).mono ?_
                  rintro e w3 ⟨rfl, hb3⟩
                  have HB := Lib.hid (HB.out.kept hb3)
                  have HW := Lib.hid (HW.out.trans (hb3.mono HW.out.size))
                  clear hb3
                  have hql2 := showL_len z.text
                  have htz := HTZ.out
                  go_wp2_with fail
                  refine (writeStringK (showL z.text) _ rfl HB.out (by have := HBN.out; omega) HW.out.size).mono ?_
                  rintro e w2 ⟨rfl, hB, hbel, hky⟩
                  have HB := Lib.hid hB
                  have HW := Lib.hid (HW.out.trans hbel)
                  have HKY := Lib.hid hky
                  clear hB hbel hky
                  go_wp2_with fail
                  go_roundw
                  case rel => exact ⟨q + 1, by omega, by go_num, HW, by rw [HEQ.out, HWZ.out]; exact HB⟩
                  case measure => simp [intOf] <;> omega
          · obtain rfl : q = l.ws.length := by omega
            have q1 : ¬ (l.ws.length : Int) < l.ws.length := by omega
            have hb := HB.out
            rw [List.take_of_length_le (Nat.le_refl _)] at hb
            have HB := Lib.hid hb
            clear hb
            have HWN := Lib.hid (wsT_len l.ws)
            have HBN := Lib.hid (show (P ++ wsT (l.ws.map Wi.q)).length ≤ 16777216 from by rw [List.length_append]; have := HPN.out; have := HWN.out; have := HTA.out; have := HTK.out; have := HT.out; omega)
            have HEQ : Hid (writeL ((A.take (k + 1)).map Li.q) = P ++ wsT (l.ws.map Wi.q) ++ [10]) := by
              rw [Hid, HWT.out, HLQ.out, HP.out]; simp
            go_wp2_with fail
            refine (writeByteK 10 rfl HB.out (by have := HBN.out; omega) HW.out.size).mono ?_
            rintro e w2 ⟨rfl, hB, hbel, hky⟩
            have HB := Lib.hid hB
            have HW := Lib.hid (HW.out.trans hbel)
            have HKY := Lib.hid hky
            clear hB hbel hky
            go_wp2_with fail
            go_roundw
            case rel => exact ⟨k + 1, by omega, by go_num, HW, by rw [HEQ.out]; exact HB⟩
            case measure => simp [intOf] <;> omega
    · obtain rfl : k = A.length := by omega
      have i1 : ¬ (A.length : Int) < A.length := by omega
      have hb := HB.out
      rw [List.take_of_length_le (Nat.le_refl _)] at hb
      go_wp2_with fail
      refine (builderString_calls hb HW.out.size).mono ?_
      rintro e w2 ⟨rfl, hbel⟩
      go_wp2_with fail
      go_ret
      exact ⟨rfl, HW.out.trans hbel⟩
end Go.Proofs.Ythfjeijhnikabaa
