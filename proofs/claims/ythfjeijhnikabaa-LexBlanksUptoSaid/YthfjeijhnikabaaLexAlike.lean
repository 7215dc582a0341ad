/- The walk of alike. -/
import Derived.Test.YthfjeijhnikabaaLexSame
import Derived.Test.YthfjeijhnikabaaLexLst
import Derived.Deep.RegionHeld3
import Derived.BigQuiet
namespace Go.Proofs.Ythfjeijhnikabaa
open Go.RowKit

theorem ne_words {A B : List Ln} {j q : Nat} {x y : Ln} {s1 s2 : Wd} (hx : A[j]? = some x) (hy : B[j]? = some y) (h1 : x.ws[q]? = some s1) (h2 : y.ws[q]? = some s2) (hn : ¬ wst s1 = wst s2) : A.map lst ≠ B.map lst := by
  intro e
  have k1 : (A.map lst)[j]? = some (lst x) := by rw [List.getElem?_map, hx]; rfl
  rw [e, List.getElem?_map, hy] at k1
  have k2 : lst y = lst x := Option.some.inj k1
  have k3 : (x.ws.map wst)[q]? = some (wst s1) := by rw [List.getElem?_map, h1]; rfl
  have k4 : y.ws.map wst = x.ws.map wst := congrArg Prod.snd k2
  rw [← k4, List.getElem?_map, h2] at k3
  exact hn (Option.some.inj k3).symm
set_option maxRecDepth 100000 in
set_option maxHeartbeats 8000000 in
theorem alike_calls {J : Jm} {w : World} (hI : Inv J w) {v u : Value} {A B : List Ln} (ha : Lns J v A) (hb : Lns J u B) (hA : A.length ≤ 1048576) (hWA : ∀ l ∈ A, l.ws.length ≤ 1048576) :
    Calls Try.prog 17 #[v, u] w fun e w' => e = .returned (.bool (decide (A.map lst = B.map lst))) ∧ Below w.heap.size w w' := by
  obtain ⟨Aa, ca, rfl, hn, hm⟩ := id ha.form
  obtain ⟨Ab, cb, rfl, hn', hm'⟩ := id hb.form
  have hcmp := wd_neq
  have HA := Lib.hid ha
  have HB := Lib.hid hb
  clear ha hb
  unfold maxLen at hm hm'
  go_enter Try.func17, Try.ntmps17
  by_cases hlen : A.length = B.length
  · go_wp2_with fail
    go_loopw [5] (fun i wr => ∃ j : Nat, j ≤ A.length ∧ i = .int .i64 j ∧ Hid ((A.take j).map lst = (B.take j).map lst) ∧ Hid (Below w.heap.size w wr)) (fun i _ => A.length - (intOf i).toNat)
    case atStart => exact ⟨0, Nat.zero_le _, rfl, rfl, Below.refl _ _⟩
    case round =>
      obtain ⟨j, hj, rfl, HT, HBL⟩ := hrel
      by_cases hlt : j < A.length
      · have HI := Lib.hid (hI.below HBL.out)
        have hltb : j < B.length := by omega
        obtain ⟨b1, o1, wa, rfl, a0, a1, a2, hwa⟩ := HA.out.cell HI.out hlt
        obtain ⟨b2, o2, wb, rfl, d0, d1, d2, hwb⟩ := HB.out.cell HI.out hltb
        have HWL := Lib.hid (hWA A[j] (List.getElem_mem hlt))
        have HTX := Lib.hid (show A.take (j + 1) = A.take j ++ [A[j]] from List.take_succ_eq_append_getElem hlt)
        have HTY := Lib.hid (show B.take (j + 1) = B.take j ++ [B[j]] from List.take_succ_eq_append_getElem hltb)
        have HGX := Lib.hid (show A[j]? = some A[j] from List.getElem?_eq_getElem hlt)
        have HGY := Lib.hid (show B[j]? = some B[j] from List.getElem?_eq_getElem hltb)
        generalize A[j] = x at *
        generalize B[j] = y at *
        have i0 : (0 : Int) ≤ (j : Int) := by omega
        have i1 : (j : Int) < A.length := by omega
        have i2 : (j : Int) < B.length := by omega
        obtain ⟨WA, wca, rfl, -, -⟩ := id hwa.form
        obtain ⟨WB, wcb, rfl, -, -⟩ := id hwb.form
        by_cases hind : x.ind = y.ind
        · by_cases hl2 : x.ws.length = y.ws.length
          · rw [← hind] at d1
            rw [← hl2] at d2 hwb
            have HXY : Hid (x.ws.map wst = y.ws.map wst → lst x = lst y) := fun e => by unfold lst; rw [hind, e]
            have HL2 := Lib.hid hl2
            clear hind hl2
            generalize x.ind = xi at *
            go_wp2_with fail
            go_big_quiet (fail)
            have HBL := Lib.hid (Below.drewsL HBL.out nq)
            have HI := Lib.hid (HI.out.drewN nq)
            have a2' : (wr.drewN nq).cell? ⟨b1, o1 + j * 3 + 2, none⟩ = some (.slice WA x.ws.length wca) := a2
            have d2' : (wr.drewN nq).cell? ⟨b2, o2 + j * 3 + 2, none⟩ = some (.slice WB x.ws.length wcb) := d2
            clear a0 a1 a2 d0 d1 d2
            generalize wr.drewN nq = wr at *
            go_wp2_with fail
            go_loopw [6] (fun k wq => ∃ q : Nat, q ≤ x.ws.length ∧ k = .int .i64 q ∧ Hid ((x.ws.take q).map wst = (y.ws.take q).map wst) ∧ Hid (Below wr.heap.size wr wq)) (fun k _ => x.ws.length - (intOf k).toNat)
            case atStart => exact ⟨0, Nat.zero_le _, rfl, rfl, Below.refl _ _⟩
            case round =>
              obtain ⟨q, hq, rfl, HTQ, HBL2⟩ := hrel
              have HI2 := Lib.hid (HI.out.below HBL2.out)
              have hwl := HWL.out
              have p2 := (HBL2.out.cell (p := ⟨b1, o1 + j * 3 + 2, none⟩) (lt_of_cell a2')).trans a2'
              have r2 := (HBL2.out.cell (p := ⟨b2, o2 + j * 3 + 2, none⟩) (lt_of_cell d2')).trans d2'
              by_cases hql : q < x.ws.length
              · have hqy : q < y.ws.length := by have := HL2.out; omega
                obtain ⟨b3, o3, rfl, m0, m1, m2, m3, m4⟩ := ws_cell hwa HI2.out hql
                rw [HL2.out] at hwb
                obtain ⟨b4, o4, rfl, n0, n1, n2, n3, n4⟩ := ws_cell hwb HI2.out hqy
                have HTX2 := Lib.hid (show x.ws.take (q + 1) = x.ws.take q ++ [x.ws[q]] from List.take_succ_eq_append_getElem hql)
                have HTY2 := Lib.hid (show y.ws.take (q + 1) = y.ws.take q ++ [y.ws[q]] from List.take_succ_eq_append_getElem hqy)
                have HGX2 := Lib.hid (show x.ws[q]? = some x.ws[q] from List.getElem?_eq_getElem hql)
                have HGY2 := Lib.hid (show y.ws[q]? = some y.ws[q] from List.getElem?_eq_getElem hqy)
                generalize x.ws[q] = s1 at *
                generalize y.ws[q] = s2 at *
                have k0 : (0 : Int) ≤ (q : Int) := by omega
                have k1 : (q : Int) < x.ws.length := by omega
                clear hcmp hlen
                by_cases ht : s1.text = s2.text
                · by_cases hqd : s1.quoted = s2.quoted
                  · by_cases hmk : s1.mark = s2.mark
                    · have HT3 : Hid ((x.ws.take (q + 1)).map wst = (y.ws.take (q + 1)).map wst) := by
                        rw [Hid, HTX2.out, HTY2.out, List.map_append, List.map_append, HTQ.out]
                        congr 1
                        show [wst s1] = [wst s2]
                        unfold wst; rw [ht, hqd, hmk]
                      go_wp2_with fail
                      go_region_held3 (fun w' => w'.cell? ⟨b1, o1 + j * 3 + 2, none⟩ = some (.slice (some ⟨b3, o3, none⟩) x.ws.length wca) ∧ w'.cell? ⟨b2, o2 + j * 3 + 2, none⟩ = some (.slice (some ⟨b4, o4, none⟩) x.ws.length wcb) ∧
                        w'.cell? ⟨b3, o3 + q * 5, none⟩ = some (.string (strB s1.text)) ∧ w'.cell? ⟨b3, o3 + q * 5 + 1, none⟩ = some (.int .i64 (s1.line : Int)) ∧ w'.cell? ⟨b3, o3 + q * 5 + 2, none⟩ = some (.int .i64 (s1.col : Int)) ∧ w'.cell? ⟨b3, o3 + q * 5 + 3, none⟩ = some (.bool s1.quoted) ∧ w'.cell? ⟨b3, o3 + q * 5 + 4, none⟩ = some (.bool s1.mark) ∧
                        w'.cell? ⟨b4, o4 + q * 5, none⟩ = some (.string (strB s2.text)) ∧ w'.cell? ⟨b4, o4 + q * 5 + 1, none⟩ = some (.int .i64 (s2.line : Int)) ∧ w'.cell? ⟨b4, o4 + q * 5 + 2, none⟩ = some (.int .i64 (s2.col : Int)) ∧ w'.cell? ⟨b4, o4 + q * 5 + 3, none⟩ = some (.bool s2.quoted) ∧ w'.cell? ⟨b4, o4 + q * 5 + 4, none⟩ = some (.bool s2.mark))
                        (first | go_keep)
                        ((fail))
                      · go_wp2_with fail
                        go_roundw
                        case rel => exact ⟨q + 1, by omega, by go_num, HT3, ((HBL2.out.alloc HBL2.out.size _).alloc (by simp; have := HBL2.out.size; omega) _).drew⟩
                        case measure => simp [intOf] <;> omega
                      · go_wp2_with fail
                        go_roundw
                        case rel => exact ⟨q + 1, by omega, by go_num, HT3, ((HBL2.out.alloc HBL2.out.size _).alloc (by simp; have := HBL2.out.size; omega) _).drew⟩
                        case measure => simp [intOf] <;> omega
                    · have HN : Hid (A.map lst ≠ B.map lst) := ne_words HGX.out HGY.out HGX2.out HGY2.out (fun e => hmk (congrArg (fun z => z.2.2) e))
                      rcases bool_ne hmk with ⟨h1, h2⟩ | ⟨h1, h2⟩
                      ·
                        go_wp2_with fail
                        go_region_held3 (fun w' => w'.cell? ⟨b1, o1 + j * 3 + 2, none⟩ = some (.slice (some ⟨b3, o3, none⟩) x.ws.length wca) ∧ w'.cell? ⟨b2, o2 + j * 3 + 2, none⟩ = some (.slice (some ⟨b4, o4, none⟩) x.ws.length wcb) ∧
                          w'.cell? ⟨b3, o3 + q * 5, none⟩ = some (.string (strB s1.text)) ∧ w'.cell? ⟨b3, o3 + q * 5 + 1, none⟩ = some (.int .i64 (s1.line : Int)) ∧ w'.cell? ⟨b3, o3 + q * 5 + 2, none⟩ = some (.int .i64 (s1.col : Int)) ∧ w'.cell? ⟨b3, o3 + q * 5 + 3, none⟩ = some (.bool s1.quoted) ∧ w'.cell? ⟨b3, o3 + q * 5 + 4, none⟩ = some (.bool s1.mark) ∧
                          w'.cell? ⟨b4, o4 + q * 5, none⟩ = some (.string (strB s2.text)) ∧ w'.cell? ⟨b4, o4 + q * 5 + 1, none⟩ = some (.int .i64 (s2.line : Int)) ∧ w'.cell? ⟨b4, o4 + q * 5 + 2, none⟩ = some (.int .i64 (s2.col : Int)) ∧ w'.cell? ⟨b4, o4 + q * 5 + 3, none⟩ = some (.bool s2.quoted) ∧ w'.cell? ⟨b4, o4 + q * 5 + 4, none⟩ = some (.bool s2.mark))
                          (first | go_keep)
                          ((fail))
                        all_goals (go_wp2_with fail)
                        all_goals (go_ret; exact ⟨by rw [decide_eq_false HN.out]; rfl, HBL.out.trans ((((HBL2.out.alloc HBL2.out.size _).alloc (by simp; have := HBL2.out.size; omega) _).drew).mono HBL.out.size)⟩)
                      ·
                        go_wp2_with fail
                        go_region_held3 (fun w' => w'.cell? ⟨b1, o1 + j * 3 + 2, none⟩ = some (.slice (some ⟨b3, o3, none⟩) x.ws.length wca) ∧ w'.cell? ⟨b2, o2 + j * 3 + 2, none⟩ = some (.slice (some ⟨b4, o4, none⟩) x.ws.length wcb) ∧
                          w'.cell? ⟨b3, o3 + q * 5, none⟩ = some (.string (strB s1.text)) ∧ w'.cell? ⟨b3, o3 + q * 5 + 1, none⟩ = some (.int .i64 (s1.line : Int)) ∧ w'.cell? ⟨b3, o3 + q * 5 + 2, none⟩ = some (.int .i64 (s1.col : Int)) ∧ w'.cell? ⟨b3, o3 + q * 5 + 3, none⟩ = some (.bool s1.quoted) ∧ w'.cell? ⟨b3, o3 + q * 5 + 4, none⟩ = some (.bool s1.mark) ∧
                          w'.cell? ⟨b4, o4 + q * 5, none⟩ = some (.string (strB s2.text)) ∧ w'.cell? ⟨b4, o4 + q * 5 + 1, none⟩ = some (.int .i64 (s2.line : Int)) ∧ w'.cell? ⟨b4, o4 + q * 5 + 2, none⟩ = some (.int .i64 (s2.col : Int)) ∧ w'.cell? ⟨b4, o4 + q * 5 + 3, none⟩ = some (.bool s2.quoted) ∧ w'.cell? ⟨b4, o4 + q * 5 + 4, none⟩ = some (.bool s2.mark))
                          (first | go_keep)
                          ((fail))
                        all_goals (go_wp2_with fail)
                        all_goals (go_ret; exact ⟨by rw [decide_eq_false HN.out]; rfl, HBL.out.trans ((((HBL2.out.alloc HBL2.out.size _).alloc (by simp; have := HBL2.out.size; omega) _).drew).mono HBL.out.size)⟩)
                  · have HN : Hid (A.map lst ≠ B.map lst) := ne_words HGX.out HGY.out HGX2.out HGY2.out (fun e => hqd (congrArg (fun z => z.2.1) e))
                    rcases bool_ne hqd with ⟨h1, h2⟩ | ⟨h1, h2⟩
                    ·
                      go_wp2_with fail
                      go_region_held3 (fun w' => w'.cell? ⟨b1, o1 + j * 3 + 2, none⟩ = some (.slice (some ⟨b3, o3, none⟩) x.ws.length wca) ∧ w'.cell? ⟨b2, o2 + j * 3 + 2, none⟩ = some (.slice (some ⟨b4, o4, none⟩) x.ws.length wcb) ∧
                        w'.cell? ⟨b3, o3 + q * 5, none⟩ = some (.string (strB s1.text)) ∧ w'.cell? ⟨b3, o3 + q * 5 + 1, none⟩ = some (.int .i64 (s1.line : Int)) ∧ w'.cell? ⟨b3, o3 + q * 5 + 2, none⟩ = some (.int .i64 (s1.col : Int)) ∧ w'.cell? ⟨b3, o3 + q * 5 + 3, none⟩ = some (.bool s1.quoted) ∧ w'.cell? ⟨b3, o3 + q * 5 + 4, none⟩ = some (.bool s1.mark) ∧
                        w'.cell? ⟨b4, o4 + q * 5, none⟩ = some (.string (strB s2.text)) ∧ w'.cell? ⟨b4, o4 + q * 5 + 1, none⟩ = some (.int .i64 (s2.line : Int)) ∧ w'.cell? ⟨b4, o4 + q * 5 + 2, none⟩ = some (.int .i64 (s2.col : Int)) ∧ w'.cell? ⟨b4, o4 + q * 5 + 3, none⟩ = some (.bool s2.quoted) ∧ w'.cell? ⟨b4, o4 + q * 5 + 4, none⟩ = some (.bool s2.mark))
                        (first | go_keep)
                        ((fail))
                      all_goals (go_wp2_with fail)
                      all_goals (go_ret; exact ⟨by rw [decide_eq_false HN.out]; rfl, HBL.out.trans ((((HBL2.out.alloc HBL2.out.size _).alloc (by simp; have := HBL2.out.size; omega) _).drew).mono HBL.out.size)⟩)
                    ·
                      go_wp2_with fail
                      go_region_held3 (fun w' => w'.cell? ⟨b1, o1 + j * 3 + 2, none⟩ = some (.slice (some ⟨b3, o3, none⟩) x.ws.length wca) ∧ w'.cell? ⟨b2, o2 + j * 3 + 2, none⟩ = some (.slice (some ⟨b4, o4, none⟩) x.ws.length wcb) ∧
                        w'.cell? ⟨b3, o3 + q * 5, none⟩ = some (.string (strB s1.text)) ∧ w'.cell? ⟨b3, o3 + q * 5 + 1, none⟩ = some (.int .i64 (s1.line : Int)) ∧ w'.cell? ⟨b3, o3 + q * 5 + 2, none⟩ = some (.int .i64 (s1.col : Int)) ∧ w'.cell? ⟨b3, o3 + q * 5 + 3, none⟩ = some (.bool s1.quoted) ∧ w'.cell? ⟨b3, o3 + q * 5 + 4, none⟩ = some (.bool s1.mark) ∧
                        w'.cell? ⟨b4, o4 + q * 5, none⟩ = some (.string (strB s2.text)) ∧ w'.cell? ⟨b4, o4 + q * 5 + 1, none⟩ = some (.int .i64 (s2.line : Int)) ∧ w'.cell? ⟨b4, o4 + q * 5 + 2, none⟩ = some (.int .i64 (s2.col : Int)) ∧ w'.cell? ⟨b4, o4 + q * 5 + 3, none⟩ = some (.bool s2.quoted) ∧ w'.cell? ⟨b4, o4 + q * 5 + 4, none⟩ = some (.bool s2.mark))
                        (first | go_keep)
                        ((fail))
                      all_goals (go_wp2_with fail)
                      all_goals (go_ret; exact ⟨by rw [decide_eq_false HN.out]; rfl, HBL.out.trans ((((HBL2.out.alloc HBL2.out.size _).alloc (by simp; have := HBL2.out.size; omega) _).drew).mono HBL.out.size)⟩)
                · have HN : Hid (A.map lst ≠ B.map lst) := ne_words HGX.out HGY.out HGX2.out HGY2.out (fun e => ht (congrArg (fun z => z.1) e))
                  have htl : ((strB s1.text).toList == (strB s2.text).toList) = false := by rw [strB_beqL]; exact decide_eq_false ht
                  go_wp2_with fail
                  go_region_held3 (fun w' => w'.cell? ⟨b1, o1 + j * 3 + 2, none⟩ = some (.slice (some ⟨b3, o3, none⟩) x.ws.length wca) ∧ w'.cell? ⟨b2, o2 + j * 3 + 2, none⟩ = some (.slice (some ⟨b4, o4, none⟩) x.ws.length wcb) ∧
                    w'.cell? ⟨b3, o3 + q * 5, none⟩ = some (.string (strB s1.text)) ∧ w'.cell? ⟨b3, o3 + q * 5 + 1, none⟩ = some (.int .i64 (s1.line : Int)) ∧ w'.cell? ⟨b3, o3 + q * 5 + 2, none⟩ = some (.int .i64 (s1.col : Int)) ∧ w'.cell? ⟨b3, o3 + q * 5 + 3, none⟩ = some (.bool s1.quoted) ∧ w'.cell? ⟨b3, o3 + q * 5 + 4, none⟩ = some (.bool s1.mark) ∧
                    w'.cell? ⟨b4, o4 + q * 5, none⟩ = some (.string (strB s2.text)) ∧ w'.cell? ⟨b4, o4 + q * 5 + 1, none⟩ = some (.int .i64 (s2.line : Int)) ∧ w'.cell? ⟨b4, o4 + q * 5 + 2, none⟩ = some (.int .i64 (s2.col : Int)) ∧ w'.cell? ⟨b4, o4 + q * 5 + 3, none⟩ = some (.bool s2.quoted) ∧ w'.cell? ⟨b4, o4 + q * 5 + 4, none⟩ = some (.bool s2.mark))
                    (first | go_keep)
                    ((fail))
                  all_goals (go_wp2_with fail)
                  all_goals (go_ret; exact ⟨by rw [decide_eq_false HN.out]; rfl, HBL.out.trans ((((HBL2.out.alloc HBL2.out.size _).alloc (by simp; have := HBL2.out.size; omega) _).drew).mono HBL.out.size)⟩)
              · obtain rfl : q = x.ws.length := by omega
                have HEW : Hid (x.ws.map wst = y.ws.map wst) := by
                  have h1 := HTQ.out
                  rw [List.take_length, HL2.out, List.take_length] at h1
                  exact h1
                have HT4 : Hid ((A.take (j + 1)).map lst = (B.take (j + 1)).map lst) := by
                  rw [Hid, HTX.out, HTY.out, List.map_append, List.map_append, HT.out]
                  congr 1
                  show [lst x] = [lst y]
                  rw [HXY.out HEW.out]
                go_wp2_with fail
                go_roundw
                case rel => exact ⟨j + 1, by omega, by go_num, HT4, HBL.out.trans (HBL2.out.mono HBL.out.size)⟩
                case measure => simp [intOf] <;> omega
          ·
            have HN : Hid (A.map lst ≠ B.map lst) := by
              intro e
              have h1 : (A.map lst)[j]? = some (lst x) := by rw [List.getElem?_map, HGX.out]; rfl
              rw [e, List.getElem?_map, HGY.out] at h1
              exact absurd (Option.some.inj h1) (fun e=>hl2 (by have h:=congrArg (fun z=>z.2.length) e;simpa [lst] using h.symm))
            (rw [← hind] at d1;have hlz:((x.ws.length:Int)!=(y.ws.length:Int))=true:=bneI (by omega))
            go_wp2_with fail
            go_big_quiet (fail)
            go_wp2_with fail
            go_ret
            exact ⟨by rw [decide_eq_false HN.out]; rfl, Below.drewsL HBL.out _⟩
        · rcases bool_ne hind with ⟨h1, h2⟩ | ⟨h1, h2⟩
          · rw [h1] at a1
            rw [h2] at d1
            have HN : Hid (A.map lst ≠ B.map lst) := by
              intro e
              have h1 : (A.map lst)[j]? = some (lst x) := by rw [List.getElem?_map, HGX.out]; rfl
              rw [e, List.getElem?_map, HGY.out] at h1
              exact absurd (Option.some.inj h1) (fun e=>hind (congrArg Prod.fst e).symm)
            skip
            go_wp2_with fail
            go_big_quiet (fail)
            go_wp2_with fail
            go_ret
            exact ⟨by rw [decide_eq_false HN.out]; rfl, Below.drewsL HBL.out _⟩
          · rw [h1] at a1
            rw [h2] at d1
            have HN : Hid (A.map lst ≠ B.map lst) := by
              intro e
              have h1 : (A.map lst)[j]? = some (lst x) := by rw [List.getElem?_map, HGX.out]; rfl
              rw [e, List.getElem?_map, HGY.out] at h1
              exact absurd (Option.some.inj h1) (fun e=>hind (congrArg Prod.fst e).symm)
            skip
            go_wp2_with fail
            go_big_quiet (fail)
            go_wp2_with fail
            go_ret
            exact ⟨by rw [decide_eq_false HN.out]; rfl, Below.drewsL HBL.out _⟩
      · obtain rfl : j = A.length := by omega
        have HE : Hid (A.map lst = B.map lst) := by
          have h1 := HT.out
          rw [List.take_length, hlen, List.take_length] at h1
          exact h1
        go_wp2_with fail
        go_ret
        exact ⟨by rw [decide_eq_true HE.out]; rfl, HBL.out⟩
  · have hne : ¬ ((A.length : Int) = (B.length : Int)) := by omega
    have HN : Hid (A.map lst ≠ B.map lst) := fun e => hlen (by have := congrArg List.length e; simpa using this)
    go_wp2_with fail
    go_ret
    exact ⟨by rw [decide_eq_false HN.out]; rfl, Below.refl _ _⟩
end Go.Proofs.Ythfjeijhnikabaa
