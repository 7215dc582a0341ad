/- The walk of the document's Same. -/
import Derived.Test.YthfjeijhnikabaaLexLs
import Derived.BigQuiet
namespace Go.Proofs.Ythfjeijhnikabaa
open Go.RowKit

theorem Below.drewsL {B : Nat} {w w' : World} (h : Below B w w') (n : Nat) : Below B w (w'.drewN n) := ⟨h.os, h.tape, h.output, h.size, h.block⟩
theorem ln_ext {x y : Ln} (h1 : x.num = y.num) (h2 : x.ind = y.ind) (h3 : x.ws = y.ws) : x = y := by cases x; cases y; simp_all
theorem bool_ne {a b : Bool} (h : ¬ a = b) : (a = true ∧ b = false) ∨ (a = false ∧ b = true) := by revert h; cases a <;> cases b <;> simp
theorem bneI {a b : Int} (h : ¬ a = b) : (a != b) = true := by simpa using h
set_option maxRecDepth 100000 in
set_option maxHeartbeats 8000000 in
theorem same_calls {J : Jm} {w : World} (hI : Inv J w) {v u : Value} {A B : List Ln} (ha : Lns J v A) (hb : Lns J u B) (hA : A.length ≤ 1048576) (hWA : ∀ l ∈ A, l.ws.length ≤ 1048576) :
    Calls Try.prog 16 #[v, u] w fun e w' => e = .returned (.bool (decide (A = B))) ∧ Below w.heap.size w w' := by
  obtain ⟨Aa, ca, rfl, hn, hm⟩ := id ha.form
  obtain ⟨Ab, cb, rfl, hn', hm'⟩ := id hb.form
  have hcmp := wd_neq
  have HA := Lib.hid ha
  have HB := Lib.hid hb
  clear ha hb
  unfold maxLen at hm hm'
  go_enter Try.func16, Try.ntmps16
  by_cases hlen : A.length = B.length
  · go_wp2_with fail
    go_loopw [5] (fun i wr => ∃ j : Nat, j ≤ A.length ∧ i = .int .i64 j ∧ Hid (A.take j = B.take j) ∧ Hid (Below w.heap.size w wr)) (fun i _ => A.length - (intOf i).toNat)
    case atStart => exact ⟨0, Nat.zero_le _, rfl, rfl, Below.refl _ _⟩
    case round =>
      obtain ⟨j, hj, rfl, HT, HBL⟩ := hrel
      by_cases hlt : j < A.length
      · have HI := Lib.hid (hI.below HBL.out)
        have hltb : j < B.length := by omega
        obtain ⟨b1, o1, wa, rfl, a0, a1, a2, hwa⟩ := HA.out.cell HI.out hlt
        obtain ⟨b2, o2, wb, rfl, d0, d1, d2, hwb⟩ := HB.out.cell HI.out hltb
        have HWL := Lib.hid (hWA A[j] (List.getElem_mem hlt))
        have HTX := Lib.hid (show A.take (j + 1) = A.take j ++ [A[j]] from List.take_succ_eq_append_getElem hlt)
        have HTY := Lib.hid (show B.take (j + 1) = B.take j ++ [B[j]] from List.take_succ_eq_append_getElem hltb)
        have HGX := Lib.hid (show A[j]? = some A[j] from List.getElem?_eq_getElem hlt)
        have HGY := Lib.hid (show B[j]? = some B[j] from List.getElem?_eq_getElem hltb)
        generalize A[j] = x at *
        generalize B[j] = y at *
        have i0 : (0 : Int) ≤ (j : Int) := by omega
        have i1 : (j : Int) < A.length := by omega
        have i2 : (j : Int) < B.length := by omega
        obtain ⟨WA, wca, rfl, -, -⟩ := id hwa.form
        obtain ⟨WB, wcb, rfl, -, -⟩ := id hwb.form
        by_cases hnum : x.num = y.num
        · by_cases hind : x.ind = y.ind
          · by_cases hl2 : x.ws.length = y.ws.length
            · rw [← hnum] at d0
              rw [← hind] at d1
              rw [← hl2] at d2 hwb
              have HXY : Hid (x.ws = y.ws → x = y) := fun e => ln_ext hnum hind e
              have HL2 := Lib.hid hl2
              clear hnum hind hl2
              generalize x.num = xn at *
              generalize x.ind = xi at *
              go_wp2_with fail
              go_big_quiet (fail)
              have HBL := Lib.hid (Below.drewsL HBL.out nq)
              have HI := Lib.hid (HI.out.drewN nq)
              go_wp2_with fail
              go_loopw [6] (fun k wq => ∃ q : Nat, q ≤ x.ws.length ∧ k = .int .i64 q ∧ Hid (x.ws.take q = y.ws.take q) ∧ Hid (Below w.heap.size w wq) ∧ Hid (∀ a, wq.cell? a = wr.cell? a)) (fun k _ => x.ws.length - (intOf k).toNat)
              case atStart => exact ⟨0, Nat.zero_le _, rfl, rfl, HBL, fun _ => rfl⟩
              case round =>
                obtain ⟨q, hq, rfl, HTQ, HBL2, HCL⟩ := hrel
                have HI2 := Lib.hid (hI.below HBL2.out)
                have hwl := HWL.out
                have p0 := (HCL.out ⟨b1, o1 + j * 3, none⟩).trans a0
                have p2 := (HCL.out ⟨b1, o1 + j * 3 + 2, none⟩).trans a2
                have r2 := (HCL.out ⟨b2, o2 + j * 3 + 2, none⟩).trans d2
                by_cases hql : q < x.ws.length
                · have hqy : q < y.ws.length := by have := HL2.out; omega
                  obtain ⟨b3, o3, rfl, m0, m1, m2, m3, m4⟩ := ws_cell hwa HI2.out hql
                  rw [HL2.out] at hwb
                  obtain ⟨b4, o4, rfl, n0, n1, n2, n3, n4⟩ := ws_cell hwb HI2.out hqy
                  have HTX2 := Lib.hid (show x.ws.take (q + 1) = x.ws.take q ++ [x.ws[q]] from List.take_succ_eq_append_getElem hql)
                  have HTY2 := Lib.hid (show y.ws.take (q + 1) = y.ws.take q ++ [y.ws[q]] from List.take_succ_eq_append_getElem hqy)
                  have HGX2 := Lib.hid (show x.ws[q]? = some x.ws[q] from List.getElem?_eq_getElem hql)
                  have HGY2 := Lib.hid (show y.ws[q]? = some y.ws[q] from List.getElem?_eq_getElem hqy)
                  have hc2 := fun w => hcmp x.ws[q] y.ws[q] w
                  generalize x.ws[q] = s1 at *
                  generalize y.ws[q] = s2 at *
                  have k0 : (0 : Int) ≤ (q : Int) := by omega
                  have k1 : (q : Int) < x.ws.length := by omega
                  by_cases hw : s1 = s2
                  · have hd : decide (s1 ≠ s2) = false := decide_eq_false (fun h => h hw)
                    simp only [hd] at hc2
                    have HT3 : Hid (x.ws.take (q + 1) = y.ws.take (q + 1)) := by rw [Hid, HTX2.out, HTY2.out, HTQ.out, hw]
                    clear hcmp hw hd
                    go_wp2_with fail
                    go_big_quiet (fail)
                    go_wp2_with fail
                    go_roundw
                    case rel => exact ⟨q + 1, by omega, by go_num, HT3, Below.drewsL HBL2.out nq, HCL⟩
                    case measure => simp [intOf] <;> omega
                  · have hd : decide (s1 ≠ s2) = true := decide_eq_true hw
                    simp only [hd] at hc2
                    have HN : Hid (A ≠ B) := by
                      intro e
                      have h1 := HGX.out
                      rw [e, HGY.out] at h1
                      have h2 := Option.some.inj h1
                      have h3 := HGY2.out
                      rw [h2, HGX2.out] at h3
                      exact hw (Option.some.inj h3)
                    clear hcmp hw hd
                    go_wp2_with fail
                    go_big_quiet (fail)
                    go_wp2_with fail
                    go_ret
                    exact ⟨by rw [decide_eq_false HN.out]; rfl, Below.drewsL HBL2.out nq⟩
                · obtain rfl : q = x.ws.length := by omega
                  have HEW : Hid (x.ws = y.ws) := by
                    have h1 := HTQ.out
                    rw [List.take_length, HL2.out, List.take_length] at h1
                    exact h1
                  have HT4 : Hid (A.take (j + 1) = B.take (j + 1)) := by rw [Hid, HTX.out, HTY.out, HT.out, HXY.out HEW.out]
                  go_wp2_with fail
                  go_roundw
                  case rel => exact ⟨j + 1, by omega, by go_num, HT4, HBL2⟩
                  case measure => simp [intOf] <;> omega
            ·
              have HN : Hid (A ≠ B) := by
                intro e
                have h1 := HGX.out
                rw [e, HGY.out] at h1
                exact absurd (Option.some.inj h1).symm (fun e=>hl2 (by rw [e]))
              (rw [← hnum] at d0;rw [← hind] at d1;have hlz:((x.ws.length:Int)!=(y.ws.length:Int))=true:=bneI (by omega))
              go_wp2_with fail
              go_big_quiet (fail)
              go_wp2_with fail
              go_ret
              exact ⟨by rw [decide_eq_false HN.out]; rfl, Below.drewsL HBL.out _⟩
          · rw [← hnum] at d0
            rcases bool_ne hind with ⟨h1, h2⟩ | ⟨h1, h2⟩
            · rw [h1] at a1
              rw [h2] at d1
              have HN : Hid (A ≠ B) := by
                intro e
                have h1 := HGX.out
                rw [e, HGY.out] at h1
                exact absurd (Option.some.inj h1).symm (fun e=>hind (by rw [e]))
              skip
              go_wp2_with fail
              go_big_quiet (fail)
              go_wp2_with fail
              go_ret
              exact ⟨by rw [decide_eq_false HN.out]; rfl, Below.drewsL HBL.out _⟩
            · rw [h1] at a1
              rw [h2] at d1
              have HN : Hid (A ≠ B) := by
                intro e
                have h1 := HGX.out
                rw [e, HGY.out] at h1
                exact absurd (Option.some.inj h1).symm (fun e=>hind (by rw [e]))
              skip
              go_wp2_with fail
              go_big_quiet (fail)
              go_wp2_with fail
              go_ret
              exact ⟨by rw [decide_eq_false HN.out]; rfl, Below.drewsL HBL.out _⟩
        ·
          have HN : Hid (A ≠ B) := by
            intro e
            have h1 := HGX.out
            rw [e, HGY.out] at h1
            exact absurd (Option.some.inj h1).symm (fun e=>hnum (by rw [e]))
          (have hnz:((x.num:Int)!=(y.num:Int))=true:=bneI (by omega))
          go_wp2_with fail
          go_big_quiet (fail)
          go_wp2_with fail
          go_ret
          exact ⟨by rw [decide_eq_false HN.out]; rfl, Below.drewsL HBL.out _⟩
      · obtain rfl : j = A.length := by omega
        have HE : Hid (A = B) := by
          have h1 := HT.out
          rw [List.take_length, hlen, List.take_length] at h1
          exact h1
        go_wp2_with fail
        go_ret
        exact ⟨by rw [decide_eq_true HE.out]; rfl, HBL.out⟩
  · have hne : ¬ ((A.length : Int) = (B.length : Int)) := by omega
    have HN : Hid (A ≠ B) := fun e => hlen (by rw [e])
    go_wp2_with fail
    go_ret
    exact ⟨by rw [decide_eq_false HN.out]; rfl, Below.refl _ _⟩
end Go.Proofs.Ythfjeijhnikabaa
