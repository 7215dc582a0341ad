/- The statement LexLines. -/
import Derived.Test.YthfjeijhnikabaaLexRefL
import Derived.Test.YthfjeijhnikabaaLexSame
import Derived.Test.YthfjeijhnikabaaLexLong
import Derived.Test.YthfjeijhnikabaaLexPos
import Derived.Test.YthfjeijhnikabaaLexWr
import Derived.Test.YthfjeijhnikabaaLexQuotes
namespace Go.Proofs.Ythfjeijhnikabaa
open Go.RowKit
set_option linter.unusedVariables false

theorem spot_eq (e a e' a' : Int) (w : World) : (binOp .eql 27 (spot e a) (spot e' a')).run Try.prog w = .ok (.bool (decide (e = e' ∧ a = a'))) w := by
  by_cases h1 : e = e' <;> by_cases h2 : a = a' <;> simp [spot, go_sem, h1, h2]
theorem spot_ne (e a e' a' : Int) (w : World) : (binOp .neq 27 (spot e a) (spot e' a')).run Try.prog w = .ok (.bool (decide (¬ (e = e' ∧ a = a')))) w := by
  by_cases h1 : e = e' <;> by_cases h2 : a = a' <;> simp [spot, go_sem, h1, h2]
set_option maxRecDepth 100000 in
set_option maxHeartbeats 8000000 in
theorem lexLines_walk {J : Jm} {w : World} (hI : Inv J w) (s : ByteArray) (hs : s.size ≤ 140737488351232) :
    Calls Try.prog 3 #[.string s] w fun e w' => e = .returned (.bool true) ∧ Below w.heap.size w w' := by
  go_enter Try.func3, Try.ntmps3
  go_wp2_with fail
  refine (works_calls hI).mono ?_
  rintro e w1 ⟨J1, rfl, hE⟩
  have HE := Lib.hid hE
  clear hE
  by_cases hl : 262144 < s.size
  · have hl2 : decide ((262144 : Int) < s.size) = true := decide_eq_true (by omega)
    go_wp2_with fail
    refine (long_calls _ _).mono ?_
    rw [hl2]
    rintro e w2 ⟨rfl, rfl⟩
    go_wp2_with fail
    refine (Lines_long HE.out.inv s (by omega) hs).mono ?_
    rintro e w3 ⟨rfl, hE3⟩
    have HE := Lib.hid (HE.out.trans hE3)
    clear hE3
    unfold spot
    go_wp2_with fail
    go_ret
    exact ⟨rfl, (HE.out.alloc _).below⟩
  · obtain ⟨s, rfl⟩ : ∃ l, s = strB l := ⟨s.data.toList, (strB_of s).symm⟩
    have HSZ := strB_size s
    rw [HSZ] at hl hs
    have hl2 : decide ((262144 : Int) < s.length) = false := decide_eq_false (by omega)
    go_wp2_with fail
    refine (long_calls _ _).mono ?_
    rw [hl2]
    rintro e w2 ⟨rfl, rfl⟩
    clear hl2
    have HE0 := HE
    have hb := (an_run (s := s)).le
    obtain ⟨⟨er, ax, ls⟩, han⟩ : ∃ t, an s = t := ⟨_, rfl⟩
    rw [han] at hb
    dsimp only at hb
    obtain ⟨hb1, hb2⟩ := hb
    have HWL := Lib.hid (show ∀ l ∈ ls, l.ws.length ≤ 1048576 from fun l hl => by have := hb2 l hl; omega)
    clear hb2
    go_wp2_with fail
    refine (Lines_calls HE.out.inv s (by omega)).mono ?_
    intro e w3 h
    obtain ⟨v3, J3, B3, M3, c3, he, hE3, hB3, hO3, hL3⟩ := h.uni
    rw [han] at he hO3 hL3
    dsimp only at he hO3 hL3
    subst he
    unfold spot
    obtain ⟨A3, cp3, rfl, -, -⟩ := hO3.sl.form
    have HO3 := Lib.hid hO3
    have HL3 := Lib.hid hL3
    have HB3 := Lib.hid hB3
    have HE3 := Lib.hid hE3
    have HE := Lib.hid ((HE.out.trans hE3).alloc (.cells #[.int .i64 er, .int .i64 ax] 27))
    clear hE3 hB3 hO3 hL3 h
    go_wp2_with fail
    refine (refLines_calls HE.out.inv s (by omega)).mono ?_
    intro e w4 h
    obtain ⟨v4, J4, B4, M4, c4, he, hE4, hB4, hO4, hL4⟩ := h.uni
    rw [han] at he hO4 hL4
    dsimp only at he hO4 hL4
    subst he
    unfold spot
    obtain ⟨A4, cp4, rfl, -, -⟩ := hO4.sl.form
    have HO4 := Lib.hid hO4
    have HL4 := Lib.hid hL4
    have HB4 := Lib.hid hB4
    have HE4 := Lib.hid hE4
    have HE := Lib.hid ((HE.out.trans hE4).alloc (.cells #[.int .i64 er, .int .i64 ax] 27))
    clear hE4 hB4 hO4 hL4 h
    have HJ := Lib.hid (HE4.out.le (HE3.out.inv.alloc (.cells #[.int .i64 er, .int .i64 ax] 27)))
    have LA := Lib.hid ((LsO.lns HO3.out HL3.out).mono HJ.out)
    have LB := Lib.hid (LsO.lns HO4.out HL4.out)
    have hz := HE4.out.below.size
    have HBA := Lib.hid ((Below.heap_alloc w4 (.cells #[.int .i64 er, .int .i64 ax] 27) w3.heap.size (by simp at hz; omega)).trans ((HE4.out.below.block w3.heap.size (by simp)).trans (heap_alloc_new w3 (.cells #[.int .i64 er, .int .i64 ax] 27))))
    have HBB := Lib.hid (heap_alloc_new w4 (.cells #[.int .i64 er, .int .i64 ax] 27))
    have HZ := Lib.hid hz
    clear hz
    go_wp2_with fail
    refine (same_calls HE.out.inv LA.out LB.out (by omega) HWL.out).mono ?_
    rw [decide_eq_true rfl]
    rintro e w5 ⟨rfl, hb5⟩
    have HBA := Lib.hid ((hb5.block w3.heap.size (Array.getElem?_eq_some_iff.1 HBA.out).1).trans HBA.out)
    have HBB := Lib.hid ((hb5.block w4.heap.size (by simp)).trans HBB.out)
    have HE := Lib.hid (HE.out.step hb5)
    have HS5 := Lib.hid hb5
    clear hb5
    have a0 := blk_cell_J HBA.out 0 rfl
    have a1 := blk_cell_J HBA.out 1 rfl
    have d0 := blk_cell_J HBB.out 0 rfl
    have d1 := blk_cell_J HBB.out 1 rfl
    obtain ⟨Jc, hJc⟩ : ∃ Jc, Jc = J4.cut w2.heap.size w3.heap.size := ⟨_, rfl⟩
    have HIN := Lib.hid (show ∀ b, w2.heap.size ≤ b → b < w3.heap.size → Jc b = [] from fun b h1 h2 => by rw [hJc]; exact Jm.cut_in h1 h2)
    have HIC := Lib.hid (show Inv Jc w5 from HE.out.inv.anti (by rw [hJc]; exact Jm.cut_le _ _ _))
    have HLB := Lib.hid (show Lns Jc (.slice A4 ls.length cp4) ls from by
      have h1 : w3.heap.size ≤ B4 := by have := HB4.out; simp at this; omega
      rw [hJc]; exact LsO.lns (HO4.out.cut h1) (HL4.out.cut h1))
    have HJC := Lib.hid (show ∀ b, b < w2.heap.size → Jc b = J4 b from fun b h => by rw [hJc]; exact Jm.cut_out (.inl h))
    have h2s := Lib.hid (show w.heap.size ≤ w2.heap.size from HE0.out.below.size)
    clear hJc
    have HX35 := Lib.hid (((((Ext.refl HE3.out.inv).alloc (.cells #[.int .i64 er, .int .i64 ax] 27)).trans HE4.out).alloc (.cells #[.int .i64 er, .int .i64 ax] 27)).step HS5.out)
    have HRW := Lib.hid (show ∀ ga, A3 = some ⟨ga, 0, none⟩ → w2.heap.size ≤ ga ∧ ga < w3.heap.size ∧ Wr w5 ga 0 c3 ls.length from fun ga e => by
      have h := HO3.out
      rw [e] at h
      have hl := h.lt ga rfl
      exact ⟨Nat.le_trans HB3.out hl.1, hl.2, (Wr.mk' h HL3.out).later fun b hb => HX35.out.below.block b hb⟩)
    have HA3 := Lib.hid (show ls.length ≠ 0 → ∃ ga, A3 = some ⟨ga, 0, none⟩ from fun h0 => by
      rcases HO3.out.1.2 with ⟨h, hn⟩ | ⟨g, cap, cur, h, _⟩
      · exact absurd hn h0
      · cases h; exact ⟨g, rfl⟩)
    go_wp2_with fail
    clear a0 a1 d0 d1
    go_loopw [9] (fun i wr => ∃ k : Nat, i = .int .i64 k ∧ k ≤ ls.length ∧ Hid (Mv (fun b => w2.heap.size ≤ b ∧ b < w3.heap.size) Jc w5 Jc wr) ∧ Hid (∀ ga, A3 = some ⟨ga, 0, none⟩ → Wr wr ga k c3 ls.length)) (fun i _ => ls.length - (intOf i).toNat)
    case atStart => exact ⟨0, rfl, Nat.zero_le _, Mv.refl _ HIC.out, fun ga e => (HRW.out ga e).2.2⟩
    case round =>
      obtain ⟨k, rfl, hk, HM, HW⟩ := hrel
      have i0 : (0 : Int) ≤ (k : Int) := by omega
      by_cases hlt : k < ls.length
      · have i1 : (k : Int) < ls.length := by omega
        obtain ⟨ga, hga⟩ := HA3.out (by omega)
        obtain ⟨hg1, hg2, _⟩ := HRW.out ga hga
        have HWA := Lib.hid (HW.out ga hga)
        subst hga
        obtain ⟨wv, -, -, e2, hW, -⟩ := HL3.out.at hlt
        have hwl := HWL.out ls[k] (List.getElem_mem hlt)
        obtain ⟨m, hm⟩ : ∃ m, ls[k].ws.length = m := ⟨_, rfl⟩
        rw [hm] at hW hwl
        clear hm
        have hlo := hW.lt
        have hwf := hW.1.2
        have HC2 := Lib.hid e2
        obtain ⟨WA, wc, rfl, -, -⟩ := hW.sl.form
        clear hW e2
        have hh := HWA.out.hdr (Nat.le_refl k) HC2.out
        go_wp2_with fail
        clear hh
        go_loopw [10] (fun j wx => ∃ q : Nat, j = .int .i64 q ∧ q ≤ m ∧ Hid (Mv (fun b => w2.heap.size ≤ b ∧ b < w3.heap.size) Jc w5 Jc wx) ∧ Hid (Wr wx ga k c3 ls.length)) (fun j _ => m - (intOf j).toNat)
        case atStart => exact ⟨0, rfl, Nat.zero_le _, HM, HWA⟩
        case round =>
          clear HM HWA HW
          obtain ⟨q, rfl, hq, HM, HWA⟩ := hrel
          have hh := HWA.out.hdr (Nat.le_refl k) HC2.out
          have q0 : (0 : Int) ≤ (q : Int) := by omega
          by_cases hqm : q < m
          · have q1 : (q : Int) < m := by omega
            obtain ⟨g, rfl⟩ : ∃ g, WA = some ⟨g, 0, none⟩ := by
              rcases hwf with ⟨h, hn⟩ | ⟨g, cap, cur, h, _⟩
              · exact absurd hn (by omega)
              · cases h; exact ⟨g, rfl⟩
            obtain ⟨hgl, hgh⟩ := hlo g rfl
            obtain ⟨cur, hcur, hsz⟩ := HWA.out.rows _ g m wc HC2.out
            obtain ⟨y0, z0⟩ := row_cell hcur (n := q * 5) (by omega)
            obtain ⟨y1, z1⟩ := row_cell hcur (n := q * 5 + 1) (by omega)
            obtain ⟨y2, z2⟩ := row_cell hcur (n := q * 5 + 2) (by omega)
            obtain ⟨y3, z3⟩ := row_cell hcur (n := q * 5 + 3) (by omega)
            obtain ⟨y4, z4⟩ := row_cell hcur (n := q * 5 + 4) (by omega)
            go_wp2_with fail
            go_roundw
            case rel =>
              have hJg := HIN.out g (by have := HB3.out; omega) hgh
              have hS : ∀ x : Nat, (⟨g, x, none⟩ : Addr).block < w5.heap.size → w2.heap.size ≤ g ∧ g < w3.heap.size := fun _ _ => ⟨by have := HB3.out; omega, hgh⟩
              refine ⟨q + 1, by go_num, by omega, ?_, ?_⟩
              · exact ((((HM.out.setCell (p := ⟨g, q * 5, none⟩) (hS _) hJg _).setCell (p := ⟨g, q * 5 + 1, none⟩) (hS _) hJg _).setCell (p := ⟨g, q * 5 + 2, none⟩) (hS _) hJg _).setCell (p := ⟨g, q * 5 + 3, none⟩) (hS _) hJg _).setCell (p := ⟨g, q * 5 + 4, none⟩) (hS _) hJg _
              · have s0 := heap_setCell_same _ g (q * 5) _ _ (.string ⟨#[103, 111, 110, 101]⟩) hcur
                have s1 := heap_setCell_same _ g (q * 5 + 1) _ _ (.int .i64 0) s0
                have s2 := heap_setCell_same _ g (q * 5 + 2) _ _ (.int .i64 0) s1
                have s3 := heap_setCell_same _ g (q * 5 + 3) _ _ (.bool false) s2
                exact ((((HWA.out.setW hcur _ _).setW s0 _ _).setW s1 _ _).setW s2 _ _).setW s3 _ _
            case measure => simp [intOf]; omega
          · have q1 : ¬ (q : Int) < m := by omega
            obtain ⟨u0, p0, r0⟩ := HWA.out.cellA (x := k * 3) (by omega)
            obtain ⟨u1, p1, r1⟩ := HWA.out.cellA (x := k * 3 + 1) (by omega)
            obtain ⟨u2, p2, r2⟩ := HWA.out.cellA (x := k * 3 + 2) (by omega)
            clear p2
            go_wp2_with fail
            go_roundw
            case rel =>
              have hJg := HIN.out ga hg1 hg2
              refine ⟨k + 1, by go_num, by omega, ?_, fun ga' e => ?_⟩
              · exact ((HM.out.setCell (p := ⟨ga, k * 3, none⟩) (fun _ => ⟨hg1, hg2⟩) hJg _).setCell (p := ⟨ga, k * 3 + 1, none⟩) (fun _ => ⟨hg1, hg2⟩) hJg _).setCell (p := ⟨ga, k * 3 + 2, none⟩) (fun _ => ⟨hg1, hg2⟩) hJg _
              · cases e
                exact ((HWA.out.succ.setA (by omega) _).setA (by omega) _).setA (by omega) _
            case measure => simp [intOf]; omega
      · obtain rfl : k = ls.length := by omega
        have i1 : ¬ (ls.length : Int) < ls.length := by omega
        have HEX := Lib.hid (show Ext J w Jc wr from by
          have h5 : Ext J w J4 w5 := HE.out
          refine ⟨?_, HM.out.inv, fun b hb => ?_⟩
          · refine ⟨HM.out.os.trans h5.below.os, HM.out.tape.trans h5.below.tape, HM.out.output.trans h5.below.output, Nat.le_trans h5.below.size HM.out.size, fun b hb => ?_⟩
            have h2 := h2s.out
            exact (HM.out.block b (Nat.lt_of_lt_of_le hb h5.below.size) (by omega)).trans (h5.below.block b hb)
          · have h2 := h2s.out
            rw [HJC.out b (by omega)]
            exact h5.old b hb)
        go_wp2_with fail
        refine (Lines_calls HEX.out.inv s (by omega)).mono ?_
        intro e w6 h
        obtain ⟨v6, J6, B6, M6, c6, he, hE6, hB6, hO6, hL6⟩ := h.uni
        rw [han] at he hO6 hL6
        dsimp only at he hO6 hL6
        subst he
        unfold spot
        obtain ⟨A6, cp6, rfl, -, -⟩ := hO6.sl.form
        have LC := Lib.hid (LsO.lns hO6 hL6)
        have LB6 := Lib.hid (HLB.out.mono (hE6.le HM.out.inv))
        have hd := Lib.hid hE6
        have HE6 := Lib.hid ((HEX.out.trans hE6).alloc (.cells #[.int .i64 er, .int .i64 ax] 27))
        clear hE6 hO6 hL6 h
        go_wp2_with fail
        refine (same_calls HE6.out.inv LC.out LB6.out (by omega) HWL.out).mono ?_
        rw [decide_eq_true rfl]
        rintro e w7 ⟨rfl, hb7⟩
        have hz := HZ.out
        simp at hz
        have g1 := HM.out.blk HBB.out (by omega)
        have g2 := (hd.out.below.block _ (Array.getElem?_eq_some_iff.1 g1).1).trans g1
        have g3 := (Below.heap_alloc w6 (.cells #[.int .i64 er, .int .i64 ax] 27) _ (Array.getElem?_eq_some_iff.1 g2).1).trans g2
        have g4 := (hb7.block _ (Array.getElem?_eq_some_iff.1 g3).1).trans g3
        have g5 := (hb7.block _ (by simp)).trans (heap_alloc_new w6 (.cells #[.int .i64 er, .int .i64 ax] 27))
        have a0 := blk_cell_J g4 0 rfl
        have a1 := blk_cell_J g4 1 rfl
        have d0 := blk_cell_J g5 0 rfl
        have d1 := blk_cell_J g5 1 rfl
        have HE7 := Lib.hid (HE6.out.step hb7)
        clear g1 g2 g3 g4 g5 hb7 hz
        go_wp2_with fail
        go_ret
        exact ⟨rfl, HE7.out.below⟩
end Go.Proofs.Ythfjeijhnikabaa
