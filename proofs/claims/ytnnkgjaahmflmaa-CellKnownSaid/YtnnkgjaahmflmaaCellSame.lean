/- The walks of the document's Same, of slices.Equal of items and of kids. -/
import Derived.Test.YtnnkgjaahmflmaaCellRight
import Derived.WalkSpells
namespace Go.Proofs.Ytnnkgjaahmflmaa
open Go.RowKit
set_option linter.unusedVariables false

theorem _root_.Go.RowKit.Below.drewsS {B : Nat} {a w : World} (h : Below B a w) (n : Nat) : Below B a (w.drewN n) := ⟨h.os, h.tape, h.output, h.size, h.block⟩
theorem cl_neq (x y : Cl) (w : World) : (binOp .neq 55 (.agg #[.string (strB x.key), .string (strB x.val), .int .i64 x.page, .int .i64 x.len]) (.agg #[.string (strB y.key), .string (strB y.val), .int .i64 y.page, .int .i64 y.len])).run Try.prog w = .ok (.bool (decide (x ≠ y))) w := by
  obtain ⟨t1, l1, c1, q1⟩ := x
  obtain ⟨t2, l2, c2, q2⟩ := y
  by_cases h1 : t1 = t2 <;> by_cases h2 : l1 = l2 <;> by_cases h3 : c1 = c2 <;> by_cases h4 : q1 = q2 <;> simp [go_sem, strB_toList, h1, h2, h3, h4]
theorem take_ne {α : Type} [DecidableEq α] {l k : List α} {j : Nat} (h1 : j < l.length) (h2 : j < k.length) (h : l[j] ≠ k[j]) : l ≠ k := by rintro rfl; exact h rfl
set_option maxRecDepth 100000 in
set_option maxHeartbeats 4000000 in
theorem cellsEq_calls {J : Jm} {w : World} (hI : Inv J w) {v u : Value} {l k : List Cl} (hb : Cls J v l) (hc : Cls J u k) :
    Calls Try.prog 38 #[v, u] w fun e w' => e = .returned (.bool (decide (l = k))) ∧ Below w.heap.size w w' := by
  obtain ⟨A, c, rfl, hn, hm⟩ := hb.form
  obtain ⟨A', c', rfl, hn', hm'⟩ := hc.form
  unfold maxLen at hm hm'
  have HB := Lib.hid hb
  have HC := Lib.hid hc
  have hcmp := cl_neq
  clear hb hc
  go_enter Try.func38, Try.ntmps38
  by_cases hlen : l.length = k.length
  · have hlenI : (l.length : Int) = k.length := by omega
    go_wp2_with fail
    have HLEN := Lib.hid hlen
    clear hlen
    go_loopw [13] (fun i wr => ∃ (j : Nat), j ≤ l.length ∧ i = .int .i64 j ∧ Hid (l.take j = k.take j) ∧ Hid (Below w.heap.size w wr)) (fun i _ => l.length - (intOf i).toNat)
    case atStart => exact ⟨0, by omega, rfl, by simp [Hid], Below.refl _ _⟩
    case round =>
      obtain ⟨j, hj, rfl, HT, HBL⟩ := hrel
      have HI := Lib.hid (hI.below HBL.out)
      by_cases hlt : j < l.length
      · have hlt2 : j < k.length := by have := HLEN.out; omega
        obtain ⟨b, o, rfl, a0, a1, a2, a3⟩ := HB.out.cell HI.out hlt
        obtain ⟨b', o', rfl, d0, d1, d2, d3⟩ := HC.out.cell HI.out hlt2
        have i0 : (0 : Int) ≤ (j : Int) := by omega
        have i1 : (j : Int) < l.length := by omega
        have i2 : (j : Int) < k.length := by omega
        have HTX := Lib.hid (show l.take (j + 1) = l.take j ++ [l[j]] from List.take_succ_eq_append_getElem hlt)
        have HTY := Lib.hid (show k.take (j + 1) = k.take j ++ [k[j]] from List.take_succ_eq_append_getElem hlt2)
        have HNE := Lib.hid (fun h => take_ne (l := l) (k := k) hlt hlt2 h)
        have hc2 := fun w => hcmp l[j] k[j] w
        generalize l[j] = x at *
        generalize k[j] = y at *
        by_cases hw : x = y
        · have hd : decide (x ≠ y) = false := decide_eq_false (fun h => h hw)
          simp only [hd] at hc2
          have HT3 : Hid (l.take (j + 1) = k.take (j + 1)) := by rw [Hid, HTX.out, HTY.out, HT.out, hw]
          clear hcmp hw hd
          go_wp2_with fail
          go_big_quiet (fail)
          go_wp2_with fail
          go_roundw
          case rel => exact ⟨j + 1, by omega, by go_num, HT3, HBL.out.drewsS nq⟩
          case measure => simp [intOf] <;> omega
        · have hd : decide (x ≠ y) = true := decide_eq_true hw
          simp only [hd] at hc2
          have HN := Lib.hid (HNE.out hw)
          clear hcmp hw hd
          go_wp2_with fail
          go_big_quiet (fail)
          go_wp2_with fail
          go_ret
          exact ⟨by rw [decide_eq_false HN.out]; rfl, HBL.out.drewsS nq⟩
      · obtain rfl : j = l.length := by omega
        have HE : Hid (l = k) := by
          have h1 := HT.out
          rw [List.take_length, HLEN.out, List.take_length] at h1
          exact h1
        have i1 : ¬ (l.length : Int) < l.length := by omega
        go_wp2_with fail
        go_ret
        exact ⟨by rw [decide_eq_true HE.out]; rfl, HBL.out⟩
  · have hlenI : ¬ (l.length : Int) = k.length := by omega
    have HN : Hid (l ≠ k) := by intro h; subst h; exact hlen rfl
    go_wp2_with fail
    go_ret
    exact ⟨by rw [decide_eq_false HN.out]; rfl, Below.refl _ _⟩
set_option maxRecDepth 100000 in
set_option maxHeartbeats 4000000 in
theorem intsEq_calls {J : Jm} {w : World} (hI : Inv J w) {v u : Value} {l k : List Int} (hb : Ks J v l) (hc : Ks J u k) :
    Calls Try.prog 35 #[v, u] w fun e w' => e = .returned (.bool (decide (l = k))) ∧ Below w.heap.size w w' := by
  obtain ⟨A, c, rfl, hn, hm⟩ := hb.form
  obtain ⟨A', c', rfl, hn', hm'⟩ := hc.form
  unfold maxLen at hm hm'
  have HB := Lib.hid hb
  have HC := Lib.hid hc
  clear hb hc
  go_enter Try.func35, Try.ntmps35
  by_cases hlen : l.length = k.length
  · have hlenI : (l.length : Int) = k.length := by omega
    go_wp2_with fail
    have HLEN := Lib.hid hlen
    clear hlen
    go_loopw [13] (fun i wr => ∃ (j : Nat), j ≤ l.length ∧ i = .int .i64 j ∧ Hid (l.take j = k.take j) ∧ Hid (Below w.heap.size w wr)) (fun i _ => l.length - (intOf i).toNat)
    case atStart => exact ⟨0, by omega, rfl, by simp [Hid], Below.refl _ _⟩
    case round =>
      obtain ⟨j, hj, rfl, HT, HBL⟩ := hrel
      have HI := Lib.hid (hI.below HBL.out)
      by_cases hlt : j < l.length
      · have hlt2 : j < k.length := by have := HLEN.out; omega
        obtain ⟨b, o, rfl, a0⟩ := HB.out.cell HI.out hlt
        obtain ⟨b', o', rfl, d0⟩ := HC.out.cell HI.out hlt2
        have i0 : (0 : Int) ≤ (j : Int) := by omega
        have i1 : (j : Int) < l.length := by omega
        have i2 : (j : Int) < k.length := by omega
        have HTX := Lib.hid (show l.take (j + 1) = l.take j ++ [l[j]] from List.take_succ_eq_append_getElem hlt)
        have HTY := Lib.hid (show k.take (j + 1) = k.take j ++ [k[j]] from List.take_succ_eq_append_getElem hlt2)
        have HNE := Lib.hid (fun h => take_ne (l := l) (k := k) hlt hlt2 h)
        generalize l[j] = x at *
        generalize k[j] = y at *
        by_cases hw : x = y
        · have HT3 : Hid (l.take (j + 1) = k.take (j + 1)) := by rw [Hid, HTX.out, HTY.out, HT.out, hw]
          have hd : (x != y) = false := by simp [hw]
          subst hw
          clear hd
          go_wp2_with fail
          go_big_quiet (fail)
          go_wp2_with fail
          go_roundw
          case rel => exact ⟨j + 1, by omega, by go_num, HT3, HBL.out.drewsS nq⟩
          case measure => simp [intOf] <;> omega
        · have hd : (x != y) = true := by simpa using hw
          have HN := Lib.hid (HNE.out hw)
          go_wp2_with fail
          go_big_quiet (fail)
          go_wp2_with fail
          go_ret
          exact ⟨by rw [decide_eq_false HN.out]; rfl, HBL.out.drewsS nq⟩
      · obtain rfl : j = l.length := by omega
        have HE : Hid (l = k) := by
          have h1 := HT.out
          rw [List.take_length, HLEN.out, List.take_length] at h1
          exact h1
        have i1 : ¬ (l.length : Int) < l.length := by omega
        go_wp2_with fail
        go_ret
        exact ⟨by rw [decide_eq_true HE.out]; rfl, HBL.out⟩
  · have hlenI : ¬ (l.length : Int) = k.length := by omega
    have HN : Hid (l ≠ k) := by intro h; subst h; exact hlen rfl
    go_wp2_with fail
    go_ret
    exact ⟨by rw [decide_eq_false HN.out]; rfl, Below.refl _ _⟩
theorem bool_neS {a b : Bool} (h : ¬ a = b) : (a = true ∧ b = false) ∨ (a = false ∧ b = true) := by revert h; cases a <;> cases b <;> simp
set_option maxRecDepth 100000 in
set_option maxHeartbeats 8000000 in
theorem refSame_calls {J : Jm} {w : World} (hI : Inv J w) {v u : Value} {a b : Nd} (ha : NdV J v a) (hb : NdV J u b) :
    Calls Try.prog 18 #[v, u] w fun e w' => e = .returned (.bool (decide (a = b))) ∧ Below w.heap.size w w' := by
  obtain ⟨vi, vk, rfl, hi, hk⟩ := ha
  obtain ⟨ui, uk, rfl, gi, gk⟩ := hb
  obtain ⟨Ai, ci, rfl, hni, hmi⟩ := hi.form
  obtain ⟨Ak, ck, rfl, hnk, hmk⟩ := hk.form
  obtain ⟨Bi, di, rfl, gni, gmi⟩ := gi.form
  obtain ⟨Bk, dk, rfl, gnk, gmk⟩ := gk.form
  unfold maxLen at hmi hmk gmi gmk
  have HAi := Lib.hid hi
  have HAk := Lib.hid hk
  have HBi := Lib.hid gi
  have HBk := Lib.hid gk
  obtain ⟨l1, i1, k1⟩ := a
  obtain ⟨l2, i2, k2⟩ := b
  simp only at *
  have hcmp := cl_neq
  clear hi hk gi gk
  go_enter Try.func18, Try.ntmps18
  go_upto_region 1 with fail
  have HW0 := Lib.hid (((Below.refl w.heap.size w).alloc (Nat.le_refl _) (.cells #[.bool l1, .slice Ai i1.length ci, .slice Ak k1.length ck] 25)).alloc (by simp) (.cells #[.bool l2, .slice Bi i2.length di, .slice Bk k2.length dk] 25))
  have HNA : Hid (NBox ((w.alloc (.cells #[.bool l1, .slice Ai i1.length ci, .slice Ak k1.length ck] 25)).alloc (.cells #[.bool l2, .slice Bi i2.length di, .slice Bk k2.length dk] 25)) w.heap.size l1 (.slice Ai i1.length ci) (.slice Ak k1.length ck)) := (Below.heap_alloc _ _ w.heap.size (by simp)).trans (heap_alloc_new w _)
  have HNB : Hid (NBox ((w.alloc (.cells #[.bool l1, .slice Ai i1.length ci, .slice Ak k1.length ck] 25)).alloc (.cells #[.bool l2, .slice Bi i2.length di, .slice Bk k2.length dk] 25)) (w.heap.size + 1) l2 (.slice Bi i2.length di) (.slice Bk k2.length dk)) := by
    have h := heap_alloc_new (w.alloc (.cells #[.bool l1, .slice Ai i1.length ci, .slice Ak k1.length ck] 25)) (.cells #[.bool l2, .slice Bi i2.length di, .slice Bk k2.length dk] 25)
    rw [show (w.alloc (.cells #[.bool l1, .slice Ai i1.length ci, .slice Ak k1.length ck] 25)).heap.size = w.heap.size + 1 by simp] at h
    exact h
  generalize World.alloc (World.alloc w _) _ = W at *
  have n0 := blk_cell_J HNA.out 0 rfl
  have n1 := blk_cell_J HNA.out 1 rfl
  have n2 := blk_cell_J HNA.out 2 rfl
  have m0 := blk_cell_J HNB.out 0 rfl
  have m1 := blk_cell_J HNB.out 1 rfl
  have m2 := blk_cell_J HNB.out 2 rfl
  by_cases hl : l1 = l2
  · subst hl
    by_cases hil : i1.length = i2.length
    · by_cases hkl : k1.length = k2.length
      · have HIL := Lib.hid hil
        have HKL := Lib.hid hkl
        rw [← hil] at m1 HNB
        rw [← hkl] at m2 HNB
        clear hil hkl gni gnk
        cases l1
        all_goals
          go_wp2_with fail
          go_loopw [5] (fun iv wr => ∃ j : Nat, j ≤ i1.length ∧ iv = .int .i64 j ∧ Hid (i1.take j = i2.take j) ∧ Hid (Below W.heap.size W wr) ∧ Hid (∀ a, wr.cell? a = W.cell? a)) (fun iv _ => i1.length - (intOf iv).toNat)
          case atStart => exact ⟨0, Nat.zero_le _, rfl, rfl, Below.refl _ _, fun _ => rfl⟩
          case round =>
            obtain ⟨j, hj, rfl, HT, HBL, HCL⟩ := hrel
            have HBL0 := Lib.hid (HW0.out.trans (HBL.out.mono HW0.out.size))
            have HI := Lib.hid (hI.below HBL0.out)
            have p1 := (HCL.out _).trans n1
            have q1 := (HCL.out _).trans m1
            have p2 := (HCL.out _).trans n2
            have q2 := (HCL.out _).trans m2
            have j0 : (0 : Int) ≤ (j : Int) := by omega
            by_cases hlt : j < i1.length
            · have hlt2 : j < i2.length := by have := HIL.out; omega
              have j1 : (j : Int) < i1.length := by omega
              obtain ⟨b1, o1, rfl, a0, a1, a2, a3⟩ := HAi.out.cell HI.out hlt
              have hbc := HBi.out
              obtain ⟨b2, o2, hB2, d0, d1, d2, d3⟩ := hbc.cell HI.out hlt2
              subst hB2
              have HTX := Lib.hid (show i1.take (j + 1) = i1.take j ++ [i1[j]] from List.take_succ_eq_append_getElem hlt)
              have HTY := Lib.hid (show i2.take (j + 1) = i2.take j ++ [i2[j]] from List.take_succ_eq_append_getElem hlt2)
              have HNE := Lib.hid (fun h => take_ne (l := i1) (k := i2) hlt hlt2 h)
              have hc2 := fun w => hcmp i1[j] i2[j] w
              generalize i1[j] = x at *
              generalize i2[j] = y at *
              clear hbc
              by_cases hw : x = y
              · have hd : decide (x ≠ y) = false := decide_eq_false (fun h => h hw)
                simp only [hd] at hc2
                have HT3 : Hid (i1.take (j + 1) = i2.take (j + 1)) := by rw [Hid, HTX.out, HTY.out, HT.out, hw]
                clear hcmp hw hd
                go_wp2_with fail
                go_big_quiet (fail)
                go_wp2_with fail
                go_roundw
                case rel => exact ⟨j + 1, by omega, by go_num, HT3, HBL.out.drewsS nq, HCL⟩
                case measure => simp [intOf] <;> omega
              · have hd : decide (x ≠ y) = true := decide_eq_true hw
                simp only [hd] at hc2
                have HN := Lib.hid (HNE.out hw)
                clear hcmp hw hd
                go_wp2_with fail
                go_big_quiet (fail)
                go_wp2_with fail
                go_ret
                exact ⟨by rw [decide_eq_false (fun e => HN.out (Nd.mk.inj e).2.1)]; rfl, HBL0.out.drewsS nq⟩
            · obtain rfl : j = i1.length := by omega
              have HE : Hid (i1 = i2) := by
                have h1 := HT.out
                rw [List.take_length, HIL.out, List.take_length] at h1
                exact h1
              have j1 : ¬ (i1.length : Int) < i1.length := by omega
              go_wp2_with fail
              go_loopw [6] (fun iv wq => ∃ q : Nat, q ≤ k1.length ∧ iv = .int .i64 q ∧ Hid (k1.take q = k2.take q) ∧ Hid (Below W.heap.size W wq) ∧ Hid (∀ a, wq.cell? a = W.cell? a)) (fun iv _ => k1.length - (intOf iv).toNat)
              case atStart => exact ⟨0, Nat.zero_le _, rfl, rfl, HBL, HCL⟩
              case round =>
                clear p1 q1 p2 q2 HBL0 HI HBL HCL
                obtain ⟨q, hq, rfl, HTQ, HBL, HCL⟩ := hrel
                have HBL0 := Lib.hid (HW0.out.trans (HBL.out.mono HW0.out.size))
                have HI := Lib.hid (hI.below HBL0.out)
                have p2 := (HCL.out _).trans n2
                have q2 := (HCL.out _).trans m2
                have t0 : (0 : Int) ≤ (q : Int) := by omega
                by_cases hqt : q < k1.length
                · have hqt2 : q < k2.length := by have := HKL.out; omega
                  have t1 : (q : Int) < k1.length := by omega
                  obtain ⟨b1, o1, rfl, a0⟩ := HAk.out.cell HI.out hqt
                  have hbc := HBk.out
                  obtain ⟨b2, o2, hB2, d0⟩ := hbc.cell HI.out hqt2
                  subst hB2
                  have HTX := Lib.hid (show k1.take (q + 1) = k1.take q ++ [k1[q]] from List.take_succ_eq_append_getElem hqt)
                  have HTY := Lib.hid (show k2.take (q + 1) = k2.take q ++ [k2[q]] from List.take_succ_eq_append_getElem hqt2)
                  have HNE := Lib.hid (fun h => take_ne (l := k1) (k := k2) hqt hqt2 h)
                  generalize k1[q] = x at *
                  generalize k2[q] = y at *
                  clear hbc
                  by_cases hw : x = y
                  · have HT3 : Hid (k1.take (q + 1) = k2.take (q + 1)) := by rw [Hid, HTX.out, HTY.out, HTQ.out, hw]
                    subst hw
                    go_wp2_with fail
                    go_big_quiet (fail)
                    go_wp2_with fail
                    go_roundw
                    case rel => exact ⟨q + 1, by omega, by go_num, HT3, HBL.out.drewsS nq, HCL⟩
                    case measure => simp [intOf] <;> omega
                  · have hd : (x != y) = true := by simpa using hw
                    have HN := Lib.hid (HNE.out hw)
                    go_wp2_with fail
                    go_big_quiet (fail)
                    go_wp2_with fail
                    go_ret
                    exact ⟨by rw [decide_eq_false (fun e => HN.out (Nd.mk.inj e).2.2)]; rfl, HBL0.out.drewsS nq⟩
                · obtain rfl : q = k1.length := by omega
                  have HEK : Hid (k1 = k2) := by
                    have h1 := HTQ.out
                    rw [List.take_length, HKL.out, List.take_length] at h1
                    exact h1
                  have t1 : ¬ (k1.length : Int) < k1.length := by omega
                  go_wp2_with fail
                  go_ret
                  have HQ1 := Lib.hid (show decide (i1 = i2) = true from decide_eq_true HE.out)
                  have HQ2 := Lib.hid (show decide (k1 = k2) = true from decide_eq_true HEK.out)
                  exact ⟨by rw [HQ1.out, HQ2.out]; rfl, HBL0.out⟩
      · have HN := Lib.hid (show ¬ (Nd.mk l1 i1 k1 = ⟨l1, i2, k2⟩) from fun e => hkl (congrArg (fun n => n.kids.length) e))
        have hd : ((k1.length : Int) != k2.length) = true := by simp; omega
        have hd2 : ((i1.length : Int) != i2.length) = false := by simp; omega
        have hd3 : ¬ (k1.length : Int) = k2.length := by omega
        have hd4 : (i1.length : Int) = i2.length := by omega
        clear hil hkl
        cases l1
        all_goals
          go_wp2_with fail
          go_ret
          exact ⟨by rw [decide_eq_false HN.out]; rfl, HW0.out⟩
    · have HN := Lib.hid (show ¬ (Nd.mk l1 i1 k1 = ⟨l1, i2, k2⟩) from fun e => hil (congrArg (fun n => n.items.length) e))
      have hd : ((i1.length : Int) != i2.length) = true := by simp; omega
      have hd3 : ¬ (i1.length : Int) = i2.length := by omega
      clear hil
      cases l1
      all_goals
        go_wp2_with fail
        go_ret
        exact ⟨by rw [decide_eq_false HN.out]; rfl, HW0.out⟩
  · have HN := Lib.hid (show ¬ (Nd.mk l1 i1 k1 = ⟨l2, i2, k2⟩) from fun e => hl (Nd.mk.inj e).1)
    rcases bool_neS hl with ⟨rfl, rfl⟩ | ⟨rfl, rfl⟩
    all_goals
      clear hl
      go_wp2_with fail
      go_ret
      exact ⟨by rw [decide_eq_false HN.out]; rfl, HW0.out⟩
end Go.Proofs.Ytnnkgjaahmflmaa
