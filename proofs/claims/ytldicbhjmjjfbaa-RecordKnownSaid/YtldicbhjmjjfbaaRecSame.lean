/- The walks of record's Same and of the document's. -/
import Derived.Test.YtldicbhjmjjfbaaRecMem
import Derived.Test.YtldicbhjmjjfbaaLSEq
import Derived.WalkSpells
import Derived.IntWalk
import Derived.Deep.CutBlock
import Derived.Deep.DeepCutAuto
import Derived.Deep.QuietTactic
import Derived.BigQuiet
namespace Go.Proofs.Ytldicbhjmjjfbaa
open Go.RowKit
set_option linter.unusedVariables false

theorem ne_neq (x y : Nee) (w : World) : (binOp .neq 38 (.agg #[.string (strB x.path), .bool x.hv, .string (strB x.cont)]) (.agg #[.string (strB y.path), .bool y.hv, .string (strB y.cont)])).run Try.prog w = .ok (.bool (decide (x ≠ y))) w := by
  obtain ⟨t1, l1, c1⟩ := x
  obtain ⟨t2, l2, c2⟩ := y
  by_cases h1 : t1 = t2 <;> by_cases h2 : l1 = l2 <;> by_cases h3 : c1 = c2 <;> simp [go_sem, strB_toList, h1, h2, h3]
theorem take_neR {α : Type} [DecidableEq α] {l k : List α} {j : Nat} (h1 : j < l.length) (h2 : j < k.length) (h : l[j] ≠ k[j]) : l ≠ k := by rintro rfl; exact h rfl
set_option maxRecDepth 100000 in
set_option maxHeartbeats 4000000 in
theorem needsEq_calls {J : Jm} {w : World} (hI : Inv J w) {v u : Value} {l k : List Nee} (hb : Ns J v l) (hc : Ns J u k) :
    Calls Try.prog 45 #[v, u] w fun e w' => e = .returned (.bool (decide (l = k))) ∧ Below w.heap.size w w' := by
  obtain ⟨A, c, rfl, hn, hm⟩ := hb.form
  obtain ⟨A', c', rfl, hn', hm'⟩ := hc.form
  unfold maxLen at hm hm'
  have HB := Lib.hid hb
  have HC := Lib.hid hc
  have hcmp := ne_neq
  clear hb hc
  go_enter Try.func45, Try.ntmps45
  by_cases hlen : l.length = k.length
  · have hlenI : (l.length : Int) = k.length := by omega
    go_wp2_with fail
    have HLEN := Lib.hid hlen
    clear hlen
    go_loopw [13] (fun i wr => ∃ (j : Nat), j ≤ l.length ∧ i = .int .i64 j ∧ Hid (l.take j = k.take j) ∧ Hid (Below w.heap.size w wr)) (fun i _ => l.length - (intOf i).toNat)
    case atStart => exact ⟨0, by omega, rfl, by simp [Hid], Below.refl _ _⟩
    case round =>
      obtain ⟨j, hj, rfl, HT, HBL⟩ := hrel
      have HI := Lib.hid (hI.below HBL.out)
      by_cases hlt : j < l.length
      · have hlt2 : j < k.length := by have := HLEN.out; omega
        obtain ⟨b, o, rfl, a0, a1, a2⟩ := Ns.cell HB.out HI.out hlt
        obtain ⟨b', o', rfl, d0, d1, d2⟩ := Ns.cell HC.out HI.out hlt2
        have i0 : (0 : Int) ≤ (j : Int) := by omega
        have i1 : (j : Int) < l.length := by omega
        have i2 : (j : Int) < k.length := by omega
        have HTX := Lib.hid (show l.take (j + 1) = l.take j ++ [l[j]] from List.take_succ_eq_append_getElem hlt)
        have HTY := Lib.hid (show k.take (j + 1) = k.take j ++ [k[j]] from List.take_succ_eq_append_getElem hlt2)
        have HNE := Lib.hid (fun h => take_neR (l := l) (k := k) hlt hlt2 h)
        have hc2 := fun w => hcmp l[j] k[j] w
        generalize l[j] = x at *
        generalize k[j] = y at *
        by_cases hw : x = y
        · have hd : decide (x ≠ y) = false := decide_eq_false (fun h => h hw)
          simp only [hd] at hc2
          have HT3 : Hid (l.take (j + 1) = k.take (j + 1)) := by rw [Hid, HTX.out, HTY.out, HT.out, hw]
          clear hcmp hw hd
          go_wp2_with fail
          go_big_quiet (fail)
          go_wp2_with fail
          go_roundw
          case rel => exact ⟨j + 1, by omega, by go_num, HT3, HBL.out.drews nq⟩
          case measure => simp [intOf] <;> omega
        · have hd : decide (x ≠ y) = true := decide_eq_true hw
          simp only [hd] at hc2
          have HN := Lib.hid (HNE.out hw)
          clear hcmp hw hd
          go_wp2_with fail
          go_big_quiet (fail)
          go_wp2_with fail
          go_ret
          exact ⟨by rw [decide_eq_false HN.out]; rfl, HBL.out.drews nq⟩
      · obtain rfl : j = l.length := by omega
        have HE : Hid (l = k) := by
          have h1 := HT.out
          rw [List.take_length, HLEN.out, List.take_length] at h1
          exact h1
        have i1 : ¬ (l.length : Int) < l.length := by omega
        go_wp2_with fail
        go_ret
        exact ⟨by rw [decide_eq_true HE.out]; rfl, HBL.out⟩
  · have hlenI : ¬ (l.length : Int) = k.length := by omega
    have HN : Hid (l ≠ k) := by intro h; subst h; exact hlen rfl
    go_wp2_with fail
    go_ret
    exact ⟨by rw [decide_eq_false HN.out]; rfl, Below.refl _ _⟩
theorem two_tr (w : World) (a b : Trc) (vn vo un uo : Value) :
    Below w.heap.size w ((w.alloc (.cells #[.string (strB a.job), vn, vo] 26)).alloc (.cells #[.string (strB b.job), un, uo] 26)) ∧
    TBox ((w.alloc (.cells #[.string (strB a.job), vn, vo] 26)).alloc (.cells #[.string (strB b.job), un, uo] 26)) w.heap.size a vn vo ∧
    TBox ((w.alloc (.cells #[.string (strB a.job), vn, vo] 26)).alloc (.cells #[.string (strB b.job), un, uo] 26)) (w.heap.size + 1) b un uo := by
  refine ⟨((Below.refl w.heap.size w).alloc (Nat.le_refl _) _).alloc (by simp) _, (Below.heap_alloc _ _ w.heap.size (by simp)).trans (heap_alloc_new w _), ?_⟩
  have h := heap_alloc_new (w.alloc (.cells #[.string (strB a.job), vn, vo] 26)) (.cells #[.string (strB b.job), un, uo] 26)
  rw [show (w.alloc (.cells #[.string (strB a.job), vn, vo] 26)).heap.size = w.heap.size + 1 by simp] at h
  exact h
theorem trc_eq (a b : Trc) : decide (a = b) = (decide (a.job = b.job) && decide (a.needs = b.needs) && decide (a.outs = b.outs)) := by
  obtain ⟨j1, n1, o1⟩ := a
  obtain ⟨j2, n2, o2⟩ := b
  rw [Bool.eq_iff_iff]
  simp [and_assoc]
set_option maxRecDepth 100000 in
set_option maxHeartbeats 4000000 in
theorem same_calls {J : Jm} {w : World} (hI : Inv J w) {v u : Value} {a b : Trc} (ha : TrV J v a) (hb : TrV J u b) :
    Calls Try.prog 22 #[v, u] w fun e w' => e = .returned (.bool (decide (a = b))) ∧ Below w.heap.size w w' := by
  obtain ⟨vn, vo, rfl, hn, ho⟩ := ha
  obtain ⟨un, uo, rfl, gn, go⟩ := hb
  obtain ⟨t0, t1, t2⟩ := two_tr w a b vn vo un uo
  have HEQ := Lib.hid (trc_eq a b)
  have hs := strB_beq a.job b.job
  go_enter Try.func22, Try.ntmps22
  go_upto_region 1 with fail
  have HW := Lib.hid (And.intro t0 trivial)
  have HA := Lib.hid t1
  have HB := Lib.hid t2
  clear t0 t1 t2
  generalize World.alloc (World.alloc w _) _ = W at *
  have n0 := HA.out.c0
  have n1 := HA.out.c1
  have n2 := HA.out.c2
  have m0 := HB.out.c0
  have m1 := HB.out.c1
  have m2 := HB.out.c2
  have hIW := hI.below HW.out.1
  by_cases hj : a.job = b.job
  · have hj2 : (a.job == b.job) = true := by simp [hj]
    rw [hj2] at hs
    go_wp2_with fail
    refine (needsEq_calls hIW hn gn).mono ?_
    rintro e w1 ⟨rfl, hb1⟩
    have HA1 := Lib.hid (HA.out.below hb1)
    have HB1 := Lib.hid (HB.out.below hb1)
    have HW1 := Lib.hid (HW.out.1.trans (hb1.mono HW.out.1.size))
    have hI1 := hI.below HW1.out
    clear hb1 n0 n1 n2 m0 m1 m2
    have n2 := HA1.out.c2
    have m2 := HB1.out.c2
    by_cases hne : a.needs = b.needs
    · have HD := Lib.hid (show decide (a = b) = decide (a.outs = b.outs) by rw [HEQ.out, decide_eq_true hj, decide_eq_true hne]; rfl)
      rw [decide_eq_true hne]
      clear hj hne hj2
      go_wp2_with fail
      refine (sequal_calls hI1 ho go).mono ?_
      rintro e w2 ⟨rfl, hb2⟩
      go_wp2_with fail
      go_ret
      exact ⟨by rw [HD.out]; rfl, HW1.out.trans (hb2.mono HW1.out.size)⟩
    · have HD := Lib.hid (show decide (a = b) = false by rw [HEQ.out, decide_eq_false hne]; simp)
      rw [decide_eq_false hne]
      clear hj hne hj2
      go_wp2_with fail
      go_ret
      exact ⟨by rw [HD.out]; rfl, HW1.out⟩
  · have hj2 : (a.job == b.job) = false := by simpa using hj
    rw [hj2] at hs
    have HD := Lib.hid (show decide (a = b) = false by rw [HEQ.out, decide_eq_false hj]; rfl)
    clear hj hj2
    go_wp2_with fail
    go_ret
    exact ⟨by rw [HD.out]; rfl, HW.out.1⟩
set_option maxRecDepth 100000 in
set_option maxHeartbeats 8000000 in
theorem refSame_calls {J : Jm} {w : World} (hI : Inv J w) {v u : Value} {a b : Trc} (ha : TrV J v a) (hb : TrV J u b) :
    Calls Try.prog 11 #[v, u] w fun e w' => e = .returned (.bool (decide (a = b))) ∧ Below w.heap.size w w' := by
  obtain ⟨vn, vo, rfl, hn, ho⟩ := ha
  obtain ⟨un, uo, rfl, gn, go⟩ := hb
  obtain ⟨An, cn, rfl, hcn, hmn⟩ := hn.form
  obtain ⟨Ao, co, rfl, hco, hmo⟩ := ho.form
  obtain ⟨Bn, dn, rfl, gcn, gmn⟩ := gn.form
  obtain ⟨Bo, dO, rfl, gco, gmo⟩ := go.form
  unfold maxLen at hmn hmo gmn gmo
  obtain ⟨t0, t1, t2⟩ := two_tr w a b (.slice An a.needs.length cn) (.slice Ao a.outs.length co) (.slice Bn b.needs.length dn) (.slice Bo b.outs.length dO)
  have HEQ := Lib.hid (trc_eq a b)
  have hs := strB_beq a.job b.job
  have hcmp := ne_neq
  have HN := Lib.hid hn
  have HO := Lib.hid ho
  have GN := Lib.hid gn
  have GO := Lib.hid go
  clear hn ho gn go
  go_enter Try.func11, Try.ntmps11
  go_upto_region 1 with fail
  have HW := Lib.hid (And.intro t0 trivial)
  have HA := Lib.hid t1
  have HB := Lib.hid t2
  clear t0 t1 t2
  generalize World.alloc (World.alloc w _) _ = W at *
  by_cases hj : a.job = b.job
  case neg =>
    have n0 := HA.out.c0
    have m0 := HB.out.c0
    have hj2 : (a.job == b.job) = false := by simpa using hj
    rw [hj2] at hs
    have HD := Lib.hid (show decide (a = b) = false by rw [HEQ.out, decide_eq_false hj]; rfl)
    clear hj hj2
    go_wp2_with fail
    go_ret
    exact ⟨by rw [HD.out]; rfl, HW.out.1⟩
  have hj2 : (a.job == b.job) = true := by simp [hj]
  rw [hj2] at hs
  by_cases hnl : a.needs.length = b.needs.length
  case neg =>
    have n0 := HA.out.c0
    have m0 := HB.out.c0
    have n1 := HA.out.c1
    have m1 := HB.out.c1
    have hd : ((a.needs.length : Int) != b.needs.length) = true := by simp; omega
    have hd3 : ¬ (a.needs.length : Int) = b.needs.length := by omega
    have HD := Lib.hid (show decide (a = b) = false by rw [HEQ.out, decide_eq_false (fun e => hnl (congrArg List.length e))]; simp)
    clear hj hj2 hnl
    go_wp2_with fail
    go_ret
    exact ⟨by rw [HD.out]; rfl, HW.out.1⟩
  by_cases hol : a.outs.length = b.outs.length
  case neg =>
    have n0 := HA.out.c0
    have m0 := HB.out.c0
    have n1 := HA.out.c1
    have m1 := HB.out.c1
    have n2 := HA.out.c2
    have m2 := HB.out.c2
    have hd : ((a.needs.length : Int) != b.needs.length) = false := by simp; omega
    have hd2 : ((a.outs.length : Int) != b.outs.length) = true := by simp; omega
    have hd3 : (a.needs.length : Int) = b.needs.length := by omega
    have hd4 : ¬ (a.outs.length : Int) = b.outs.length := by omega
    have HD := Lib.hid (show decide (a = b) = false by rw [HEQ.out, decide_eq_false (fun e => hol (congrArg List.length e))]; simp)
    clear hj hj2 hnl hol
    go_wp2_with fail
    go_ret
    exact ⟨by rw [HD.out]; rfl, HW.out.1⟩
  have HNL := Lib.hid hnl
  have HOL := Lib.hid hol
  have HD := Lib.hid (show decide (a = b) = (decide (a.needs = b.needs) && decide (a.outs = b.outs)) by rw [HEQ.out, decide_eq_true hj]; rfl)
  rw [← hnl, ← hol] at HB
  have n0 := HA.out.c0
  have m0 := HB.out.c0
  have n1 := HA.out.c1
  have m1 := HB.out.c1
  have n2 := HA.out.c2
  have m2 := HB.out.c2
  clear hj hj2 hnl hol gcn gco
  go_wp2_with fail
  go_loopw [5] (fun iv wr => ∃ j : Nat, j ≤ a.needs.length ∧ iv = .int .i64 j ∧ Hid (a.needs.take j = b.needs.take j) ∧ Hid (Below W.heap.size W wr) ∧ Hid (∀ a, wr.cell? a = W.cell? a)) (fun iv _ => a.needs.length - (intOf iv).toNat)
  case atStart => exact ⟨0, Nat.zero_le _, rfl, rfl, Below.refl _ _, fun _ => rfl⟩
  case round =>
    obtain ⟨j, hj, rfl, HT, HBL, HCL⟩ := hrel
    have HBL0 := Lib.hid (HW.out.1.trans (HBL.out.mono HW.out.1.size))
    have HI := Lib.hid (hI.below HBL0.out)
    have p1 := (HCL.out _).trans n1
    have q1 := (HCL.out _).trans m1
    have p2 := (HCL.out _).trans n2
    have q2 := (HCL.out _).trans m2
    have j0 : (0 : Int) ≤ (j : Int) := by omega
    by_cases hlt : j < a.needs.length
    · have hlt2 : j < b.needs.length := by have := HNL.out; omega
      have j1 : (j : Int) < a.needs.length := by omega
      obtain ⟨b1, o1, rfl, a0, a1, a2⟩ := Ns.cell HN.out HI.out hlt
      have hbc := GN.out
      obtain ⟨b2, o2, hB2, d0, d1, d2⟩ := Ns.cell hbc HI.out hlt2
      subst hB2
      have HTX := Lib.hid (show a.needs.take (j + 1) = a.needs.take j ++ [a.needs[j]] from List.take_succ_eq_append_getElem hlt)
      have HTY := Lib.hid (show b.needs.take (j + 1) = b.needs.take j ++ [b.needs[j]] from List.take_succ_eq_append_getElem hlt2)
      have HNE := Lib.hid (fun h => take_neR (l := a.needs) (k := b.needs) hlt hlt2 h)
      have hc2 := fun w => hcmp a.needs[j] b.needs[j] w
      generalize a.needs[j] = x at *
      generalize b.needs[j] = y at *
      clear hbc
      by_cases hw : x = y
      · have hd : decide (x ≠ y) = false := decide_eq_false (fun h => h hw)
        simp only [hd] at hc2
        have HT3 : Hid (a.needs.take (j + 1) = b.needs.take (j + 1)) := by rw [Hid, HTX.out, HTY.out, HT.out, hw]
        clear hcmp hw hd
        go_wp2_with fail
        go_big_quiet (fail)
        go_wp2_with fail
        go_roundw
        case rel => exact ⟨j + 1, by omega, by go_num, HT3, HBL.out.drews nq, HCL⟩
        case measure => simp [intOf] <;> omega
      · have hd : decide (x ≠ y) = true := decide_eq_true hw
        simp only [hd] at hc2
        have HNN := Lib.hid (HNE.out hw)
        clear hcmp hw hd
        go_wp2_with fail
        go_big_quiet (fail)
        go_wp2_with fail
        go_ret
        exact ⟨by rw [HD.out, decide_eq_false HNN.out]; rfl, HBL0.out.drews nq⟩
    · obtain rfl : j = a.needs.length := by omega
      have HE : Hid (a.needs = b.needs) := by
        have h1 := HT.out
        rw [List.take_length, HNL.out, List.take_length] at h1
        exact h1
      have j1 : ¬ (a.needs.length : Int) < a.needs.length := by omega
      go_wp2_with fail
      go_loopw [6] (fun iv wq => ∃ q : Nat, q ≤ a.outs.length ∧ iv = .int .i64 q ∧ Hid (a.outs.take q = b.outs.take q) ∧ Hid (Below W.heap.size W wq) ∧ Hid (∀ a, wq.cell? a = W.cell? a)) (fun iv _ => a.outs.length - (intOf iv).toNat)
      case atStart => exact ⟨0, Nat.zero_le _, rfl, rfl, HBL, HCL⟩
      case round =>
        clear p1 q1 p2 q2 HBL0 HI HBL HCL
        obtain ⟨q, hq, rfl, HTQ, HBL, HCL⟩ := hrel
        have HBL0 := Lib.hid (HW.out.1.trans (HBL.out.mono HW.out.1.size))
        have HI := Lib.hid (hI.below HBL0.out)
        have p2 := (HCL.out _).trans n2
        have q2 := (HCL.out _).trans m2
        have t0 : (0 : Int) ≤ (q : Int) := by omega
        by_cases hqt : q < a.outs.length
        · have hqt2 : q < b.outs.length := by have := HOL.out; omega
          have t1 : (q : Int) < a.outs.length := by omega
          obtain ⟨b1, o1, rfl, a0⟩ := Ss.cell HO.out HI.out hqt
          have hbc := GO.out
          obtain ⟨b2, o2, hB2, d0⟩ := Ss.cell hbc HI.out hqt2
          subst hB2
          have HTX := Lib.hid (show a.outs.take (q + 1) = a.outs.take q ++ [a.outs[q]] from List.take_succ_eq_append_getElem hqt)
          have HTY := Lib.hid (show b.outs.take (q + 1) = b.outs.take q ++ [b.outs[q]] from List.take_succ_eq_append_getElem hqt2)
          have HNE := Lib.hid (fun h => take_neR (l := a.outs) (k := b.outs) hqt hqt2 h)
          have hs9 := strB_beq a.outs[q] b.outs[q]
          generalize a.outs[q] = x at *
          generalize b.outs[q] = y at *
          clear hbc
          by_cases hw : x = y
          · have HT3 : Hid (a.outs.take (q + 1) = b.outs.take (q + 1)) := by rw [Hid, HTX.out, HTY.out, HTQ.out, hw]
            have hs2 : ((strB x).toList == (strB y).toList) = true := by rw [hs9]; simp [hw]
            clear hw hs9
            go_wp2_with fail
            go_big_quiet (fail)
            go_wp2_with fail
            go_roundw
            case rel => exact ⟨q + 1, by omega, by go_num, HT3, HBL.out.drews nq, HCL⟩
            case measure => simp [intOf] <;> omega
          · have hs2 : ((strB x).toList == (strB y).toList) = false := by rw [hs9]; simp [hw]
            have HNN := Lib.hid (HNE.out hw)
            clear hw hs9
            go_wp2_with fail
            go_big_quiet (fail)
            go_wp2_with fail
            go_ret
            exact ⟨by rw [HD.out, decide_eq_false HNN.out, Bool.and_false]; rfl, HBL0.out.drews nq⟩
        · obtain rfl : q = a.outs.length := by omega
          have HEK : Hid (a.outs = b.outs) := by
            have h1 := HTQ.out
            rw [List.take_length, HOL.out, List.take_length] at h1
            exact h1
          have t1 : ¬ (a.outs.length : Int) < a.outs.length := by omega
          go_wp2_with fail
          go_ret
          exact ⟨by rw [HD.out, decide_eq_true HE.out, decide_eq_true HEK.out]; rfl, HBL0.out⟩
end Go.Proofs.Ytldicbhjmjjfbaa
