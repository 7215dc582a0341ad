/- The statement LexWrites. -/
import Derived.Test.YthfjeijhnikabaaLexIn
import Derived.Test.YthfjeijhnikabaaLexWr2
namespace Go.Proofs.Ythfjeijhnikabaa
open Go.RowKit
set_option linter.unusedVariables false

set_option maxRecDepth 100000 in
set_option maxHeartbeats 8000000 in
theorem lexWrites_walk {J : Jm} {w : World} (hI : Inv J w) {v : Value} {A : List Li} (hv : Lni J v A) (hz : ∀ l ∈ A, ∀ z ∈ l.ws, z.text.length ≤ 140737488351232) :
    Calls Try.prog 7 #[v] w fun e w' => e = .returned (.bool true) ∧ Below w.heap.size w w' := by
  obtain ⟨Aa, ca, rfl, hn, hm⟩ := hv.form
  have HV := Lib.hid hv
  have HZ := Lib.hid hz
  unfold maxLen at hm
  clear hv hz
  go_enter Try.func7, Try.ntmps7
  go_wp2_with fail
  refine (works_calls hI).mono ?_
  rintro e w1 ⟨J1, rfl, hE⟩
  have HE := Lib.hid hE
  have HV1 := Lib.hid (HV.out.mono (hE.le hI))
  clear hE
  go_wp2_with fail
  go_loopw [3, 4] (fun nv iv wr => ∃ N k : Nat, k ≤ A.length ∧ nv = .int .i64 N ∧ iv = .int .i64 k ∧ wr = w1 ∧ N ≤ 281474976710656 ∧ Hid (N < 262144 → N = tot (A.take k))) (fun _ iv _ => A.length - (intOf iv).toNat)
  case atStart => exact ⟨0, 0, Nat.zero_le _, rfl, rfl, rfl, by decide, fun _ => rfl⟩
  case round =>
    obtain ⟨N, k, hk, rfl, rfl, rfl, hN, HN⟩ := hrel
    have i0 : (0 : Int) ≤ (k : Int) := by omega
    have n0 : (0 : Int) ≤ (N : Int) := by omega
    by_cases hlt : k < A.length
    · have i1 : (k : Int) < A.length := by omega
      by_cases hN2 : N < 262144
      · have n1 : (N : Int) < 262144 := by omega
        have HNE := Lib.hid (HN.out hN2)
        obtain ⟨b, o, WA, wc, rfl, c0, c1, c2, hw⟩ := HV1.out.cell HE.out.inv hlt
        have HW := Lib.hid hw
        have HTA := Lib.hid (tot_at A k hlt)
        have HZ1 := Lib.hid (HZ.out A[k] (List.getElem_mem hlt))
        have hwl : A[k].ws.length ≤ 9223372036854775807 := by
          obtain ⟨_, _, hv, h1, h2⟩ := hw.form
          cases hv
          unfold maxLen at h2; omega
        generalize A[k] = l at *
        clear hw c0 c1
        go_wp2_with fail
        go_loopw [3, 5] (fun nv iv wq => ∃ M q : Nat, q ≤ l.ws.length ∧ nv = .int .i64 M ∧ iv = .int .i64 q ∧ wq = wr ∧ M ≤ 281474976710656 ∧ Hid (M < 262144 → M = tot (A.take k) + totW (l.ws.take q))) (fun _ iv _ => l.ws.length - (intOf iv).toNat)
        case atStart => exact ⟨N, 0, Nat.zero_le _, rfl, rfl, rfl, hN, fun _ => by rw [HNE.out]; rfl⟩
        case round =>
          clear hN n0 n1 HN HNE hN2
          obtain ⟨M, q, hq, rfl, rfl, rfl, hM, HM⟩ := hrel
          have q0 : (0 : Int) ≤ (q : Int) := by omega
          have m0 : (0 : Int) ≤ (M : Int) := by omega
          by_cases hql : q < l.ws.length
          · have q1 : (q : Int) < l.ws.length := by omega
            by_cases hM2 : M < 262144
            · have m1 : (M : Int) < 262144 := by omega
              have HME := Lib.hid (HM.out hM2)
              obtain ⟨b', o', rfl, d0, d1, d2, d3, d4⟩ := wi_cell HW.out HE.out.inv hql
              have HWT := Lib.hid (totW_at l.ws q hql)
              have hzl := HZ1.out l.ws[q] (List.getElem_mem hql)
              generalize l.ws[q] = z at *
              have hzs := strB_size z.text
              have HZL := Lib.hid (show True → z.text.length ≤ 140737488351232 from fun _ => hzl)
              have wz1 : IntKind.i64.wrap ((z.text.length : Int) + 1) = (z.text.length : Int) + 1 := by rw [IntKind.wrap_i64]; omega
              have wz2 : IntKind.i64.wrap ((M : Int) + ((z.text.length : Int) + 1)) = ((M + (z.text.length + 1) : Nat) : Int) := by rw [IntKind.wrap_i64]; omega
              have hMn : M + (z.text.length + 1) ≤ 281474976710656 := by omega
              obtain ⟨M2, hM3⟩ : ∃ M2, M2 = M + (z.text.length + 1) := ⟨_, rfl⟩
              rw [← hM3] at wz2 hMn
              have HM3 := Lib.hid hM3
              clear d1 d2 d3 d4 hzl hM3
              go_wp2_with fail
              go_roundw
              case rel => exact ⟨M2, q + 1, by omega, by first | rfl | go_num, by go_num, trivial, hMn, fun _ => by rw [HM3.out, HME.out, HWT.out]; omega⟩
              case measure => simp [intOf]; omega
            · have m1 : ¬ (M : Int) < 262144 := by omega
              go_wp2_with fail
              go_roundw
              case rel => exact ⟨M, k + 1, by omega, rfl, by go_num, trivial, hM, fun h => absurd h hM2⟩
              case measure => simp [intOf]; omega
          · obtain rfl : q = l.ws.length := by omega
            have q1 : ¬ (l.ws.length : Int) < l.ws.length := by omega
            have hm2 := HM.out
            rw [List.take_of_length_le (Nat.le_refl _), ← HTA.out] at hm2
            have HM := Lib.hid hm2
            clear hm2
            go_wp2_with fail
            go_roundw
            case rel => exact ⟨M, k + 1, by omega, rfl, by go_num, trivial, hM, HM⟩
            case measure => simp [intOf]; omega
      · have n1 : ¬ (N : Int) < 262144 := by omega
        have n2 : (262144 : Int) ≤ (N : Int) := by omega
        go_wp2_with fail
        go_ret
        exact ⟨rfl, HE.out.below⟩
    · obtain rfl : k = A.length := by omega
      have i1 : ¬ (A.length : Int) < A.length := by omega
      have hm2 := HN.out
      rw [List.take_of_length_le (Nat.le_refl _)] at hm2
      by_cases hN2 : N < 262144
      · have n1 : ¬ (262144 : Int) ≤ (N : Int) := by omega
        have ht := hm2 hN2
        by_cases hA : 65536 < A.length
        · have a1 : (65536 : Int) < A.length := by omega
          clear hm2 ht
          go_wp2_with fail
          go_ret
          exact ⟨rfl, HE.out.below⟩
        · have a1 : ¬ (65536 : Int) < A.length := by omega
          have HTT := Lib.hid (show tot A ≤ 1048576 by omega)
          have HA8 := Lib.hid (show A.length ≤ 1048576 by omega)
          clear hm2 ht hA hN2 hN
          go_wp2_with fail
          refine (write_calls HE.out.inv HV1.out HA8.out HTT.out).mono ?_
          rintro e w2 ⟨rfl, hb2⟩
          have HE := Lib.hid (HE.out.step hb2)
          clear hb2
          go_wp2_with fail
          refine (refWrite_calls HE.out.inv HV1.out HA8.out HTT.out).mono ?_
          rintro e w3 ⟨rfl, hb3⟩
          have HE := Lib.hid (HE.out.step hb3)
          clear hb3
          go_wp2_with fail
          go_ret
          exact ⟨rfl, HE.out.below⟩
      · have n2 : (262144 : Int) ≤ (N : Int) := by omega
        clear hm2
        go_wp2_with fail
        go_ret
        exact ⟨rfl, HE.out.below⟩
end Go.Proofs.Ythfjeijhnikabaa
