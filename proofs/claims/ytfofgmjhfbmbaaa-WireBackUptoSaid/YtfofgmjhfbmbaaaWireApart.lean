/- The statement WireApart. -/
import Derived.Test.YtfofgmjhfbmbaaaWireWorks
import Derived.Test.YtfofgmjhfbmbaaaLHasPre
import Derived.Test.YtfofgmjhfbmbaaaJBulk
namespace Go.Proofs.Ytfofgmjhfbmbaaa
open Go.RowKit

theorem uts_bulk (ls : List (List UInt8)) (h : bulkS ls ≤ 1048576) : (uts ls).length ≤ 11 * bulkS ls := by
  induction ls with
  | nil => simp [uts]
  | cons s ls ih =>
    simp only [bulkS] at h ⊢
    have h1 := ih (by omega)
    have h2 := uv_len63 s.length (by omega)
    have h3 : (uts (s :: ls)).length = (ut s).length + (uts ls).length := by simp [uts]
    rw [h3, ut_len]
    omega
theorem bulk_len (ls : List (List UInt8)) : ls.length ≤ bulkS ls := by
  induction ls with
  | nil => simp
  | cons s ls ih => simp only [bulkS, List.length_cons]; omega
theorem ul_bulk (ls : List (List UInt8)) (h : bulkS ls ≤ 1048576) : (ul ls).length ≤ 20000000 := by
  have h1 := uts_bulk ls h
  have h2 := bulk_len ls
  have h3 := uv_len63 ls.length (by omega)
  rw [ul_len]
  omega
theorem uv_pre (n m : Nat) : decide (uv m <+: uv n) = decide (n = m) := by
  by_cases h : n = m
  · subst h; simp
  · rw [decide_eq_false h, decide_eq_false]
    rintro ⟨r, hr⟩
    have := uv_inj m n r [] (by rw [hr, List.append_nil])
    exact h this.1.symm
theorem ul_pre (l k : List (List UInt8)) : decide (ul k <+: ul l) = decide (l = k) := by
  by_cases h : l = k
  · subst h; simp
  · rw [decide_eq_false h, decide_eq_false]
    rintro ⟨r, hr⟩
    have := ul_inj (a := k) (b := l) (r := r) (s := []) (by rw [hr, List.append_nil])
    exact h this.1.symm
theorem list_eq_comm (l k : List (List UInt8)) : decide (l = k) = decide (k = l) := by
  by_cases h : l = k
  · subst h; rfl
  · rw [decide_eq_false h, decide_eq_false (fun e => h e.symm)]
set_option maxRecDepth 100000 in
set_option maxHeartbeats 8000000 in
theorem wireApart_walk {J : Jm} {w : World} (hI : Inv J w) (n : Nat) (hn : n < 18446744073709551616) (m : Nat) (hm : m < 18446744073709551616)
    {v u : Value} {l k : List (List UInt8)} (hl : Ss J v l) (hl0 : bulkS l ≤ 1048576) (hk : Ss J u k) (hk0 : bulkS k ≤ 1048576) :
    Calls Try.prog 5 #[.int .u64 n, .int .u64 m, v, u] w fun e w' => e = .returned (.bool true) ∧ Below w.heap.size w w' := by
  have hlb := ul_bulk l hl0
  have hkb := ul_bulk k hk0
  have h1 := uv_pos n
  have h2 := uv_len63 n hn
  have h3 := uv_mono m n
  clear hl0 hk0
  go_enter Try.func5, Try.ntmps5
  by_cases hnm : n = m
  · subst hnm
    clear h3
    go_wp2_with (first | (go_at_call 9; go_must (refine (works_calls hI).mono ?_; rintro e w1 ⟨J1, rfl, hE⟩; have HE1 := Lib.hid hE; clear hE)) | (go_at_call 11; have mark := HE2; go_must (refine (putUint_calls HE2.out.inv n hm).mono ?_; rintro e w3 ⟨v3, J3, rfl, hE, hO⟩; have HE3 := Lib.hid (HE2.out.trans hE); have HB3 := Lib.hid hO.bs; have HA3 := Lib.hid (HB2.out.mono (hE.le HE2.out.inv)); have HF3 := Lib.hid hO.bs.form; have HF2 := Lib.hid HB2.out.form; clear hE hO mark; obtain ⟨A3, c3, rfl, -, -⟩ := HF3.out; obtain ⟨A2, c2, rfl, -, -⟩ := HF2.out)) | (go_at_call 11; go_must (refine (putUint_calls HE1.out.inv n hn).mono ?_; rintro e w2 ⟨v2, J2, rfl, hE, hO⟩; have HE2 := Lib.hid (HE1.out.trans hE); have HB2 := Lib.hid hO.bs; clear hE hO)) | (go_at_call 20; (fail_if_success have := HE4); go_must (refine (hasprefix_calls HE3.out.inv HA3.out HB3.out).mono ?_; rw [uv_pre]; rintro e w9 ⟨rfl, rfl⟩)) | (go_at_call 13; have mark := HE4; go_must (refine (putList_calls HE4.out.inv (hk.mono (HE4.out.le hI)) (by omega)).mono ?_; rintro e w5 ⟨v5, J5, rfl, hE, hO⟩; have HE5 := Lib.hid (HE4.out.trans hE); have HB5 := Lib.hid hO.bs; have HA5 := Lib.hid (HB4.out.mono (hE.le HE4.out.inv)); clear hE hO mark)) | (go_at_call 13; go_must (refine (putList_calls HE3.out.inv (hl.mono (HE3.out.le hI)) (by omega)).mono ?_; rintro e w4 ⟨v4, J4, rfl, hE, hO⟩; have HE4 := Lib.hid (HE3.out.trans hE); have HB4 := Lib.hid hO.bs; clear hE hO)) | (go_at_call 21; have mark := HE6; go_must (refine (sequal_calls HE6.out.inv (hl.mono (HE6.out.le hI)) (hk.mono (HE6.out.le hI))).mono ?_; rintro e w7 ⟨rfl, hB⟩; have HE7 := Lib.hid (HE6.out.step hB); clear hB mark)) | (go_at_call 21; go_must (refine (sequal_calls HE5.out.inv (hl.mono (HE5.out.le hI)) (hk.mono (HE5.out.le hI))).mono ?_; rintro e w6 ⟨rfl, hB⟩; have HE6 := Lib.hid (HE5.out.step hB); clear hB)) | (go_at_call 20; have mark := HE6; go_must (refine (hasprefix_calls HE6.out.inv HB5.out HA5.out).mono ?_; rw [ul_pre, list_eq_comm]; rintro e w9 ⟨rfl, rfl⟩; clear mark)) | (go_at_call 20; have mark := HE5; go_must (refine (hasprefix_calls HE5.out.inv HA5.out HB5.out).mono ?_; rw [ul_pre]; rintro e w9 ⟨rfl, rfl⟩; clear mark)))
    by_cases hlk : l = k
    · subst hlk
      go_ret
      exact ⟨rfl, HE7.out.below⟩
    · have hlk2 : decide (l = k) = false := decide_eq_false hlk
      go_ret
      exact ⟨rfl, HE7.out.below⟩
  · have hnmI : ¬ (n : Int) = m := by omega
    have hbeq : ((n : Int) == (m : Int)) = false := by simpa using hnmI
    have hdec : decide (n = m) = false := decide_eq_false hnm
    by_cases hlt : n < m
    · have h3' := h3 (by omega)
      clear h3
      have hltI : (n : Int) < m := by omega
      go_wp2_with (first | (go_at_call 9; go_must (refine (works_calls hI).mono ?_; rintro e w1 ⟨J1, rfl, hE⟩; have HE1 := Lib.hid hE; clear hE)) | (go_at_call 11; have mark := HE2; go_must (refine (putUint_calls HE2.out.inv m hm).mono ?_; rintro e w3 ⟨v3, J3, rfl, hE, hO⟩; have HE3 := Lib.hid (HE2.out.trans hE); have HB3 := Lib.hid hO.bs; have HA3 := Lib.hid (HB2.out.mono (hE.le HE2.out.inv)); have HF3 := Lib.hid hO.bs.form; have HF2 := Lib.hid HB2.out.form; clear hE hO mark; obtain ⟨A3, c3, rfl, -, -⟩ := HF3.out; obtain ⟨A2, c2, rfl, -, -⟩ := HF2.out)) | (go_at_call 11; go_must (refine (putUint_calls HE1.out.inv n hn).mono ?_; rintro e w2 ⟨v2, J2, rfl, hE, hO⟩; have HE2 := Lib.hid (HE1.out.trans hE); have HB2 := Lib.hid hO.bs; clear hE hO)) | (go_at_call 20; (fail_if_success have := HE4); go_must (refine (hasprefix_calls HE3.out.inv HA3.out HB3.out).mono ?_; rw [uv_pre]; rintro e w9 ⟨rfl, rfl⟩)) | (go_at_call 13; have mark := HE4; go_must (refine (putList_calls HE4.out.inv (hk.mono (HE4.out.le hI)) (by omega)).mono ?_; rintro e w5 ⟨v5, J5, rfl, hE, hO⟩; have HE5 := Lib.hid (HE4.out.trans hE); have HB5 := Lib.hid hO.bs; have HA5 := Lib.hid (HB4.out.mono (hE.le HE4.out.inv)); clear hE hO mark)) | (go_at_call 13; go_must (refine (putList_calls HE3.out.inv (hl.mono (HE3.out.le hI)) (by omega)).mono ?_; rintro e w4 ⟨v4, J4, rfl, hE, hO⟩; have HE4 := Lib.hid (HE3.out.trans hE); have HB4 := Lib.hid hO.bs; clear hE hO)) | (go_at_call 21; have mark := HE6; go_must (refine (sequal_calls HE6.out.inv (hl.mono (HE6.out.le hI)) (hk.mono (HE6.out.le hI))).mono ?_; rintro e w7 ⟨rfl, hB⟩; have HE7 := Lib.hid (HE6.out.step hB); clear hB mark)) | (go_at_call 21; go_must (refine (sequal_calls HE5.out.inv (hl.mono (HE5.out.le hI)) (hk.mono (HE5.out.le hI))).mono ?_; rintro e w6 ⟨rfl, hB⟩; have HE6 := Lib.hid (HE5.out.step hB); clear hB)) | (go_at_call 20; have mark := HE6; go_must (refine (hasprefix_calls HE6.out.inv HB5.out HA5.out).mono ?_; rw [ul_pre, list_eq_comm]; rintro e w9 ⟨rfl, rfl⟩; clear mark)) | (go_at_call 20; have mark := HE5; go_must (refine (hasprefix_calls HE5.out.inv HA5.out HB5.out).mono ?_; rw [ul_pre]; rintro e w9 ⟨rfl, rfl⟩; clear mark)))
      by_cases hlk : l = k
      · subst hlk
        go_ret
        exact ⟨rfl, HE7.out.below⟩
      · have hlk2 : decide (l = k) = false := decide_eq_false hlk
        go_ret
        exact ⟨rfl, HE7.out.below⟩
    · clear h3
      have hltI : ¬ (n : Int) < m := by omega
      go_wp2_with (first | (go_at_call 9; go_must (refine (works_calls hI).mono ?_; rintro e w1 ⟨J1, rfl, hE⟩; have HE1 := Lib.hid hE; clear hE)) | (go_at_call 11; have mark := HE2; go_must (refine (putUint_calls HE2.out.inv m hm).mono ?_; rintro e w3 ⟨v3, J3, rfl, hE, hO⟩; have HE3 := Lib.hid (HE2.out.trans hE); have HB3 := Lib.hid hO.bs; have HA3 := Lib.hid (HB2.out.mono (hE.le HE2.out.inv)); have HF3 := Lib.hid hO.bs.form; have HF2 := Lib.hid HB2.out.form; clear hE hO mark; obtain ⟨A3, c3, rfl, -, -⟩ := HF3.out; obtain ⟨A2, c2, rfl, -, -⟩ := HF2.out)) | (go_at_call 11; go_must (refine (putUint_calls HE1.out.inv n hn).mono ?_; rintro e w2 ⟨v2, J2, rfl, hE, hO⟩; have HE2 := Lib.hid (HE1.out.trans hE); have HB2 := Lib.hid hO.bs; clear hE hO)) | (go_at_call 20; (fail_if_success have := HE4); go_must (refine (hasprefix_calls HE3.out.inv HA3.out HB3.out).mono ?_; rw [uv_pre]; rintro e w9 ⟨rfl, rfl⟩)) | (go_at_call 13; have mark := HE4; go_must (refine (putList_calls HE4.out.inv (hk.mono (HE4.out.le hI)) (by omega)).mono ?_; rintro e w5 ⟨v5, J5, rfl, hE, hO⟩; have HE5 := Lib.hid (HE4.out.trans hE); have HB5 := Lib.hid hO.bs; have HA5 := Lib.hid (HB4.out.mono (hE.le HE4.out.inv)); clear hE hO mark)) | (go_at_call 13; go_must (refine (putList_calls HE3.out.inv (hl.mono (HE3.out.le hI)) (by omega)).mono ?_; rintro e w4 ⟨v4, J4, rfl, hE, hO⟩; have HE4 := Lib.hid (HE3.out.trans hE); have HB4 := Lib.hid hO.bs; clear hE hO)) | (go_at_call 21; have mark := HE6; go_must (refine (sequal_calls HE6.out.inv (hl.mono (HE6.out.le hI)) (hk.mono (HE6.out.le hI))).mono ?_; rintro e w7 ⟨rfl, hB⟩; have HE7 := Lib.hid (HE6.out.step hB); clear hB mark)) | (go_at_call 21; go_must (refine (sequal_calls HE5.out.inv (hl.mono (HE5.out.le hI)) (hk.mono (HE5.out.le hI))).mono ?_; rintro e w6 ⟨rfl, hB⟩; have HE6 := Lib.hid (HE5.out.step hB); clear hB)) | (go_at_call 20; have mark := HE6; go_must (refine (hasprefix_calls HE6.out.inv HB5.out HA5.out).mono ?_; rw [ul_pre, list_eq_comm]; rintro e w9 ⟨rfl, rfl⟩; clear mark)) | (go_at_call 20; have mark := HE5; go_must (refine (hasprefix_calls HE5.out.inv HA5.out HB5.out).mono ?_; rw [ul_pre]; rintro e w9 ⟨rfl, rfl⟩; clear mark)))
      by_cases hlk : l = k
      · subst hlk
        go_ret
        exact ⟨rfl, HE7.out.below⟩
      · have hlk2 : decide (l = k) = false := decide_eq_false hlk
        go_ret
        exact ⟨rfl, HE7.out.below⟩
end Go.Proofs.Ytfofgmjhfbmbaaa
