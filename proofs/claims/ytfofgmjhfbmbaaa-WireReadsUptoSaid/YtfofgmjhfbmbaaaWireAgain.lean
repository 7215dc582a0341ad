/- The statement WireAgain: what is read, put again. -/
import Derived.Test.YtfofgmjhfbmbaaaWireWorks
namespace Go.Proofs.Ytfofgmjhfbmbaaa
open Go.RowKit

theorem askU_ok {l : List UInt8} {m n c : Nat} (h : askU l m = .ok (n, c)) : n < 18446744073709551616 ∧ c ≤ l.length ∧ (uv n == l.take c) = true := by
  unfold askU at h
  split at h
  · cases h
  · rename_i n' c' hr
    split at h
    · cases h
    · simp only [Except.ok.injEq, Prod.mk.injEq] at h
      obtain ⟨rfl, rfl⟩ := h
      have := rdU_le hr
      exact ⟨this.2.2.2.1, this.2.2.1, by rw [this.2.2.2.2]; exact beq_self_eq_true _⟩
theorem askU_err {l : List UInt8} {m x : Nat} (h : askU l m = .error x) : (x : Int) ≠ 0 := by
  unfold askU at h
  split at h
  · simp only [Except.error.injEq] at h; omega
  · split at h
    · simp only [Except.error.injEq] at h; omega
    · cases h
theorem rdL_err {l : List UInt8} {most longest : Int} {x : Nat} (h : rdL l most longest = .error x) : (x : Int) ≠ 0 := by
  have key : ∀ (n : Nat) (l : List UInt8) (x : Nat), rdTs n l longest = .error x → (x : Int) ≠ 0 := by
    intro n
    induction n with
    | zero => intro l x h; simp [rdTs] at h
    | succ n ih =>
      intro l x h
      rw [rdTs] at h
      split at h
      · rename_i e he; simp only [Except.error.injEq] at h; subst h; exact rdT_err he
      · split at h
        · rename_i e he; simp only [Except.error.injEq] at h; subst h; exact ih _ _ he
        · cases h
  unfold rdL at h
  split at h
  · rename_i e he; simp only [Except.error.injEq] at h; subst h; exact cnt_err he
  · split at h
    · rename_i e he; simp only [Except.error.injEq] at h; subst h; exact key _ _ _ he
    · cases h
theorem rdT_ok2 {l s : List UInt8} {m : Int} {k : Nat} (h : rdT l m = .ok (s, k)) : s.length ≤ l.length ∧ k ≤ l.length ∧ (ut s == l.take k) = true := by
  obtain ⟨h1, h2, h3⟩ := rdT_ok h
  have h4 : (ut s).length ≤ l.length := by rw [← h1, List.length_take]; omega
  exact ⟨by rw [ut_len] at h4; omega, h2, by rw [h1]; exact beq_self_eq_true _⟩
theorem rdL_ok2 {l : List UInt8} {ts : List (List UInt8)} {m q : Int} {k : Nat} (h : rdL l m q = .ok (ts, k)) : (ul ts).length ≤ l.length ∧ k ≤ l.length ∧ (ul ts == l.take k) = true := by
  obtain ⟨h1, h2⟩ := rdL_ok h
  have h4 : (ul ts).length ≤ l.length := by rw [← h1, List.length_take]; omega
  exact ⟨h4, h2, by rw [h1]; exact beq_self_eq_true _⟩
set_option maxRecDepth 100000 in
set_option maxHeartbeats 8000000 in
theorem wireAgain_walk {J : Jm} {w : World} (hI : Inv J w) {v : Value} {l : List UInt8} (hb : Bs J v l) (hl : l.length ≤ 1048576) :
    Calls Try.prog 4 #[v] w fun e w' => e = .returned (.bool true) ∧ Below w.heap.size w w' := by
  obtain ⟨A, c, rfl, hn, hm⟩ := id hb.form
  unfold maxLen at hm
  go_enter Try.func4, Try.ntmps4
  cases hr : askU (l.drop 0) 18446744073709551615 with
  | ok nc =>
    obtain ⟨n, k⟩ := nc
    obtain ⟨hn64, hk, hq⟩ := askU_ok hr
    rw [List.drop_zero] at hk hq
    have HQ := Lib.hid hq
    have HT := Lib.hid (hb.take k hk)
    have hkl : (l.take k).length = k := by simp [hk]
    clear hq
    go_wp2_with (first | (go_at_call 9; go_must (refine (works_calls hI).mono ?_; rintro e w1 ⟨J1, rfl, hE⟩; have HE1 := Lib.hid hE; clear hE)) | (go_at_call 14; (fail_if_success have := HC2); go_must (refine (new_calls HE1.out.inv (hb.mono (HE1.out.le hI)) (by omega)).mono ?_; rintro e w2 ⟨g2, rfl, hg, hE, hC⟩; have HG2 : Hid (w.heap.size ≤ g2) := Nat.le_trans HE1.out.below.size hg; have HE2 := Lib.hid (HE1.out.trans hE); have HC2 := Lib.hid hC; clear hE hC hg)) | (go_at_call 15; go_must (refine (Uint_calls HE2.out.inv HC2.out 18446744073709551615 (by decide)).mono ?_; rw [hr]; rintro e w3 ⟨k', ⟨rfl, hk'⟩, hM, hC⟩; rw [Nat.zero_add] at hk'; subst k'; have HE3 := Lib.hid (HE2.out.moved hM (by intro b h1 h2; have := HG2.out; omega)); have HC3 := Lib.hid hC; clear hM hC)) | (go_at_call 11; go_must (refine (putUint_calls HE3.out.inv n hn64).mono ?_; rintro e w4 ⟨v4, J4, rfl, hE, hO⟩; have HE4 := Lib.hid (HE3.out.trans hE); have HC4 := Lib.hid (HC3.out.ext hE); have HB4 := Lib.hid hO.bs; clear hE hO)) | (go_at_call 18; go_must (refine (at_calls HC4.out).mono ?_; rintro e w5 ⟨rfl, rfl⟩)) | (go_at_call 10; go_must (refine (equal_calls HE4.out.inv HB4.out (HT.out.mono (HE4.out.le hI))).mono ?_; rw [HQ.out]; rintro e w5 ⟨rfl, rfl⟩)))
    have HE1n := HE4
    clear HE1 HE2 HE3 HE4 HC2 HC3 HC4 HG2 HB4 HQ HT hkl hk hn64 hr
    have HE1 := HE1n
    clear HE1n
    cases hr : rdT (l.drop 0) l.length with
    | ok nc =>
      obtain ⟨n, k⟩ := nc
      obtain ⟨hn64, hk, hq⟩ := rdT_ok2 hr
      rw [List.drop_zero] at hn64 hk hq
      have HQ := Lib.hid hq
      have HT := Lib.hid (hb.take k hk)
      have hkl : (l.take k).length = k := by simp [hk]
      clear hq
      go_wp2_with (first | (go_at_call 14; (fail_if_success have := HC2); go_must (refine (new_calls HE1.out.inv (hb.mono (HE1.out.le hI)) (by omega)).mono ?_; rintro e w2 ⟨g2, rfl, hg, hE, hC⟩; have HG2 : Hid (w.heap.size ≤ g2) := Nat.le_trans HE1.out.below.size hg; have HE2 := Lib.hid (HE1.out.trans hE); have HC2 := Lib.hid hC; clear hE hC hg)) | (go_at_call 16; go_must (refine (Text_calls HE2.out.inv HC2.out l.length (by omega) (by omega)).mono ?_; rw [hr]; rintro e w3 ⟨k', ⟨rfl, hk'⟩, hM, hC⟩; rw [Nat.zero_add] at hk'; subst k'; have HE3 := Lib.hid (HE2.out.moved hM (by intro b h1 h2; have := HG2.out; omega)); have HC3 := Lib.hid hC; clear hM hC)) | (go_at_call 12; go_must (refine (putText_calls HE3.out.inv n (by omega)).mono ?_; rintro e w4 ⟨v4, J4, rfl, hE, hO⟩; have HE4 := Lib.hid (HE3.out.trans hE); have HC4 := Lib.hid (HC3.out.ext hE); have HB4 := Lib.hid hO.bs; clear hE hO)) | (go_at_call 18; go_must (refine (at_calls HC4.out).mono ?_; rintro e w5 ⟨rfl, rfl⟩)) | (go_at_call 10; go_must (refine (equal_calls HE4.out.inv HB4.out (HT.out.mono (HE4.out.le hI))).mono ?_; rw [HQ.out]; rintro e w5 ⟨rfl, rfl⟩)))
      have HE1n := HE4
      clear HE1 HE2 HE3 HE4 HC2 HC3 HC4 HG2 HB4 HQ HT hkl hk hn64 hr
      have HE1 := HE1n
      clear HE1n
      cases hr : rdL (l.drop 0) l.length l.length with
      | ok nc =>
        obtain ⟨n, k⟩ := nc
        obtain ⟨hn64, hk, hq⟩ := rdL_ok2 hr
        rw [List.drop_zero] at hn64 hk hq
        have HQ := Lib.hid hq
        have HT := Lib.hid (hb.take k hk)
        have hkl : (l.take k).length = k := by simp [hk]
        clear hq
        go_wp2_with (first | (go_at_call 14; (fail_if_success have := HC2); go_must (refine (new_calls HE1.out.inv (hb.mono (HE1.out.le hI)) (by omega)).mono ?_; rintro e w2 ⟨g2, rfl, hg, hE, hC⟩; have HG2 : Hid (w.heap.size ≤ g2) := Nat.le_trans HE1.out.below.size hg; have HE2 := Lib.hid (HE1.out.trans hE); have HC2 := Lib.hid hC; clear hE hC hg)) | (go_at_call 17; go_must (refine (List_calls HE2.out.inv HC2.out (by omega) l.length l.length (by omega) (by omega) (by omega) (by omega)).mono ?_; rw [hr]; rintro e w3 ⟨k', J3, ⟨⟨v3, rfl, hS⟩, hk'⟩, hM, hC⟩; rw [Nat.zero_add] at hk'; subst k'; have HE3 := Lib.hid (HE2.out.moved hM (by intro b h1 h2; have := HG2.out; omega)); have HC3 := Lib.hid hC; have HS3 := Lib.hid hS; clear hM hC hS)) | (go_at_call 13; go_must (refine (putList_calls HE3.out.inv HS3.out (by omega)).mono ?_; rintro e w4 ⟨v4, J4, rfl, hE, hO⟩; have HE4 := Lib.hid (HE3.out.trans hE); have HC4 := Lib.hid (HC3.out.ext hE); have HB4 := Lib.hid hO.bs; clear hE hO)) | (go_at_call 18; go_must (refine (at_calls HC4.out).mono ?_; rintro e w5 ⟨rfl, rfl⟩)) | (go_at_call 10; go_must (refine (equal_calls HE4.out.inv HB4.out (HT.out.mono (HE4.out.le hI))).mono ?_; rw [HQ.out]; rintro e w5 ⟨rfl, rfl⟩)))
        go_ret
        exact ⟨rfl, HE4.out.below⟩
      | error x =>
        have hx0 := rdL_err hr
        go_wp2_with (first | (go_at_call 14; (fail_if_success have := HC2); go_must (refine (new_calls HE1.out.inv (hb.mono (HE1.out.le hI)) (by omega)).mono ?_; rintro e w2 ⟨g2, rfl, hg, hE, hC⟩; have HG2 : Hid (w.heap.size ≤ g2) := Nat.le_trans HE1.out.below.size hg; have HE2 := Lib.hid (HE1.out.trans hE); have HC2 := Lib.hid hC; clear hE hC hg)) | (go_at_call 17; go_must (refine (List_calls HE2.out.inv HC2.out (by omega) l.length l.length (by omega) (by omega) (by omega) (by omega)).mono ?_; rw [hr]; rintro e w3 ⟨k', J3, ⟨rfl, hk'⟩, hM, hC⟩; have hk' := hk'; subst hk'; have HE3 := Lib.hid (HE2.out.moved hM (by intro b h1 h2; have := HG2.out; omega)); have HC3 := Lib.hid hC; clear hM hC)) | (go_at_call 18; go_must (refine (at_calls HC3.out).mono ?_; rintro e w5 ⟨rfl, rfl⟩)))
        go_ret
        have hb0 : ((x : Int) != 0) = true := by simpa using hx0
        exact ⟨congrArg (fun z => Ending.returned (.bool z)) hb0, HE3.out.below⟩
    | error x =>
      have hx0 := rdT_err hr
      go_wp2_with (first | (go_at_call 14; (fail_if_success have := HC2); go_must (refine (new_calls HE1.out.inv (hb.mono (HE1.out.le hI)) (by omega)).mono ?_; rintro e w2 ⟨g2, rfl, hg, hE, hC⟩; have HG2 : Hid (w.heap.size ≤ g2) := Nat.le_trans HE1.out.below.size hg; have HE2 := Lib.hid (HE1.out.trans hE); have HC2 := Lib.hid hC; clear hE hC hg)) | (go_at_call 16; go_must (refine (Text_calls HE2.out.inv HC2.out l.length (by omega) (by omega)).mono ?_; rw [hr]; rintro e w3 ⟨k', ⟨rfl, hk'⟩, hM, hC⟩; have hk' := hk'; subst hk'; have HE3 := Lib.hid (HE2.out.moved hM (by intro b h1 h2; have := HG2.out; omega)); have HC3 := Lib.hid hC; clear hM hC)) | (go_at_call 18; go_must (refine (at_calls HC3.out).mono ?_; rintro e w5 ⟨rfl, rfl⟩)))
      have HE1n := HE3
      clear HE1 HE2 HE3 HC2 HC3 HG2 hr hx0
      have HE1 := HE1n
      clear HE1n
      cases hr : rdL (l.drop 0) l.length l.length with
      | ok nc =>
        obtain ⟨n, k⟩ := nc
        obtain ⟨hn64, hk, hq⟩ := rdL_ok2 hr
        rw [List.drop_zero] at hn64 hk hq
        have HQ := Lib.hid hq
        have HT := Lib.hid (hb.take k hk)
        have hkl : (l.take k).length = k := by simp [hk]
        clear hq
        go_wp2_with (first | (go_at_call 14; (fail_if_success have := HC2); go_must (refine (new_calls HE1.out.inv (hb.mono (HE1.out.le hI)) (by omega)).mono ?_; rintro e w2 ⟨g2, rfl, hg, hE, hC⟩; have HG2 : Hid (w.heap.size ≤ g2) := Nat.le_trans HE1.out.below.size hg; have HE2 := Lib.hid (HE1.out.trans hE); have HC2 := Lib.hid hC; clear hE hC hg)) | (go_at_call 17; go_must (refine (List_calls HE2.out.inv HC2.out (by omega) l.length l.length (by omega) (by omega) (by omega) (by omega)).mono ?_; rw [hr]; rintro e w3 ⟨k', J3, ⟨⟨v3, rfl, hS⟩, hk'⟩, hM, hC⟩; rw [Nat.zero_add] at hk'; subst k'; have HE3 := Lib.hid (HE2.out.moved hM (by intro b h1 h2; have := HG2.out; omega)); have HC3 := Lib.hid hC; have HS3 := Lib.hid hS; clear hM hC hS)) | (go_at_call 13; go_must (refine (putList_calls HE3.out.inv HS3.out (by omega)).mono ?_; rintro e w4 ⟨v4, J4, rfl, hE, hO⟩; have HE4 := Lib.hid (HE3.out.trans hE); have HC4 := Lib.hid (HC3.out.ext hE); have HB4 := Lib.hid hO.bs; clear hE hO)) | (go_at_call 18; go_must (refine (at_calls HC4.out).mono ?_; rintro e w5 ⟨rfl, rfl⟩)) | (go_at_call 10; go_must (refine (equal_calls HE4.out.inv HB4.out (HT.out.mono (HE4.out.le hI))).mono ?_; rw [HQ.out]; rintro e w5 ⟨rfl, rfl⟩)))
        go_ret
        exact ⟨rfl, HE4.out.below⟩
      | error x =>
        have hx0 := rdL_err hr
        go_wp2_with (first | (go_at_call 14; (fail_if_success have := HC2); go_must (refine (new_calls HE1.out.inv (hb.mono (HE1.out.le hI)) (by omega)).mono ?_; rintro e w2 ⟨g2, rfl, hg, hE, hC⟩; have HG2 : Hid (w.heap.size ≤ g2) := Nat.le_trans HE1.out.below.size hg; have HE2 := Lib.hid (HE1.out.trans hE); have HC2 := Lib.hid hC; clear hE hC hg)) | (go_at_call 17; go_must (refine (List_calls HE2.out.inv HC2.out (by omega) l.length l.length (by omega) (by omega) (by omega) (by omega)).mono ?_; rw [hr]; rintro e w3 ⟨k', J3, ⟨rfl, hk'⟩, hM, hC⟩; have hk' := hk'; subst hk'; have HE3 := Lib.hid (HE2.out.moved hM (by intro b h1 h2; have := HG2.out; omega)); have HC3 := Lib.hid hC; clear hM hC)) | (go_at_call 18; go_must (refine (at_calls HC3.out).mono ?_; rintro e w5 ⟨rfl, rfl⟩)))
        go_ret
        have hb0 : ((x : Int) != 0) = true := by simpa using hx0
        exact ⟨congrArg (fun z => Ending.returned (.bool z)) hb0, HE3.out.below⟩
  | error x =>
    have hx0 := askU_err hr
    go_wp2_with (first | (go_at_call 9; go_must (refine (works_calls hI).mono ?_; rintro e w1 ⟨J1, rfl, hE⟩; have HE1 := Lib.hid hE; clear hE)) | (go_at_call 14; (fail_if_success have := HC2); go_must (refine (new_calls HE1.out.inv (hb.mono (HE1.out.le hI)) (by omega)).mono ?_; rintro e w2 ⟨g2, rfl, hg, hE, hC⟩; have HG2 : Hid (w.heap.size ≤ g2) := Nat.le_trans HE1.out.below.size hg; have HE2 := Lib.hid (HE1.out.trans hE); have HC2 := Lib.hid hC; clear hE hC hg)) | (go_at_call 15; go_must (refine (Uint_calls HE2.out.inv HC2.out 18446744073709551615 (by decide)).mono ?_; rw [hr]; rintro e w3 ⟨k', ⟨rfl, hk'⟩, hM, hC⟩; have hk' := hk'; subst hk'; have HE3 := Lib.hid (HE2.out.moved hM (by intro b h1 h2; have := HG2.out; omega)); have HC3 := Lib.hid hC; clear hM hC)) | (go_at_call 18; go_must (refine (at_calls HC3.out).mono ?_; rintro e w5 ⟨rfl, rfl⟩)))
    have HE1n := HE3
    clear HE1 HE2 HE3 HC2 HC3 HG2 hr hx0
    have HE1 := HE1n
    clear HE1n
    cases hr : rdT (l.drop 0) l.length with
    | ok nc =>
      obtain ⟨n, k⟩ := nc
      obtain ⟨hn64, hk, hq⟩ := rdT_ok2 hr
      rw [List.drop_zero] at hn64 hk hq
      have HQ := Lib.hid hq
      have HT := Lib.hid (hb.take k hk)
      have hkl : (l.take k).length = k := by simp [hk]
      clear hq
      go_wp2_with (first | (go_at_call 14; (fail_if_success have := HC2); go_must (refine (new_calls HE1.out.inv (hb.mono (HE1.out.le hI)) (by omega)).mono ?_; rintro e w2 ⟨g2, rfl, hg, hE, hC⟩; have HG2 : Hid (w.heap.size ≤ g2) := Nat.le_trans HE1.out.below.size hg; have HE2 := Lib.hid (HE1.out.trans hE); have HC2 := Lib.hid hC; clear hE hC hg)) | (go_at_call 16; go_must (refine (Text_calls HE2.out.inv HC2.out l.length (by omega) (by omega)).mono ?_; rw [hr]; rintro e w3 ⟨k', ⟨rfl, hk'⟩, hM, hC⟩; rw [Nat.zero_add] at hk'; subst k'; have HE3 := Lib.hid (HE2.out.moved hM (by intro b h1 h2; have := HG2.out; omega)); have HC3 := Lib.hid hC; clear hM hC)) | (go_at_call 12; go_must (refine (putText_calls HE3.out.inv n (by omega)).mono ?_; rintro e w4 ⟨v4, J4, rfl, hE, hO⟩; have HE4 := Lib.hid (HE3.out.trans hE); have HC4 := Lib.hid (HC3.out.ext hE); have HB4 := Lib.hid hO.bs; clear hE hO)) | (go_at_call 18; go_must (refine (at_calls HC4.out).mono ?_; rintro e w5 ⟨rfl, rfl⟩)) | (go_at_call 10; go_must (refine (equal_calls HE4.out.inv HB4.out (HT.out.mono (HE4.out.le hI))).mono ?_; rw [HQ.out]; rintro e w5 ⟨rfl, rfl⟩)))
      have HE1n := HE4
      clear HE1 HE2 HE3 HE4 HC2 HC3 HC4 HG2 HB4 HQ HT hkl hk hn64 hr
      have HE1 := HE1n
      clear HE1n
      cases hr : rdL (l.drop 0) l.length l.length with
      | ok nc =>
        obtain ⟨n, k⟩ := nc
        obtain ⟨hn64, hk, hq⟩ := rdL_ok2 hr
        rw [List.drop_zero] at hn64 hk hq
        have HQ := Lib.hid hq
        have HT := Lib.hid (hb.take k hk)
        have hkl : (l.take k).length = k := by simp [hk]
        clear hq
        go_wp2_with (first | (go_at_call 14; (fail_if_success have := HC2); go_must (refine (new_calls HE1.out.inv (hb.mono (HE1.out.le hI)) (by omega)).mono ?_; rintro e w2 ⟨g2, rfl, hg, hE, hC⟩; have HG2 : Hid (w.heap.size ≤ g2) := Nat.le_trans HE1.out.below.size hg; have HE2 := Lib.hid (HE1.out.trans hE); have HC2 := Lib.hid hC; clear hE hC hg)) | (go_at_call 17; go_must (refine (List_calls HE2.out.inv HC2.out (by omega) l.length l.length (by omega) (by omega) (by omega) (by omega)).mono ?_; rw [hr]; rintro e w3 ⟨k', J3, ⟨⟨v3, rfl, hS⟩, hk'⟩, hM, hC⟩; rw [Nat.zero_add] at hk'; subst k'; have HE3 := Lib.hid (HE2.out.moved hM (by intro b h1 h2; have := HG2.out; omega)); have HC3 := Lib.hid hC; have HS3 := Lib.hid hS; clear hM hC hS)) | (go_at_call 13; go_must (refine (putList_calls HE3.out.inv HS3.out (by omega)).mono ?_; rintro e w4 ⟨v4, J4, rfl, hE, hO⟩; have HE4 := Lib.hid (HE3.out.trans hE); have HC4 := Lib.hid (HC3.out.ext hE); have HB4 := Lib.hid hO.bs; clear hE hO)) | (go_at_call 18; go_must (refine (at_calls HC4.out).mono ?_; rintro e w5 ⟨rfl, rfl⟩)) | (go_at_call 10; go_must (refine (equal_calls HE4.out.inv HB4.out (HT.out.mono (HE4.out.le hI))).mono ?_; rw [HQ.out]; rintro e w5 ⟨rfl, rfl⟩)))
        go_ret
        exact ⟨rfl, HE4.out.below⟩
      | error x =>
        have hx0 := rdL_err hr
        go_wp2_with (first | (go_at_call 14; (fail_if_success have := HC2); go_must (refine (new_calls HE1.out.inv (hb.mono (HE1.out.le hI)) (by omega)).mono ?_; rintro e w2 ⟨g2, rfl, hg, hE, hC⟩; have HG2 : Hid (w.heap.size ≤ g2) := Nat.le_trans HE1.out.below.size hg; have HE2 := Lib.hid (HE1.out.trans hE); have HC2 := Lib.hid hC; clear hE hC hg)) | (go_at_call 17; go_must (refine (List_calls HE2.out.inv HC2.out (by omega) l.length l.length (by omega) (by omega) (by omega) (by omega)).mono ?_; rw [hr]; rintro e w3 ⟨k', J3, ⟨rfl, hk'⟩, hM, hC⟩; have hk' := hk'; subst hk'; have HE3 := Lib.hid (HE2.out.moved hM (by intro b h1 h2; have := HG2.out; omega)); have HC3 := Lib.hid hC; clear hM hC)) | (go_at_call 18; go_must (refine (at_calls HC3.out).mono ?_; rintro e w5 ⟨rfl, rfl⟩)))
        go_ret
        have hb0 : ((x : Int) != 0) = true := by simpa using hx0
        exact ⟨congrArg (fun z => Ending.returned (.bool z)) hb0, HE3.out.below⟩
    | error x =>
      have hx0 := rdT_err hr
      go_wp2_with (first | (go_at_call 14; (fail_if_success have := HC2); go_must (refine (new_calls HE1.out.inv (hb.mono (HE1.out.le hI)) (by omega)).mono ?_; rintro e w2 ⟨g2, rfl, hg, hE, hC⟩; have HG2 : Hid (w.heap.size ≤ g2) := Nat.le_trans HE1.out.below.size hg; have HE2 := Lib.hid (HE1.out.trans hE); have HC2 := Lib.hid hC; clear hE hC hg)) | (go_at_call 16; go_must (refine (Text_calls HE2.out.inv HC2.out l.length (by omega) (by omega)).mono ?_; rw [hr]; rintro e w3 ⟨k', ⟨rfl, hk'⟩, hM, hC⟩; have hk' := hk'; subst hk'; have HE3 := Lib.hid (HE2.out.moved hM (by intro b h1 h2; have := HG2.out; omega)); have HC3 := Lib.hid hC; clear hM hC)) | (go_at_call 18; go_must (refine (at_calls HC3.out).mono ?_; rintro e w5 ⟨rfl, rfl⟩)))
      have HE1n := HE3
      clear HE1 HE2 HE3 HC2 HC3 HG2 hr hx0
      have HE1 := HE1n
      clear HE1n
      cases hr : rdL (l.drop 0) l.length l.length with
      | ok nc =>
        obtain ⟨n, k⟩ := nc
        obtain ⟨hn64, hk, hq⟩ := rdL_ok2 hr
        rw [List.drop_zero] at hn64 hk hq
        have HQ := Lib.hid hq
        have HT := Lib.hid (hb.take k hk)
        have hkl : (l.take k).length = k := by simp [hk]
        clear hq
        go_wp2_with (first | (go_at_call 14; (fail_if_success have := HC2); go_must (refine (new_calls HE1.out.inv (hb.mono (HE1.out.le hI)) (by omega)).mono ?_; rintro e w2 ⟨g2, rfl, hg, hE, hC⟩; have HG2 : Hid (w.heap.size ≤ g2) := Nat.le_trans HE1.out.below.size hg; have HE2 := Lib.hid (HE1.out.trans hE); have HC2 := Lib.hid hC; clear hE hC hg)) | (go_at_call 17; go_must (refine (List_calls HE2.out.inv HC2.out (by omega) l.length l.length (by omega) (by omega) (by omega) (by omega)).mono ?_; rw [hr]; rintro e w3 ⟨k', J3, ⟨⟨v3, rfl, hS⟩, hk'⟩, hM, hC⟩; rw [Nat.zero_add] at hk'; subst k'; have HE3 := Lib.hid (HE2.out.moved hM (by intro b h1 h2; have := HG2.out; omega)); have HC3 := Lib.hid hC; have HS3 := Lib.hid hS; clear hM hC hS)) | (go_at_call 13; go_must (refine (putList_calls HE3.out.inv HS3.out (by omega)).mono ?_; rintro e w4 ⟨v4, J4, rfl, hE, hO⟩; have HE4 := Lib.hid (HE3.out.trans hE); have HC4 := Lib.hid (HC3.out.ext hE); have HB4 := Lib.hid hO.bs; clear hE hO)) | (go_at_call 18; go_must (refine (at_calls HC4.out).mono ?_; rintro e w5 ⟨rfl, rfl⟩)) | (go_at_call 10; go_must (refine (equal_calls HE4.out.inv HB4.out (HT.out.mono (HE4.out.le hI))).mono ?_; rw [HQ.out]; rintro e w5 ⟨rfl, rfl⟩)))
        go_ret
        exact ⟨rfl, HE4.out.below⟩
      | error x =>
        have hx0 := rdL_err hr
        go_wp2_with (first | (go_at_call 14; (fail_if_success have := HC2); go_must (refine (new_calls HE1.out.inv (hb.mono (HE1.out.le hI)) (by omega)).mono ?_; rintro e w2 ⟨g2, rfl, hg, hE, hC⟩; have HG2 : Hid (w.heap.size ≤ g2) := Nat.le_trans HE1.out.below.size hg; have HE2 := Lib.hid (HE1.out.trans hE); have HC2 := Lib.hid hC; clear hE hC hg)) | (go_at_call 17; go_must (refine (List_calls HE2.out.inv HC2.out (by omega) l.length l.length (by omega) (by omega) (by omega) (by omega)).mono ?_; rw [hr]; rintro e w3 ⟨k', J3, ⟨rfl, hk'⟩, hM, hC⟩; have hk' := hk'; subst hk'; have HE3 := Lib.hid (HE2.out.moved hM (by intro b h1 h2; have := HG2.out; omega)); have HC3 := Lib.hid hC; clear hM hC)) | (go_at_call 18; go_must (refine (at_calls HC3.out).mono ?_; rintro e w5 ⟨rfl, rfl⟩)))
        go_ret
        have hb0 : ((x : Int) != 0) = true := by simpa using hx0
        exact ⟨congrArg (fun z => Ending.returned (.bool z)) hb0, HE3.out.below⟩
end Go.Proofs.Ytfofgmjhfbmbaaa
