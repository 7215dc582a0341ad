/- Numbers, texts and lists as bytes, and their reading: over numbers and lists alone. -/
import Derived.Test.YtldicbhjmjjfbaaProg
namespace Go.Proofs.Ytldicbhjmjjfbaa

/-- a number's bytes -/
def uv (n : Nat) : List UInt8 := if h : n < 128 then [UInt8.ofNat n] else UInt8.ofNat (n % 128 + 128) :: uv (n / 128)
termination_by n
decreasing_by omega
theorem uv_lt {n : Nat} (h : n < 128) : uv n = [UInt8.ofNat n] := by rw [uv, dif_pos h]
theorem uv_ge {n : Nat} (h : ¬ n < 128) : uv n = UInt8.ofNat (n % 128 + 128) :: uv (n / 128) := by rw [uv, dif_neg h]
/-- reading a number: fuel, the place, what is read so far, the bytes -/
def rdGo : Nat → Nat → Nat → List UInt8 → Option (Nat × Nat)
  | 0, _, _, _ => none
  | _ + 1, _, _, [] => none
  | f + 1, i, n, x :: r =>
    if i = 9 ∧ 1 < x.toNat then none
    else if x.toNat < 128 then (if 0 < i ∧ x.toNat = 0 then none else some (n + x.toNat * 128 ^ i, i + 1))
    else rdGo f (i + 1) (n + (x.toNat - 128) * 128 ^ i) r
def rdU (l : List UInt8) : Option (Nat × Nat) := rdGo 10 0 0 l

theorem pow9 {n i : Nat} (hi : i ≤ 9) (h9 : i = 9 → n < 2) : n * 128 ^ i < 2 ^ 64 ∨ ¬ n < 128 := by
  by_cases hn : n < 128
  · left
    by_cases e : i = 9
    · subst e
      have := h9 rfl
      have : n * 128 ^ 9 ≤ 1 * 128 ^ 9 := Nat.mul_le_mul_right _ (by omega)
      exact Nat.lt_of_le_of_lt this (by decide)
    · have h1 : n * 128 ^ i ≤ 127 * 128 ^ i := Nat.mul_le_mul_right _ (by omega)
      have h2 : 127 * 128 ^ i ≤ 127 * 128 ^ 8 := Nat.mul_le_mul_left _ (Nat.pow_le_pow_right (by decide) (by omega))
      exact Nat.lt_of_le_of_lt (Nat.le_trans h1 h2) (by decide)
  · exact .inr hn
theorem place_le {n i : Nat} (hn : 0 < n) (h : n * 128 ^ i < 2 ^ 64) : i ≤ 9 := by
  by_cases hi : i ≤ 9
  · exact hi
  · have h1 : 128 ^ 10 ≤ 128 ^ i := Nat.pow_le_pow_right (by decide) (by omega)
    have h2 : 1 * 128 ^ i ≤ n * 128 ^ i := Nat.mul_le_mul_right _ hn
    have : (2 : Nat) ^ 64 < 128 ^ 10 := by decide
    omega
theorem toNat_of {n : Nat} (h : n < 256) : (UInt8.ofNat n).toNat = n := by rw [UInt8.toNat_ofNat']; omega
theorem split128 (n i : Nat) : (n % 128) * 128 ^ i + (n / 128) * 128 ^ (i + 1) = n * 128 ^ i := by
  rw [Nat.pow_succ, ← Nat.mul_assoc, Nat.mul_right_comm, ← Nat.add_mul]
  congr 1
  omega
theorem rd_uv (n : Nat) : ∀ (f i m : Nat) (r : List UInt8), f + i = 10 → n * 128 ^ i < 2 ^ 64 → (i = 0 ∨ 0 < n) → rdGo f i m (uv n ++ r) = some (m + n * 128 ^ i, i + (uv n).length) := by
  induction n using Nat.strongRecOn with
  | _ n ih =>
    intro f i m r hf hn h0
    have hi : i ≤ 9 := by
      rcases h0 with h0 | h0
      · omega
      · exact place_le h0 hn
    obtain ⟨f, rfl⟩ : ∃ g, f = g + 1 := ⟨f - 1, by omega⟩
    by_cases h : n < 128
    · rw [uv_lt h, List.singleton_append, rdGo, toNat_of (by omega), if_neg ?_, if_pos h, if_neg (by omega)]
      · simp
      · rintro ⟨rfl, h1⟩
        have : 2 * 128 ^ 9 ≤ n * 128 ^ 9 := Nat.mul_le_mul_right _ h1
        have h2 : 2 * 128 ^ 9 = 2 ^ 64 := by decide
        omega
    · have hb : n % 128 + 128 < 256 := by omega
      have hd : (n / 128) * 128 ^ (i + 1) ≤ n * 128 ^ i := by have := split128 n i; omega
      rw [uv_ge h, List.cons_append, rdGo, toNat_of hb, if_neg ?_, if_neg (by omega), Nat.add_sub_cancel, ih (n / 128) (by omega) f (i + 1) _ r (by omega) (Nat.lt_of_le_of_lt hd hn) (.inr (by omega))]
      · have := split128 n i
        simp only [List.length_cons, Option.some.injEq, Prod.mk.injEq]
        omega
      · rintro ⟨rfl, _⟩
        have : 128 * 128 ^ 9 ≤ n * 128 ^ 9 := Nat.mul_le_mul_right _ (by omega)
        have h2 : (2 : Nat) ^ 64 < 128 * 128 ^ 9 := by decide
        omega
theorem rdU_uv {n : Nat} (hn : n < 2 ^ 64) (r : List UInt8) : rdU (uv n ++ r) = some (n, (uv n).length) := by
  have := rd_uv n 10 0 0 r rfl (by simpa using hn) (.inl rfl)
  simpa [rdU] using this
theorem mul_room {q N P : Nat} (h : P ∣ N) (hq : q * P < N) : q * P + P ≤ N := by
  obtain ⟨c, rfl⟩ := h
  rw [Nat.mul_comm q] at hq ⊢
  have : q < c := Nat.lt_of_mul_lt_mul_left hq
  rw [← Nat.mul_succ]
  exact Nat.mul_le_mul_left _ this
theorem rd_sound : ∀ (f i m : Nat) (l : List UInt8) (n k : Nat), f + i = 10 → rdGo f i m l = some (n, k) →
    ∃ q, n = m + q * 128 ^ i ∧ k = i + (uv q).length ∧ (∃ r, l = uv q ++ r) ∧ q * 128 ^ i < 2 ^ 64 ∧ (i = 0 ∨ 0 < q)
  | 0, _, _, _, _, _, _, h => by simp [rdGo] at h
  | f + 1, i, m, [], n, k, _, h => by simp [rdGo] at h
  | f + 1, i, m, x :: r, n, k, hf, h => by
    rw [rdGo] at h
    split at h
    · cases h
    · rename_i h9
      split at h
      · rename_i hx
        split at h
        · cases h
        · rename_i hz
          simp only [Option.some.injEq, Prod.mk.injEq] at h
          obtain ⟨rfl, rfl⟩ := h
          refine ⟨x.toNat, rfl, by rw [uv_lt hx]; rfl, ⟨r, by rw [uv_lt hx]; simp⟩, ?_, by omega⟩
          rcases pow9 (n := x.toNat) (i := i) (by omega) (fun e => by omega) with h | h
          · exact h
          · exact absurd hx h
      · rename_i hx
        obtain ⟨q, rfl, rfl, ⟨s, rfl⟩, hq, hq0⟩ := rd_sound f (i + 1) _ r n k (by omega) h
        have hx256 := x.toNat_lt
        have hq0' : 0 < q := by omega
        have hi8 : i + 1 ≤ 9 := place_le hq0' hq
        have hsp := split128 (q * 128 + (x.toNat - 128)) i
        have e1 : (q * 128 + (x.toNat - 128)) % 128 = x.toNat - 128 := by omega
        have e2 : (q * 128 + (x.toNat - 128)) / 128 = q := by omega
        rw [e1, e2] at hsp
        have hge : ¬ (q * 128 + (x.toNat - 128)) < 128 := by omega
        have huv : uv (q * 128 + (x.toNat - 128)) = x :: uv q := by
          have hxx : UInt8.ofNat (x.toNat - 128 + 128) = x := by
            apply UInt8.toNat_inj.1
            rw [toNat_of (by omega)]; omega
          rw [uv_ge hge, e1, e2, hxx]
        refine ⟨q * 128 + (x.toNat - 128), by omega, by rw [huv]; simp; omega, ⟨s, by rw [huv]; simp⟩, ?_, .inr (by omega)⟩
        generalize hN : (2 : Nat) ^ 64 = N at hq ⊢
        rw [← hsp]
        have hlo : (x.toNat - 128) * 128 ^ i < 128 ^ (i + 1) := by
          rw [Nat.pow_succ, Nat.mul_comm]
          exact Nat.mul_lt_mul_of_pos_left (by omega) (Nat.pow_pos (by decide))
        have h64 : q * 128 ^ (i + 1) + 128 ^ (i + 1) ≤ N := by
          have hdvd : (128 : Nat) ^ (i + 1) ∣ N := by
            rw [← hN, show (128 : Nat) = 2 ^ 7 from rfl, ← Nat.pow_mul]
            exact Nat.pow_dvd_pow 2 (by omega)
          exact mul_room hdvd hq
        omega
theorem rdU_sound {l : List UInt8} {n k : Nat} (h : rdU l = some (n, k)) : n < 2 ^ 64 ∧ k = (uv n).length ∧ ∃ r, l = uv n ++ r := by
  obtain ⟨q, h1, h2, h3, h4, _⟩ := rd_sound 10 0 0 l n k rfl h
  simp only [Nat.zero_add, Nat.pow_zero, Nat.mul_one] at h1 h2 h4
  subst h1
  exact ⟨h4, h2, h3⟩
theorem uv_pos (n : Nat) : 0 < (uv n).length := by
  by_cases h : n < 128
  · rw [uv_lt h]; simp
  · rw [uv_ge h]; simp
theorem uv_mono (m : Nat) : ∀ n, n ≤ m → (uv n).length ≤ (uv m).length := by
  induction m using Nat.strongRecOn with
  | _ m ih =>
    intro n hn
    by_cases h : n < 128
    · rw [uv_lt h]; exact uv_pos m
    · rw [uv_ge h, uv_ge (show ¬ m < 128 by omega)]
      have := ih (m / 128) (by omega) (n / 128) (by omega)
      simp only [List.length_cons]; omega
theorem uv_len (i n : Nat) : n < 128 ^ (i + 1) → (uv n).length ≤ i + 1 := by
  induction i generalizing n with
  | zero => intro h; rw [uv_lt (by simpa using h)]; simp
  | succ i ih =>
    intro h
    by_cases h' : n < 128
    · rw [uv_lt h']; simp
    · rw [uv_ge h', List.length_cons]
      have := ih (n / 128) (by rw [Nat.pow_succ] at h; exact Nat.div_lt_of_lt_mul (by rw [Nat.mul_comm]; exact h))
      omega
theorem uv_len64 {n : Nat} (h : n < 2 ^ 64) : (uv n).length ≤ 10 := uv_len 9 n (Nat.lt_trans h (by decide))
theorem uv_inj (a : Nat) : ∀ (b : Nat) (r s : List UInt8), uv a ++ r = uv b ++ s → a = b ∧ r = s := by
  induction a using Nat.strongRecOn with
  | _ a ih =>
    intro b r s h
    by_cases ha : a < 128 <;> by_cases hb : b < 128
    · rw [uv_lt ha, uv_lt hb] at h
      simp only [List.singleton_append, List.cons.injEq] at h
      have := congrArg UInt8.toNat h.1
      rw [toNat_of (by omega), toNat_of (by omega)] at this
      exact ⟨this, h.2⟩
    · rw [uv_lt ha, uv_ge hb] at h
      simp only [List.cons_append, List.cons.injEq] at h
      have := congrArg UInt8.toNat h.1
      rw [toNat_of (by omega), toNat_of (by omega)] at this
      omega
    · rw [uv_ge ha, uv_lt hb] at h
      simp only [List.cons_append, List.cons.injEq] at h
      have := congrArg UInt8.toNat h.1
      rw [toNat_of (by omega), toNat_of (by omega)] at this
      omega
    · rw [uv_ge ha, uv_ge hb] at h
      simp only [List.cons_append, List.cons.injEq] at h
      have h1 := congrArg UInt8.toNat h.1
      rw [toNat_of (by omega), toNat_of (by omega)] at h1
      obtain ⟨h2, h3⟩ := ih (a / 128) (by omega) (b / 128) r s h.2
      exact ⟨by omega, h3⟩
/-- a text's bytes; a list's -/
def ut (s : List UInt8) : List UInt8 := uv s.length ++ s
def uts (ls : List (List UInt8)) : List UInt8 := (ls.map ut).flatten
def ul (ls : List (List UInt8)) : List UInt8 := uv ls.length ++ uts ls
theorem ut_inj {a b r s : List UInt8} (h : ut a ++ r = ut b ++ s) : a = b ∧ r = s := by
  unfold ut at h
  rw [List.append_assoc, List.append_assoc] at h
  obtain ⟨h1, h2⟩ := uv_inj _ _ _ _ h
  exact List.append_inj h2 h1
theorem uts_inj : ∀ {a b : List (List UInt8)} {r s : List UInt8}, a.length = b.length → uts a ++ r = uts b ++ s → a = b ∧ r = s
  | [], [], _, _, _, h => ⟨rfl, h⟩
  | x :: a, y :: b, r, s, hl, h => by
    simp only [uts, List.map_cons, List.flatten_cons, List.append_assoc] at h
    obtain ⟨h1, h2⟩ := ut_inj h
    obtain ⟨h3, h4⟩ := uts_inj (a := a) (b := b) (by simpa using hl) h2
    exact ⟨by rw [h1, h3], h4⟩
  | [], _ :: _, _, _, hl, _ => by simp at hl
  | _ :: _, [], _, _, hl, _ => by simp at hl
theorem ul_inj {a b : List (List UInt8)} {r s : List UInt8} (h : ul a ++ r = ul b ++ s) : a = b ∧ r = s := by
  unfold ul at h
  rw [List.append_assoc, List.append_assoc] at h
  obtain ⟨h1, h2⟩ := uv_inj _ _ _ _ h
  exact uts_inj h1 h2
/-- a number of things: the number and how many bytes it has, or the error -/
def cnt (l : List UInt8) (most : Int) : Except Nat (Nat × Nat) :=
  match rdU l with
  | none => .error 7
  | some (n, k) => if most < 0 ∨ most.toNat < n then .error 3 else if l.length - k < n then .error 7 else .ok (n, k)
def rdT (l : List UInt8) (most : Int) : Except Nat (List UInt8 × Nat) :=
  match cnt l most with
  | .error e => .error e
  | .ok (n, k) => .ok ((l.drop k).take n, k + n)
def rdTs : Nat → List UInt8 → Int → Except Nat (List (List UInt8) × Nat)
  | 0, _, _ => .ok ([], 0)
  | n + 1, l, longest =>
    match rdT l longest with
    | .error e => .error e
    | .ok (t, k) => match rdTs n (l.drop k) longest with
      | .error e => .error e
      | .ok (ts, k') => .ok (t :: ts, k + k')
def rdL (l : List UInt8) (most longest : Int) : Except Nat (List (List UInt8) × Nat) :=
  match cnt l most with
  | .error e => .error e
  | .ok (n, k) => match rdTs n (l.drop k) longest with
    | .error e => .error e
    | .ok (ts, k') => .ok (ts, k + k')
theorem rdU_le {l : List UInt8} {n k : Nat} (h : rdU l = some (n, k)) : 1 ≤ k ∧ k ≤ 10 ∧ k ≤ l.length ∧ n < 2 ^ 64 ∧ l.take k = uv n := by
  obtain ⟨h1, rfl, r, rfl⟩ := rdU_sound h
  exact ⟨uv_pos n, uv_len64 h1, by simp, h1, by simp⟩
theorem cnt_ok {l : List UInt8} {most : Int} {n k : Nat} (h : cnt l most = .ok (n, k)) : rdU l = some (n, k) ∧ (n : Int) ≤ most ∧ k + n ≤ l.length := by
  unfold cnt at h
  split at h
  · cases h
  · rename_i n' k' hr
    split at h
    · cases h
    · split at h
      · cases h
      · simp only [Except.ok.injEq, Prod.mk.injEq] at h
        obtain ⟨rfl, rfl⟩ := h
        have := (rdU_le hr).2.2.1
        exact ⟨hr, by omega, by omega⟩
theorem rdT_ok {l : List UInt8} {most : Int} {s : List UInt8} {k : Nat} (h : rdT l most = .ok (s, k)) : l.take k = ut s ∧ k ≤ l.length ∧ (s.length : Int) ≤ most := by
  unfold rdT at h
  split at h
  · cases h
  · rename_i n k' hc
    simp only [Except.ok.injEq, Prod.mk.injEq] at h
    obtain ⟨rfl, rfl⟩ := h
    obtain ⟨h1, h2, h3⟩ := cnt_ok hc
    have hlen : ((l.drop k').take n).length = n := by simp; omega
    refine ⟨?_, h3, by rw [hlen]; exact h2⟩
    unfold ut
    rw [hlen, ← (rdU_le h1).2.2.2.2, ← List.take_add]
theorem rdTs_ok : ∀ {n : Nat} {l : List UInt8} {longest : Int} {ts : List (List UInt8)} {k : Nat}, rdTs n l longest = .ok (ts, k) → ts.length = n ∧ l.take k = uts ts ∧ k ≤ l.length
  | 0, l, _, ts, k, h => by
    simp only [rdTs, Except.ok.injEq, Prod.mk.injEq] at h
    obtain ⟨rfl, rfl⟩ := h
    simp [uts]
  | n + 1, l, longest, ts, k, h => by
    rw [rdTs] at h
    split at h
    · cases h
    · rename_i t k1 h1
      split at h
      · cases h
      · rename_i ts' k2 h2
        simp only [Except.ok.injEq, Prod.mk.injEq] at h
        obtain ⟨rfl, rfl⟩ := h
        obtain ⟨a1, a2, _⟩ := rdT_ok h1
        obtain ⟨b1, b2, b3⟩ := rdTs_ok h2
        refine ⟨by simp [b1], ?_, by simp at b3; omega⟩
        rw [List.take_add, a1, b2]; simp [uts]
theorem rdL_ok {l : List UInt8} {most longest : Int} {ts : List (List UInt8)} {k : Nat} (h : rdL l most longest = .ok (ts, k)) : l.take k = ul ts ∧ k ≤ l.length := by
  unfold rdL at h
  split at h
  · cases h
  · rename_i n k1 h1
    split at h
    · cases h
    · rename_i ts' k2 h2
      simp only [Except.ok.injEq, Prod.mk.injEq] at h
      obtain ⟨rfl, rfl⟩ := h
      obtain ⟨c1, c2, c3⟩ := cnt_ok h1
      obtain ⟨b1, b2, b3⟩ := rdTs_ok h2
      refine ⟨?_, by simp at b3; omega⟩
      rw [List.take_add, (rdU_le c1).2.2.2.2, b2, ul, b1]
theorem cnt_uv {n : Nat} (hn : n < 2 ^ 64) {most : Int} (hm : (n : Int) ≤ most) {r : List UInt8} (hr : n ≤ r.length) : cnt (uv n ++ r) most = .ok (n, (uv n).length) := by
  unfold cnt
  rw [rdU_uv hn]
  simp only []
  rw [if_neg (by omega), if_neg (by simp; omega)]
theorem rdT_ut {s : List UInt8} (hs : s.length < 2 ^ 64) {most : Int} (hm : (s.length : Int) ≤ most) (r : List UInt8) : rdT (ut s ++ r) most = .ok (s, (ut s).length) := by
  unfold rdT ut
  rw [List.append_assoc, cnt_uv hs hm (by simp)]
  simp
theorem rdTs_uts : ∀ (ls : List (List UInt8)) {longest : Int} (r : List UInt8), (∀ s ∈ ls, s.length < 2 ^ 64 ∧ (s.length : Int) ≤ longest) → rdTs ls.length (uts ls ++ r) longest = .ok (ls, (uts ls).length)
  | [], _, r, _ => rfl
  | s :: ls, longest, r, h => by
    have h1 := h s (by simp)
    have e : uts (s :: ls) ++ r = ut s ++ (uts ls ++ r) := by simp [uts]
    rw [List.length_cons, rdTs, e, rdT_ut h1.1 h1.2]
    simp only [List.drop_left]
    rw [rdTs_uts ls r (fun t ht => h t (by simp [ht]))]
    simp [uts]
theorem uts_len (ls : List (List UInt8)) : ls.length ≤ (uts ls).length := by
  induction ls with
  | nil => simp
  | cons s ls ih =>
    have := uv_pos s.length
    simp only [uts, List.map_cons, List.flatten_cons, List.length_append, List.length_cons, ut] at ih ⊢
    omega
theorem rdL_ul {ls : List (List UInt8)} (hl : ls.length < 2 ^ 64) {most longest : Int} (hm : (ls.length : Int) ≤ most) (h : ∀ s ∈ ls, s.length < 2 ^ 64 ∧ (s.length : Int) ≤ longest) (r : List UInt8) :
    rdL (ul ls ++ r) most longest = .ok (ls, (ul ls).length) := by
  unfold rdL ul
  have := uts_len ls
  rw [List.append_assoc, cnt_uv hl hm (by simp; omega)]
  simp only [List.drop_left]
  rw [rdTs_uts ls r h]
  simp
end Go.Proofs.Ytldicbhjmjjfbaa
