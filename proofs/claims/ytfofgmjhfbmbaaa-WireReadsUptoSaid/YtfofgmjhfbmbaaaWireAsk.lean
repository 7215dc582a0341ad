/- The walks of brickyardref01: ReadUint, AskUint, AskText, AskList. -/
import Derived.Test.YtfofgmjhfbmbaaaWireAgain
import Derived.Test.YtfofgmjhfbmbaaaLEqual
import Derived.Test.YtfofgmjhfbmbaaaJSub
namespace Go.Proofs.Ytfofgmjhfbmbaaa
open Go.RowKit

def ReadP (r : Option (Nat × Nat)) (e : Ending) : Prop :=
  match r with
  | none => e = .returned (.tuple #[.int .u64 0, .int .i64 0])
  | some (n, c) => e = .returned (.tuple #[.int .u64 n, .int .i64 c])
theorem pow128_lt {j : Nat} (hj : j ≤ 9) : 128 ^ j ≤ 9223372036854775808 := Nat.le_trans (Nat.pow_le_pow_right (by decide) hj) (by decide)
theorem pow_step {q P : Nat} (h : P = 128 ^ q) : P * 128 = 128 ^ (q + 1) := by rw [h, Nat.pow_succ]
theorem rdGo_ge {f j a : Nat} {x : UInt8} {r : List UInt8} (hj : f + j = 9) (h9 : j = 9 → x.toNat % 128 ≤ 1) (hx : ¬ x.toNat < 128) : rdGo f (j + 1) (a + x.toNat % 128 * 128 ^ j) r = rdGo (f + 1) j a (x :: r) := by
  by_cases h : j = 9
  · obtain rfl : f = 0 := by omega
    subst h
    rw [rdGo, rdGo, if_pos ⟨rfl, by omega⟩]
  · have hxl := x.toNat_lt
    conv => rhs; rw [rdGo]
    rw [if_neg (by omega), if_neg hx, show x.toNat % 128 = x.toNat - 128 by omega]
theorem sum_lt {a y j : Nat} (ha : a < 128 ^ j) (hy : y < 128) (hj : j ≤ 9) (h9 : j = 9 → y ≤ 1) : a + y * 128 ^ j < 18446744073709551616 := by
  by_cases e : j = 9
  · subst e
    have h1 := h9 rfl
    have h2 : y * 128 ^ 9 ≤ 1 * 128 ^ 9 := Nat.mul_le_mul_right _ h1
    have h3 : (128 : Nat) ^ 9 = 9223372036854775808 := by decide
    rw [h3] at ha h2 ⊢
    omega
  · have h1 := add_part_lt ha hy
    have h2 := pow128_lt (j := j + 1) (by omega)
    omega
set_option maxRecDepth 100000 in
set_option maxHeartbeats 4000000 in
theorem readUint_calls {J : Jm} {w : World} (hI : Inv J w) {v : Value} {s : List UInt8} (hb : Bs J v s) :
    Calls Try.prog 37 #[v] w fun e w' => ReadP (rdU s) e ∧ w' = w := by
  obtain ⟨A, c, rfl, hn, hm⟩ := hb.form
  unfold maxLen at hm
  go_enter Try.func37, Try.ntmps37
  go_wp2
  go_loop [4, 5] (fun m i => ∃ (a j : Nat), j ≤ 10 ∧ m = .int .u64 a ∧ i = .int .i64 j ∧ Hid (a < 128 ^ j) ∧ j ≤ s.length ∧ Hid (rdGo (10 - j) j a (s.drop j) = rdU s)) (fun _ i => 10 - (intOf i).toNat)
  case atStart => exact ⟨0, 0, by omega, rfl, rfl, by rw [Hid]; decide, by omega, rfl⟩
  case round =>
    obtain ⟨a, j, hj, rfl, rfl, HA, hjl, HR⟩ := hrel
    by_cases hlt : j < s.length
    · by_cases hj10 : j < 10
      · have hxj : s[j]? = some s[j] := List.getElem?_eq_getElem hlt
        have HR' : Hid (rdGo (9 - j + 1) j a (s[j] :: s.drop (j + 1)) = rdU s) := by rw [Hid, ← HR.out, rd_at hxj]; congr 1; omega
        obtain ⟨b, o, rfl, hx⟩ := hb.cell hI hlt
        clear hxj HR
        have i0 : (0 : Int) ≤ (j : Int) := by omega
        have i1 : (j : Int) < s.length := by omega
        have hxl := s[j].toNat_lt
        generalize s[j] = x at *
        by_cases hj9 : j = 9
        · subst hj9
          by_cases hx1 : 1 < x.toNat % 128
          · have HN : Hid (rdU s = none) := by rw [Hid, ← HR'.out]; unfold rdGo; exact if_pos ⟨rfl, by omega⟩
            have hx1i : (1 : Int) < (x.toNat : Int) % 128 := by omega
            go_wp2
            go_ret2
            exact ⟨by rw [HN.out]; rfl, rfl⟩
          · have hx1i : ¬ (1 : Int) < (x.toNat : Int) % 128 := by omega
            go_wp2
            go_loop [7, 8] (fun p i => ∃ q P : Nat, q ≤ 9 ∧ i = .int .i64 q ∧ p = .int .u64 P ∧ Hid (P = 128 ^ q) ∧ P ≤ 9223372036854775808) (fun _ i => 9 - (intOf i).toNat)
            case atStart => exact ⟨0, 1, by omega, rfl, rfl, rfl, by decide⟩
            case round =>
              obtain ⟨q, P, hq, rfl, rfl, HP, hPb⟩ := hrel
              by_cases hqj : q < 9
              · have h2 : P * 128 ≤ 9223372036854775808 := by rw [pow_step HP.out]; exact pow128_lt (by omega)
                have HP2 := Lib.hid (pow_step HP.out)
                go_wp2
                go_round
                case rel => exact ⟨q + 1, P * 128, by omega, by go_num, by go_num, HP2, h2⟩
                case measure => simp [intOf] <;> omega
              · obtain rfl : 9 = q := by omega
                obtain ⟨D, hD⟩ : ∃ D, D = x.toNat % 128 * P := ⟨_, rfl⟩
                have hDl : D < 18446744073709551616 ∧ a + D < 18446744073709551616 := by
                  have h1 := sum_lt (y := x.toNat % 128) HA.out (Nat.mod_lt _ (by decide)) (by omega) (by omega)
                  have h2 : x.toNat % 128 * 128 ^ 9 = D := by rw [hD, HP.out]
                  rw [h2] at h1
                  exact ⟨by omega, h1⟩
                have e1 : IntKind.u64.wrap ((x.toNat : Int) % 128 * (P : Int)) = (D : Int) := by
                  rw [IntKind.wrap_u64, hD]
                  have : ((x.toNat % 128 * P : Nat) : Int) = (x.toNat : Int) % 128 * (P : Int) := by push_cast; rfl
                  rw [← this]; rw [hD] at hDl; omega
                have HD : Hid (a + D = a + x.toNat % 128 * 128 ^ 9) := by rw [Hid, hD, HP.out]
                have hDl2 := hDl.2
                clear hD hDl
                by_cases hx128 : x.toNat < 128
                · have hm7 : x.toNat % 128 = x.toNat := Nat.mod_eq_of_lt hx128
                  by_cases hx0 : 0 < 9 ∧ x.toNat = 0
                  · have HN : Hid (rdU s = none) := by rw [Hid, ← HR'.out]; unfold rdGo; rw [if_neg (by omega), if_pos (by omega), if_pos hx0]
                    obtain ⟨hj0, hx00⟩ := hx0
                    have hxi : (x.toNat : Int) % 128 = 0 := by omega
                    have hj0i : (0 : Int) < (9 : Int) := by omega
                    go_wp2
                    go_ret2
                    exact ⟨by rw [HN.out]; rfl, rfl⟩
                  · have HN : Hid (rdU s = some (a + D, 9 + 1)) := by
                      rw [Hid, ← HR'.out, HD.out]
                      unfold rdGo
                      rw [if_neg (by omega), if_pos (by omega), if_neg hx0, hm7]
                    rcases Nat.eq_zero_or_pos 9 with hj0 | hj0
                    · first
                        | (exfalso; omega)
                        | (subst hj0
                           clear hx0
                           rw [Nat.add_zero] at hx
                           go_wp2
                           go_ret2
                           exact ⟨by rw [HN.out]; rfl, rfl⟩)
                    · have hxi : ¬ (x.toNat : Int) % 128 = 0 := by omega
                      clear hx0
                      go_wp2
                      go_ret2
                      exact ⟨by rw [HN.out]; rfl, rfl⟩
                · have HN : Hid (rdGo (10 - (9 + 1)) (9 + 1) (a + D) (s.drop (9 + 1)) = rdU s) := by
                    rw [Hid, ← HR'.out, HD.out, show 10 - (9 + 1) = 9 - 9 by omega]
                    exact rdGo_ge (by omega) (by omega) hx128
                  have HAD : Hid (a + D < 128 ^ (9 + 1)) := by rw [Hid, HD.out]; exact add_part_lt HA.out (Nat.mod_lt _ (by decide))
                  go_wp2
                  go_round
                  case rel => exact ⟨a + D, 9 + 1, by omega, by go_num, by go_num, HAD, by omega, HN⟩
                  case measure => simp [intOf] <;> omega
        · go_wp2
          go_loop [7, 8] (fun p i => ∃ q P : Nat, q ≤ j ∧ i = .int .i64 q ∧ p = .int .u64 P ∧ Hid (P = 128 ^ q) ∧ P ≤ 9223372036854775808) (fun _ i => j - (intOf i).toNat)
          case atStart => exact ⟨0, 1, by omega, rfl, rfl, rfl, by decide⟩
          case round =>
            obtain ⟨q, P, hq, rfl, rfl, HP, hPb⟩ := hrel
            by_cases hqj : q < j
            · have h2 : P * 128 ≤ 9223372036854775808 := by rw [pow_step HP.out]; exact pow128_lt (by omega)
              have HP2 := Lib.hid (pow_step HP.out)
              go_wp2
              go_round
              case rel => exact ⟨q + 1, P * 128, by omega, by go_num, by go_num, HP2, h2⟩
              case measure => simp [intOf] <;> omega
            · obtain rfl : j = q := by omega
              obtain ⟨D, hD⟩ : ∃ D, D = x.toNat % 128 * P := ⟨_, rfl⟩
              have hDl : D < 18446744073709551616 ∧ a + D < 18446744073709551616 := by
                have h1 := sum_lt (y := x.toNat % 128) HA.out (Nat.mod_lt _ (by decide)) (by omega) (by omega)
                have h2 : x.toNat % 128 * 128 ^ j = D := by rw [hD, HP.out]
                rw [h2] at h1
                exact ⟨by omega, h1⟩
              have e1 : IntKind.u64.wrap ((x.toNat : Int) % 128 * (P : Int)) = (D : Int) := by
                rw [IntKind.wrap_u64, hD]
                have : ((x.toNat % 128 * P : Nat) : Int) = (x.toNat : Int) % 128 * (P : Int) := by push_cast; rfl
                rw [← this]; rw [hD] at hDl; omega
              have HD : Hid (a + D = a + x.toNat % 128 * 128 ^ j) := by rw [Hid, hD, HP.out]
              have hDl2 := hDl.2
              clear hD hDl
              by_cases hx128 : x.toNat < 128
              · have hm7 : x.toNat % 128 = x.toNat := Nat.mod_eq_of_lt hx128
                by_cases hx0 : 0 < j ∧ x.toNat = 0
                · have HN : Hid (rdU s = none) := by rw [Hid, ← HR'.out]; unfold rdGo; rw [if_neg (by omega), if_pos (by omega), if_pos hx0]
                  obtain ⟨hj0, hx00⟩ := hx0
                  have hxi : (x.toNat : Int) % 128 = 0 := by omega
                  have hj0i : (0 : Int) < (j : Int) := by omega
                  go_wp2
                  go_ret2
                  exact ⟨by rw [HN.out]; rfl, rfl⟩
                · have HN : Hid (rdU s = some (a + D, j + 1)) := by
                    rw [Hid, ← HR'.out, HD.out]
                    unfold rdGo
                    rw [if_neg (by omega), if_pos (by omega), if_neg hx0, hm7]
                  rcases Nat.eq_zero_or_pos j with hj0 | hj0
                  · first
                      | (exfalso; omega)
                      | (subst hj0
                         clear hx0
                         rw [Nat.add_zero] at hx
                         go_wp2
                         go_ret2
                         exact ⟨by rw [HN.out]; rfl, rfl⟩)
                  · have hxi : ¬ (x.toNat : Int) % 128 = 0 := by omega
                    clear hx0
                    go_wp2
                    go_ret2
                    exact ⟨by rw [HN.out]; rfl, rfl⟩
              · have HN : Hid (rdGo (10 - (j + 1)) (j + 1) (a + D) (s.drop (j + 1)) = rdU s) := by
                  rw [Hid, ← HR'.out, HD.out, show 10 - (j + 1) = 9 - j by omega]
                  exact rdGo_ge (by omega) (by omega) hx128
                have HAD : Hid (a + D < 128 ^ (j + 1)) := by rw [Hid, HD.out]; exact add_part_lt HA.out (Nat.mod_lt _ (by decide))
                go_wp2
                go_round
                case rel => exact ⟨a + D, j + 1, by omega, by go_num, by go_num, HAD, by omega, HN⟩
                case measure => simp [intOf] <;> omega
      · obtain rfl : j = 10 := by omega
        have HN : Hid (rdU s = none) := HR.out.symm
        go_wp2
        go_ret2
        exact ⟨by rw [HN.out]; rfl, rfl⟩
    · have HN : Hid (rdU s = none) := by rw [Hid, ← HR.out, List.drop_of_length_le (by omega), rdGo_end]
      go_wp2
      go_ret2
      exact ⟨by rw [HN.out]; rfl, rfl⟩
def Ask3 {α : Type} (v : α → Value) (z : Value) (r : Except Nat (α × Nat)) (e : Ending) : Prop :=
  match r with
  | .error x => e = .returned (.tuple #[z, .int .i64 0, .int .i64 x])
  | .ok (n, c) => e = .returned (.tuple #[v n, .int .i64 c, .int .i64 0])
theorem Ask3.err {α : Type} {v : α → Value} {z : Value} {r : Except Nat (α × Nat)} {x : Nat} {e : Ending} (h : r = .error x) (he : e = .returned (.tuple #[z, .int .i64 0, .int .i64 x])) : Ask3 v z r e := by subst h; exact he
theorem Ask3.ok {α : Type} {v : α → Value} {z : Value} {r : Except Nat (α × Nat)} {n : α} {c : Nat} {e : Ending} (h : r = .ok (n, c)) (he : e = .returned (.tuple #[v n, .int .i64 c, .int .i64 0])) : Ask3 v z r e := by subst h; exact he
theorem results_tmp3' {fn : Func} {i j k : Nat} (h : fn.results = #[.tmp i, .tmp j, .tmp k]) (tmps : Array Value) (P : Program) (w : World) :
    (results fn tmps).run P w = .ok (.tuple #[tmps.getD i undef, tmps.getD j undef, tmps.getD k undef]) w := by simp [results, h, go_sem]
set_option maxHeartbeats 2000000 in
theorem askUint_calls {J : Jm} {w : World} (hI : Inv J w) {v : Value} {s : List UInt8} (hb : Bs J v s) (most : Nat) (_hm : most < 18446744073709551616) :
    Calls Try.prog 27 #[v, .int .u64 most] w fun e w' => Ask3 (fun n : Nat => .int .u64 n) (.int .u64 0) (askU s most) e ∧ w' = w := by
  go_enter Try.func27, Try.ntmps27
  cases hr : rdU s with
  | none =>
    have HP : Hid (askU s most = .error 7) := by rw [Hid]; unfold askU; rw [hr]
    go_wp2_with (go_at_call 37; go_must (refine (readUint_calls hI hb).mono ?_; rw [hr]; rintro e w1 ⟨rfl, rfl⟩))
    (try simp only [Exit.inBlock, Exit.then]); refine bodyPost_ret (results_tmp3' rfl _ _ _) rfl ?_
    exact ⟨Ask3.err HP.out rfl, rfl⟩
  | some nc =>
    obtain ⟨n, c⟩ := nc
    have hc := (rdU_le hr).1
    by_cases hlt : most < n
    · have HP : Hid (askU s most = .error 3) := by rw [Hid]; unfold askU; rw [hr]; exact if_pos hlt
      go_wp2_with (go_at_call 37; go_must (refine (readUint_calls hI hb).mono ?_; rw [hr]; rintro e w1 ⟨rfl, rfl⟩))
      (try simp only [Exit.inBlock, Exit.then]); refine bodyPost_ret (results_tmp3' rfl _ _ _) rfl ?_
      exact ⟨Ask3.err HP.out rfl, rfl⟩
    · have HP : Hid (askU s most = .ok (n, c)) := by rw [Hid]; unfold askU; rw [hr]; exact if_neg hlt
      go_wp2_with (go_at_call 37; go_must (refine (readUint_calls hI hb).mono ?_; rw [hr]; rintro e w1 ⟨rfl, rfl⟩))
      (try simp only [Exit.inBlock, Exit.then]); refine bodyPost_ret (results_tmp3' rfl _ _ _) rfl ?_
      exact ⟨Ask3.ok HP.out rfl, rfl⟩
set_option maxRecDepth 100000 in
set_option maxHeartbeats 2000000 in
theorem askText_calls {J : Jm} {w : World} (hI : Inv J w) {v : Value} {s : List UInt8} (hb : Bs J v s) (most : Int) (hm1 : -9223372036854775808 ≤ most) (hm2 : most ≤ 9223372036854775807) :
    Calls Try.prog 28 #[v, .int .i64 most] w fun e w' => Ask3 (fun l => .string (strB l)) (.string (strB [])) (rdT s most) e ∧ w' = w := by
  obtain ⟨A, cap, rfl, hn, hm⟩ := id hb.form
  unfold maxLen at hm
  go_enter Try.func28, Try.ntmps28
  cases hr : rdU s with
  | none =>
    have HP : Hid (rdT s most = .error 7) := by rw [Hid]; unfold rdT cnt; rw [hr]
    go_wp2_with (go_at_call 37; go_must (refine (readUint_calls hI hb).mono ?_; rw [hr]; rintro e w1 ⟨rfl, rfl⟩))
    (try simp only [Exit.inBlock, Exit.then]); refine bodyPost_ret (results_tmp3' rfl _ _ _) rfl ?_
    exact ⟨Ask3.err HP.out rfl, rfl⟩
  | some nc =>
    obtain ⟨n, c⟩ := nc
    have hc := rdU_le hr
    obtain ⟨hc1, hc10, hcl, hn64, -⟩ := hc
    have hn64' : n < 18446744073709551616 := hn64
    clear hn64
    by_cases h0 : most < 0 ∨ most.toNat < n
    · have HP : Hid (rdT s most = .error 3) := by rw [Hid]; unfold rdT cnt; rw [hr]; simp only [if_pos h0]
      by_cases hneg : most < 0
      · clear h0
        go_wp2_with (go_at_call 37; go_must (refine (readUint_calls hI hb).mono ?_; rw [hr]; rintro e w1 ⟨rfl, rfl⟩))
        (try simp only [Exit.inBlock, Exit.then]); refine bodyPost_ret (results_tmp3' rfl _ _ _) rfl ?_
        exact ⟨Ask3.err HP.out rfl, rfl⟩
      · have hlt : most.toNat < n := by omega
        clear h0
        go_wp2_with (go_at_call 37; go_must (refine (readUint_calls hI hb).mono ?_; rw [hr]; rintro e w1 ⟨rfl, rfl⟩))
        (try simp only [Exit.inBlock, Exit.then]); refine bodyPost_ret (results_tmp3' rfl _ _ _) rfl ?_
        exact ⟨Ask3.err HP.out rfl, rfl⟩
    · have hneg : ¬ most < 0 := by omega
      have hlt : ¬ most.toNat < n := by omega
      by_cases h1 : s.length - c < n
      · have HP : Hid (rdT s most = .error 7) := by rw [Hid]; unfold rdT cnt; rw [hr]; simp only [if_neg h0, if_pos h1]
        clear h0
        go_wp2_with (go_at_call 37; go_must (refine (readUint_calls hI hb).mono ?_; rw [hr]; rintro e w1 ⟨rfl, rfl⟩))
        (try simp only [Exit.inBlock, Exit.then]); refine bodyPost_ret (results_tmp3' rfl _ _ _) rfl ?_
        exact ⟨Ask3.err HP.out rfl, rfl⟩
      · have HP : Hid (rdT s most = .ok ((s.drop c).take n, c + n)) := by rw [Hid]; unfold rdT cnt; rw [hr]; simp only [if_neg h0, if_neg h1]
        have hsub := hb.sub c (c + n) (by omega) (by omega)
        rw [show c + n - c = n by omega] at hsub
        have kc := hsub.string (P := Try.prog) hI 24 9 5 Try.underlying24 Try.underlying5 Try.underlying9
        have HSUB := Lib.hid hsub
        have i0 : (0 : Int) ≤ (c : Int) := by omega
        have i1 : (c : Int) ≤ (c : Int) + n := by omega
        have i2 : (c : Int) + n ≤ cap := by omega
        have t2 : ((c : Int) + n).toNat = c + n := by omega
        have t3 : c + n - c = n := by omega
        clear h0 hsub
        go_wp2_with (go_at_call 37; go_must (refine (readUint_calls hI hb).mono ?_; rw [hr]; rintro e w1 ⟨rfl, rfl⟩))
        all_goals
          (try simp only [Exit.inBlock, Exit.then])
          refine bodyPost_ret (results_tmp3' rfl _ _ _) rfl ?_
          exact ⟨Ask3.ok HP.out rfl, rfl⟩
def List3 (J : Jm) (r : Except Nat (List (List UInt8) × Nat)) (e : Ending) : Prop :=
  match r with
  | .error x => e = .returned (.tuple #[.slice none 0 0, .int .i64 0, .int .i64 x])
  | .ok (ts, c) => ∃ v, e = .returned (.tuple #[v, .int .i64 c, .int .i64 0]) ∧ Ss J v ts
theorem List3.err {J : Jm} {r : Except Nat (List (List UInt8) × Nat)} {x : Nat} {e : Ending} (h : r = .error x) (he : e = .returned (.tuple #[.slice none 0 0, .int .i64 0, .int .i64 x])) : List3 J r e := by subst h; exact he
theorem List3.ok {J : Jm} {r : Except Nat (List (List UInt8) × Nat)} {ts : List (List UInt8)} {c : Nat} {e : Ending} {v : Value} (h : r = .ok (ts, c)) (he : e = .returned (.tuple #[v, .int .i64 c, .int .i64 0])) (hs : Ss J v ts) : List3 J r e := by subst h; exact ⟨v, he, hs⟩
theorem cnt_none {s : List UInt8} {most : Int} (h : rdU s = none) : cnt s most = .error 7 := by unfold cnt; rw [h]
theorem cnt_some {s : List UInt8} {most : Int} {n c : Nat} (h : rdU s = some (n, c)) : cnt s most = if most < 0 ∨ most.toNat < n then .error 3 else if s.length - c < n then .error 7 else .ok (n, c) := by unfold cnt; rw [h]
theorem rdL_err' {s : List UInt8} {most q : Int} {x : Nat} (h : cnt s most = .error x) : rdL s most q = .error x := by unfold rdL; rw [h]
set_option maxRecDepth 100000 in
set_option maxHeartbeats 4000000 in
theorem askList_calls {J : Jm} {w : World} (hI : Inv J w) {v : Value} {s : List UInt8} (hb : Bs J v s) (hs43 : s.length ≤ 8796093022208) (most longest : Int) (hm1 : -9223372036854775808 ≤ most) (hm2 : most ≤ 9223372036854775807) (hl1 : -9223372036854775808 ≤ longest) (hl2 : longest ≤ 9223372036854775807) :
    Calls Try.prog 29 #[v, .int .i64 most, .int .i64 longest] w fun e w' => ∃ J', List3 J' (rdL s most longest) e ∧ Ext J w J' w' := by
  obtain ⟨A, cap, rfl, hn, hm⟩ := id hb.form
  unfold maxLen at hm
  go_enter Try.func29, Try.ntmps29
  cases hr : rdU s with
  | none =>
    have HP : Hid (rdL s most longest = .error 7) := rdL_err' (cnt_none hr)
    go_wp2_with (go_at_call 37; go_must (refine (readUint_calls hI hb).mono ?_; rw [hr]; rintro e w1 ⟨rfl, rfl⟩))
    (try simp only [Exit.inBlock, Exit.then]); refine bodyPost_ret (results_tmp3' rfl _ _ _) rfl ?_
    exact ⟨J, List3.err HP.out rfl, Ext.refl hI⟩
  | some nc =>
    obtain ⟨n, c⟩ := nc
    have hc := rdU_le hr
    obtain ⟨hc1, hc10, hcl, hn64, -⟩ := hc
    have hn64' : n < 18446744073709551616 := hn64
    clear hn64
    have hcs := cnt_some (most := most) hr
    by_cases h0 : most < 0 ∨ most.toNat < n
    · rw [if_pos h0] at hcs
      have HP : Hid (rdL s most longest = .error 3) := rdL_err' hcs
      clear hcs
      by_cases hneg : most < 0
      · clear h0
        go_wp2_with (go_at_call 37; go_must (refine (readUint_calls hI hb).mono ?_; rw [hr]; rintro e w1 ⟨rfl, rfl⟩))
        (try simp only [Exit.inBlock, Exit.then]); refine bodyPost_ret (results_tmp3' rfl _ _ _) rfl ?_
        exact ⟨J, List3.err HP.out rfl, Ext.refl hI⟩
      · have hlt : most.toNat < n := by omega
        clear h0
        go_wp2_with (go_at_call 37; go_must (refine (readUint_calls hI hb).mono ?_; rw [hr]; rintro e w1 ⟨rfl, rfl⟩))
        (try simp only [Exit.inBlock, Exit.then]); refine bodyPost_ret (results_tmp3' rfl _ _ _) rfl ?_
        exact ⟨J, List3.err HP.out rfl, Ext.refl hI⟩
    · have hneg : ¬ most < 0 := by omega
      have hlt : ¬ most.toNat < n := by omega
      rw [if_neg h0] at hcs
      by_cases h1 : s.length - c < n
      · rw [if_pos h1] at hcs
        have HP : Hid (rdL s most longest = .error 7) := rdL_err' hcs
        clear h0 hcs
        go_wp2_with (go_at_call 37; go_must (refine (readUint_calls hI hb).mono ?_; rw [hr]; rintro e w1 ⟨rfl, rfl⟩))
        (try simp only [Exit.inBlock, Exit.then]); refine bodyPost_ret (results_tmp3' rfl _ _ _) rfl ?_
        exact ⟨J, List3.err HP.out rfl, Ext.refl hI⟩
      · rw [if_neg h1] at hcs
        have HCS := Lib.hid hcs
        clear h0 hcs
        go_wp2_with (go_at_call 37; go_must (refine (readUint_calls hI hb).mono ?_; rw [hr]; rintro e w1 ⟨rfl, rfl⟩))
        go_loopw [11, 12, 10] (fun o i a wr => ∃ (j : Nat) (ts : List (List UInt8)) (q : Nat) (J' : Jm), j ≤ n ∧ i = .int .i64 j ∧ a = .int .i64 q ∧ Hid (ts.length = j) ∧
          Hid (rdTs n (s.drop c) longest = comb ts (q - c) (rdTs (n - j) (s.drop q) longest)) ∧ c ≤ q ∧ q ≤ s.length ∧ Hid (Ext J w1 J' wr) ∧ Hid (Own J' wr w1.heap.size 9 1 o j (scs ts))) (fun _ i _ _ => n - (intOf i).toNat)
        case atStart => exact ⟨0, [], c, J, by omega, rfl, rfl, rfl, by rw [Hid, Nat.sub_self, ← comb_zero]; rfl, by omega, hcl, Ext.refl hI, Own.nil _ _ _ _ _⟩
        case round =>
          obtain ⟨j, ts, q, J', hj, rfl, rfl, HTL, HR, hq, hqs, HE, HO⟩ := hrel
          by_cases hltj : j < n
          · obtain ⟨Q, hQ⟩ : ∃ Q, (if cap = q then A else Option.map (fun x => x.add q) A) = Q := ⟨_, rfl⟩
            have hsub := (hb.mono (HE.out.le hI)).from' q hqs
            rw [hQ] at hsub
            have HSUB := Lib.hid hsub
            have i0 : (0 : Int) ≤ (q : Int) := by omega
            have i1 : (q : Int) ≤ s.length := by omega
            clear hsub
            cases ht : rdT (s.drop q) longest with
            | error x =>
              have hx0 : (x : Int) ≠ 0 := rdT_err ht
              have HP : Hid (rdL s most longest = .error x) := by
                rw [Hid]; unfold rdL; rw [HCS.out]
                have h2 := HR.out
                rw [show n - j = (n - j - 1) + 1 by omega, rdTs_stop _ _ _ _ _ ht] at h2
                simp only [h2]
              go_wp2_with (go_at_call 28; go_must (refine (askText_calls HE.out.inv HSUB.out longest hl1 hl2).mono ?_; rw [ht]; rintro e w2 ⟨rfl, hw⟩; have hw := hw.symm; subst hw))
              (try simp only [Exit.inBlock, Exit.then]); refine bodyPost_ret (results_tmp3' rfl _ _ _) rfl ?_
              exact ⟨J', List3.err HP.out rfl, HE.out⟩
            | ok td =>
              obtain ⟨t, d⟩ := td
              have hd := (rdT_ok2 ht).2.1
              have hdl : q + d ≤ s.length := by have := List.length_drop (i := q) (l := s); omega
              have HR2 : Hid (rdTs n (s.drop c) longest = comb (ts ++ [t]) (q + d - c) (rdTs (n - (j + 1)) (s.drop (q + d)) longest)) := by
                rw [Hid, HR.out, show n - j = (n - (j + 1)) + 1 by omega, rdTs_step _ _ _ _ _ ht, List.drop_drop]
                congr 1
                omega
              clear hd
              go_wp2_with (first | (go_at_call 28; go_must (refine (askText_calls HE.out.inv HSUB.out longest hl1 hl2).mono ?_; rw [ht]; rintro e w2 ⟨rfl, hw⟩; have hw := hw.symm; subst hw)) | (at_builtin; go_must (refine wpList_append_lit (J := J') (s := .tmp 59) (x := .tmp 61) (t := 38) (e := 9) (base := w1.heap.size) (v := u11) (n := j) (xs := scs ts) (m := 1) (news := scs [t]) rfl (.string (strB [])) 1 16 rfl Try.underlying38 info_str rfl rfl (HE.out.inv.alloc _) (HO.out.alloc _) rfl (heap_alloc_new _ _) rfl (scs_one _) (by simp only [maxLen]; omega) (by omega) (by have := HE.out.below.size; simp; omega) ?_; intro v4 w4 J4 ho4 hg4 hv4; have HE4 := Lib.hid ((HE.out.alloc _).grew (HO.out.alloc _) hg4); have HO4 := Lib.hid ho4; have HV4 := Lib.hid hv4; clear ho4 hg4 hv4)))
              go_roundw
              case rel => exact ⟨j + 1, ts ++ [t], q + d, J4, by omega, by go_num, by go_num, by rw [Hid, List.length_append, HTL.out]; rfl, HR2, by omega, hdl, HE4, by rw [Hid, scs_append]; exact HO4.out⟩
              case measure => simp [intOf] <;> omega
          · obtain rfl : n = j := by omega
            have HP : Hid (rdL s most longest = .ok (ts, c + (q - c))) := by
              rw [Hid]; unfold rdL; rw [HCS.out]
              have h2 := HR.out
              rw [Nat.sub_self] at h2
              simp only [h2, rdTs, comb, List.append_nil, Nat.add_zero]
            go_wp2
            (try simp only [Exit.inBlock, Exit.then]); refine bodyPost_ret (results_tmp3' rfl _ _ _) rfl ?_
            have hs := HO.out.sl
            have hss : Ss J' u11 ts := by unfold Ss; rw [HTL.out]; exact hs
            exact ⟨J', List3.ok HP.out (by rw [show c + (q - c) = q by omega]; rfl) hss, HE.out⟩
end Go.Proofs.Ytfofgmjhfbmbaaa
