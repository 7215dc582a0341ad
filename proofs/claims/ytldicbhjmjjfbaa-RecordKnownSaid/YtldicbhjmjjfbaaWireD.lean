/- The walks of wire's cursor, further. -/
import Derived.Test.YtldicbhjmjjfbaaWireC
import Derived.Recover
namespace Go.Proofs.Ytldicbhjmjjfbaa
open Go.RowKit

def CntP (r : Except Nat (Nat × Nat)) (k : Nat) (e : Ending) (k' : Nat) : Prop :=
  match r with
  | .error x => e = .returned (.tuple #[.int .i64 0, .int .i64 x])
  | .ok (n, c) => e = .returned (.tuple #[.int .i64 n, .int .i64 0]) ∧ k' = k + c
theorem CntP.err {r : Except Nat (Nat × Nat)} {x k k' : Nat} {e : Ending} (h : r = .error x) (he : e = .returned (.tuple #[.int .i64 0, .int .i64 x])) : CntP r k e k' := by subst h; exact he
theorem CntP.ok {r : Except Nat (Nat × Nat)} {n c k k' : Nat} {e : Ending} (h : r = .ok (n, c)) (he : e = .returned (.tuple #[.int .i64 n, .int .i64 0])) (hk : k' = k + c) : CntP r k e k' := by subst h; exact ⟨he, hk⟩
set_option maxRecDepth 100000 in
set_option maxHeartbeats 4000000 in
theorem count_calls {J : Jm} {w : World} (hI : Inv J w) {g : Nat} {s : List UInt8} {k : Nat} (hc : Cur J w g s k) (most : Int) (hm1 : -9223372036854775808 ≤ most) (hm2 : most ≤ 9223372036854775807) :
    Calls Try.prog 50 #[.pointer (some ⟨g, 0, none⟩), .int .i64 most] w fun e w' => ∃ k', CntP (cnt (s.drop k) most) k e k' ∧
      Mv (· = g) J w J w' ∧ Cur J w' g s k' := by
  have HS := Lib.hid (strB_size s)
  have HC := Lib.hid hc
  clear hc
  go_enter Try.func50, Try.ntmps50
  cases hr : rdU (s.drop k) with
  | none =>
    have HP : Hid (cnt (s.drop k) most = .error 7) := by rw [Hid]; unfold cnt; rw [hr]
    go_wp2_with (go_at_call 56; go_must (refine (uint_calls hI HC.out).mono ?_; rw [hr]; rintro e w1 ⟨k', ⟨rfl, rfl⟩, hM, hC⟩; have HM := Lib.hid hM; have HC1 := Lib.hid hC; clear hM hC))
    go_ret2
    exact ⟨_, CntP.err HP.out rfl, HM.out, HC1.out⟩
  | some nc =>
    obtain ⟨n, c⟩ := nc
    have hn := rdU_le hr
    have hlen : (s.drop k).length = s.length - k := List.length_drop
    have hs := HC.out.2.2.2
    have hks := HC.out.2.2.1
    have hn64 : n < 18446744073709551616 := hn.2.2.2.1
    have hcl : k + c ≤ s.length := by omega
    have HP := Lib.hid (show cnt (s.drop k) most = if most < 0 ∨ most.toNat < n then .error 3 else if (s.drop k).length - c < n then .error 7 else .ok (n, c) by unfold cnt; rw [hr])
    rw [hlen] at HP
    have HR := Lib.hid hr
    clear hn hlen hr
    by_cases h0 : most < 0
    · have HP' : Hid (cnt (s.drop k) most = .error 3) := by rw [Hid, HP.out, if_pos (.inl h0)]
      go_wp2_with (go_at_call 56; go_must (refine (uint_calls hI HC.out).mono ?_; rw [HR.out]; rintro e w1 ⟨k', ⟨rfl, rfl⟩, hM, hC⟩; have HM := Lib.hid hM; have HC1 := Lib.hid hC; clear hM hC))
      go_ret2
      exact ⟨_, CntP.err HP'.out rfl, HM.out, HC1.out⟩
    · by_cases h1 : most.toNat < n
      · have HP' : Hid (cnt (s.drop k) most = .error 3) := by rw [Hid, HP.out, if_pos (.inr h1)]
        go_wp2_with (go_at_call 56; go_must (refine (uint_calls hI HC.out).mono ?_; rw [HR.out]; rintro e w1 ⟨k', ⟨rfl, rfl⟩, hM, hC⟩; have HM := Lib.hid hM; have HC1 := Lib.hid hC; clear hM hC))
        go_ret2
        exact ⟨_, CntP.err HP'.out rfl, HM.out, HC1.out⟩
      · go_wp2_with (go_at_call 56; go_must (refine (uint_calls hI HC.out).mono ?_; rw [HR.out]; rintro e w1 ⟨k', ⟨rfl, rfl⟩, hM, hC⟩; have HM := Lib.hid hM; have HC1 := Lib.hid hC; clear hM hC))
        have hc1 := HC1.out.c1
        have hc0 := HC1.out.c0
        by_cases h2 : s.length - (k + c) < n
        · have HP' : Hid (cnt (s.drop k) most = .error 7) := by rw [Hid, HP.out, if_neg (by omega), if_pos (by omega)]
          go_quiet (fail)
          go_wp2
          go_ret2
          exact ⟨_, CntP.err HP'.out rfl, HM.out.drewN _, HC1.out⟩
        · have HP' : Hid (cnt (s.drop k) most = .ok (n, c)) := by rw [Hid, HP.out, if_neg (by omega), if_neg (by omega)]
          go_quiet (fail)
          go_wp2
          go_ret2
          exact ⟨_, CntP.ok HP'.out rfl rfl, HM.out.drewN _, HC1.out⟩
end Go.Proofs.Ytldicbhjmjjfbaa
