/- The walks of both twos. -/
import Derived.Test.YtnnkgjaahmflmaaCellMem
import Derived.Test.YtnnkgjaahmflmaaJOwn
namespace Go.Proofs.Ytnnkgjaahmflmaa
open Go.RowKit
set_option linter.unusedVariables false

theorem two_cells {n : Int} (h0 : 0 ≤ n) (h1 : n ≤ 65535) : bcs (two n) = [.int .u8 (n % 256), .int .u8 (n / 256)] := by
  obtain ⟨m, rfl⟩ := Int.eq_ofNat_of_zero_le h0
  have e1 : (((m : Int) % 256).toNat) = m % 256 := by omega
  have e2 : (((m : Int) / 256 % 256).toNat) = m / 256 := by omega
  unfold two
  rw [e1, e2]
  simp only [bcs_cons, bcs_nil, bv]
  have h2 : m / 256 < 256 := by omega
  have h3 : m % 256 < 256 := by omega
  have e3 : (UInt8.ofNat (m % 256)).toNat = m % 256 := by simp
  have e4 : (UInt8.ofNat (m / 256)).toNat = m / 256 := by simp; omega
  rw [e3, e4, Int.natCast_emod, Int.natCast_ediv]
  rfl
theorem two_own {J : Jm} {w : World} (hI : Inv J w) {n : Int} (h0 : 0 ≤ n) (h1 : n ≤ 65535) :
    ∃ J', Ext J w J' (w.alloc (.cells #[.int .u8 (n % 256), .int .u8 (n / 256)] 5)) ∧ Own J' (w.alloc (.cells #[.int .u8 (n % 256), .int .u8 (n / 256)] 5)) w.heap.size 5 1 (.slice (some ⟨w.heap.size, 0, none⟩) 2 2) 2 (bcs (two n)) := by
  have h2 := Own.litB hI (two n) (n := 2) rfl (by decide)
  have h3 := (Ext.refl hI).lit 5 (two n)
  rw [two_cells h0 h1] at h2 h3 ⊢
  exact ⟨_, h3, h2⟩
set_option maxRecDepth 100000 in
set_option maxHeartbeats 4000000 in
theorem two_calls {J : Jm} {w : World} (hI : Inv J w) (n : Int) (h0 : 0 ≤ n) (h1 : n ≤ 65535) :
    Calls Try.prog 60 #[.int .i64 n] w fun e w' => ∃ v' J', e = .returned v' ∧ Ext J w J' w' ∧ Own J' w' w.heap.size 5 1 v' 2 (bcs (two n)) := by
  go_enter Try.func60, Try.ntmps60
  go_wp2_with fail
  go_ret
  obtain ⟨J', h2, h3⟩ := two_own hI h0 h1
  exact ⟨_, J', rfl, h2, h3⟩
set_option maxRecDepth 100000 in
set_option maxHeartbeats 4000000 in
theorem refTwo_calls {J : Jm} {w : World} (hI : Inv J w) (n : Int) (h0 : 0 ≤ n) (h1 : n ≤ 65535) :
    Calls Try.prog 42 #[.int .i64 n] w fun e w' => ∃ v' J', e = .returned v' ∧ Ext J w J' w' ∧ Own J' w' w.heap.size 5 1 v' 2 (bcs (two n)) := by
  go_enter Try.func42, Try.ntmps42
  go_wp2_with fail
  go_ret
  obtain ⟨J', h2, h3⟩ := two_own hI h0 h1
  exact ⟨_, J', rfl, h2, h3⟩
end Go.Proofs.Ytnnkgjaahmflmaa
