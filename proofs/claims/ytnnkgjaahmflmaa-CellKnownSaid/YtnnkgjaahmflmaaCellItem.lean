/- The walk of item. -/
import Derived.Test.YtnnkgjaahmflmaaCellMem
import Derived.BigQuiet
namespace Go.Proofs.Ytnnkgjaahmflmaa
open Go.RowKit
set_option linter.unusedVariables false

set_option maxRecDepth 100000 in
set_option maxHeartbeats 4000000 in
theorem item_calls (x : Cl) (leaf : Bool) (w : World) (hk : x.key.length ≤ 9223372036854775807) (hv : x.val.length ≤ 9223372036854775807) :
    Calls Try.prog 53 #[clV x, .bool leaf] w fun e w' => e = .returned (.bool (okItem x leaf)) ∧ Below w.heap.size w w' := by
  obtain ⟨key, val, page, len⟩ := x
  unfold clV
  simp only at hk hv ⊢
  have z1 := strB_size key
  have z2 := strB_size val
  go_enter Try.func53, Try.ntmps53
  by_cases h1 : key.length < 1
  · have HR := Lib.hid (show okItem ⟨key, val, page, len⟩ leaf = false by simp only [okItem]; rw [if_pos (.inl h1)])
    have e1 : (key.length : Int) < 1 := by omega
    clear h1 hk hv
    go_wp2_with fail
    go_ret
    exact ⟨by rw [HR.out]; rfl, (Below.refl _ _).alloc (Nat.le_refl _) _⟩
  by_cases h2 : 64 < key.length
  · have HR := Lib.hid (show okItem ⟨key, val, page, len⟩ leaf = false by simp only [okItem]; rw [if_pos (.inr h2)])
    have e1 : ¬ (key.length : Int) < 1 := by omega
    have e2 : (64 : Int) < key.length := by omega
    clear h1 h2 hk hv
    go_wp2_with fail
    go_ret
    exact ⟨by rw [HR.out]; rfl, (Below.refl _ _).alloc (Nat.le_refl _) _⟩
  have HO := Lib.hid (show okItem ⟨key, val, page, len⟩ leaf = if page = 0 ∧ len = 0 then (leaf && decide (val.length ≤ 32)) || decide (val = []) else leaf && decide (val = []) && decide (1 ≤ page ∧ page ≤ 65535) && decide (1 ≤ len ∧ len ≤ 4608) by
    simp only [okItem]; rw [if_neg (by omega)])
  have e1 : ¬ (key.length : Int) < 1 := by omega
  have e2 : ¬ (64 : Int) < key.length := by omega
  have v0 : ((strB val).toList == []) = decide (val = []) := by rw [strB_toList]; by_cases h : val = [] <;> simp [h]
  clear h1 h2
  by_cases hp : page = 0
  · subst hp
    by_cases hl : len = 0
    · subst hl
      cases leaf with
      | true =>
        by_cases h3 : val.length ≤ 32
        · have HR := Lib.hid (show okItem ⟨key, val, 0, 0⟩ true = true by rw [HO.out]; simp [h3])
          have e3 : (val.length : Int) ≤ 32 := by omega
          clear h3 hk hv v0
          go_wp2_with fail
          go_ret
          exact ⟨by rw [HR.out]; rfl, (Below.refl _ _).alloc (Nat.le_refl _) _⟩
        · have hvn : val ≠ [] := by rintro rfl; simp at h3
          have HR := Lib.hid (show okItem ⟨key, val, 0, 0⟩ true = false by rw [HO.out]; simp [hvn]; omega)
          have e3 : ¬ (val.length : Int) ≤ 32 := by omega
          rw [decide_eq_false hvn] at v0
          clear h3 hk hv hvn
          go_wp2_with fail
          go_ret
          exact ⟨by rw [HR.out]; rfl, (Below.refl _ _).alloc (Nat.le_refl _) _⟩
      | false =>
        by_cases hvn : val = []
        · have HR := Lib.hid (show okItem ⟨key, val, 0, 0⟩ false = true by rw [HO.out]; simp [hvn])
          rw [decide_eq_true hvn] at v0
          clear hk hv hvn
          go_wp2_with fail
          go_ret
          exact ⟨by rw [HR.out]; rfl, (Below.refl _ _).alloc (Nat.le_refl _) _⟩
        · have HR := Lib.hid (show okItem ⟨key, val, 0, 0⟩ false = false by rw [HO.out]; simp [hvn])
          rw [decide_eq_false hvn] at v0
          clear hk hv hvn
          go_wp2_with fail
          go_ret
          exact ⟨by rw [HR.out]; rfl, (Below.refl _ _).alloc (Nat.le_refl _) _⟩
    · have HR := Lib.hid (show okItem ⟨key, val, 0, len⟩ leaf = false by rw [HO.out, if_neg (fun h => hl h.2)]; simp)
      have e4 : (len == 0) = false := by simpa using hl
      cases leaf with
      | false =>
        clear hk hv v0
        go_wp2_with fail
        go_ret
        exact ⟨by rw [HR.out]; rfl, (Below.refl _ _).alloc (Nat.le_refl _) _⟩
      | true =>
        by_cases hvn : val = []
        · rw [decide_eq_true hvn] at v0
          clear hk hv hvn
          go_wp2_with fail
          go_ret
          exact ⟨by rw [HR.out]; rfl, (Below.refl _ _).alloc (Nat.le_refl _) _⟩
        · rw [decide_eq_false hvn] at v0
          clear hk hv hvn
          go_wp2_with fail
          go_ret
          exact ⟨by rw [HR.out]; rfl, (Below.refl _ _).alloc (Nat.le_refl _) _⟩
  · have e3 : (page == 0) = false := by simpa using hp
    have HO2 := Lib.hid (show okItem ⟨key, val, page, len⟩ leaf = (leaf && decide (val = []) && decide (1 ≤ page ∧ page ≤ 65535) && decide (1 ≤ len ∧ len ≤ 4608)) by rw [HO.out, if_neg (fun h => hp h.1)])
    cases leaf with
    | false =>
      have HR := Lib.hid (show okItem ⟨key, val, page, len⟩ false = false by rw [HO2.out]; simp)
      clear hk hv v0
      go_wp2_with fail
      go_ret
      exact ⟨by rw [HR.out]; rfl, (Below.refl _ _).alloc (Nat.le_refl _) _⟩
    | true =>
      by_cases hvn : val = []
      · rw [decide_eq_true hvn] at v0
        by_cases a1 : 1 ≤ page
        · by_cases a2 : page ≤ 65535
          · by_cases a3 : 1 ≤ len
            · by_cases a4 : len ≤ 4608
              · have HR := Lib.hid (show okItem ⟨key, val, page, len⟩ true = true by rw [HO2.out]; simp [hvn, a1, a2, a3, a4])
                clear hk hv hvn
                go_wp2_with fail
                go_ret
                exact ⟨by rw [HR.out]; rfl, (Below.refl _ _).alloc (Nat.le_refl _) _⟩
              · have HR := Lib.hid (show okItem ⟨key, val, page, len⟩ true = false by rw [HO2.out]; simp [hvn, a1, a2, a3, a4])
                clear hk hv hvn
                go_wp2_with fail
                go_ret
                exact ⟨by rw [HR.out]; rfl, (Below.refl _ _).alloc (Nat.le_refl _) _⟩
            · have HR := Lib.hid (show okItem ⟨key, val, page, len⟩ true = false by rw [HO2.out]; simp [hvn, a1, a2, a3])
              clear hk hv hvn
              go_wp2_with fail
              go_ret
              exact ⟨by rw [HR.out]; rfl, (Below.refl _ _).alloc (Nat.le_refl _) _⟩
          · have HR := Lib.hid (show okItem ⟨key, val, page, len⟩ true = false by rw [HO2.out]; simp [hvn, a1, a2])
            clear hk hv hvn
            go_wp2_with fail
            go_ret
            exact ⟨by rw [HR.out]; rfl, (Below.refl _ _).alloc (Nat.le_refl _) _⟩
        · have HR := Lib.hid (show okItem ⟨key, val, page, len⟩ true = false by rw [HO2.out]; simp [hvn, a1])
          clear hk hv hvn
          go_wp2_with fail
          go_ret
          exact ⟨by rw [HR.out]; rfl, (Below.refl _ _).alloc (Nat.le_refl _) _⟩
      · have HR := Lib.hid (show okItem ⟨key, val, page, len⟩ true = false by rw [HO2.out]; simp [hvn])
        rw [decide_eq_false hvn] at v0
        clear hk hv hvn
        go_wp2_with fail
        go_ret
        exact ⟨by rw [HR.out]; rfl, (Below.refl _ _).alloc (Nat.le_refl _) _⟩
end Go.Proofs.Ytnnkgjaahmflmaa
