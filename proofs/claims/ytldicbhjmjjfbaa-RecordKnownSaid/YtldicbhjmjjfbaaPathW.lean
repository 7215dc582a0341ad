/- The walks of package path: may, segment, strings.Cut at a slash, Is. -/
import Derived.Test.YtldicbhjmjjfbaaPathPure
import Derived.Test.YtldicbhjmjjfbaaWireRef
import Derived.Shelf.Strings.Search1
namespace Go.Proofs.Ytldicbhjmjjfbaa
open Go.RowKit Go.Shelf
set_option linter.unusedVariables false

set_option maxHeartbeats 2000000 in
theorem may_calls (c : Nat) (w : World) :
    Calls Try.prog 61 #[.int .u8 c] w fun e w' => e = .returned (.bool (mayB c)) ∧ w' = w := by
  go_enter Try.func61, Try.ntmps61
  go_wp2
  all_goals go_ret
  all_goals refine ⟨?_, rfl⟩
  all_goals congr 2
  all_goals unfold mayB
  all_goals simp
  all_goals (try simp only [beq_iff_eq, beq_eq_false_iff_ne, ne_eq] at *)
  all_goals omega
theorem strB_empty (l : List UInt8) : (strB l).toList.isEmpty = decide (l = []) := by rw [strB_toList]; cases l <;> rfl
theorem strB_is (l k : List UInt8) : ((strB l).toList == k) = decide (l = k) := by
  rw [strB_toList, Bool.eq_iff_iff]; simp
theorem seg_false {l : List UInt8} (h : l = [] ∨ 32 < l.length ∨ l = [46] ∨ l = [46, 46]) : seg l = false := by
  unfold seg
  rcases h with rfl | h | rfl | rfl <;> simp
  omega
set_option maxHeartbeats 2000000 in
theorem segment_calls (l : List UInt8) (hl : l.length ≤ 9223372036854775807) (w : World) :
    Calls Try.prog 59 #[.string (strB l)] w fun e w' => e = .returned (.bool (seg l)) ∧ w' = w := by
  have q0 := strB_empty l
  have q1 := strB_is l [46]
  have q2 := strB_is l [46, 46]
  by_cases h0 : l = []
  · have HS := Lib.hid (seg_false (.inl h0))
    rw [decide_eq_true h0] at q0
    clear h0 q1 q2
    go_enter Try.func59, Try.ntmps59
    go_wp2_with fail
    go_ret
    exact ⟨by rw [HS.out]; rfl, rfl⟩
  rw [decide_eq_false h0] at q0
  by_cases h1 : 32 < l.length
  · have HS := Lib.hid (seg_false (.inr (.inl h1)))
    have h1i : (32 : Int) < l.length := by omega
    clear h0 q1 q2 h1
    go_enter Try.func59, Try.ntmps59
    go_wp2_with fail
    go_ret
    exact ⟨by rw [HS.out]; rfl, rfl⟩
  have h1i : ¬ (32 : Int) < l.length := by omega
  by_cases h2 : l = [46]
  · have HS := Lib.hid (seg_false (.inr (.inr (.inl h2))))
    rw [decide_eq_true h2] at q1
    clear h0 q2 h1 h2
    go_enter Try.func59, Try.ntmps59
    go_wp2_with fail
    go_ret
    exact ⟨by rw [HS.out]; rfl, rfl⟩
  rw [decide_eq_false h2] at q1
  by_cases h3 : l = [46, 46]
  · have HS := Lib.hid (seg_false (.inr (.inr (.inr h3))))
    rw [decide_eq_true h3] at q2
    clear h0 h1 h2 h3
    go_enter Try.func59, Try.ntmps59
    go_wp2_with fail
    go_ret
    exact ⟨by rw [HS.out]; rfl, rfl⟩
  rw [decide_eq_false h3] at q2
  have HS : Hid (seg l = l.all fun c => mayB c.toNat) := by
    rw [Hid]; unfold seg
    simp [h0, h2, h3, Nat.le_of_not_lt h1]
  clear h0 h1 h2 h3
  go_enter Try.func59, Try.ntmps59
  go_wp2_with fail
  go_loopw [21] (fun i wr => ∃ (j : Nat), j ≤ l.length ∧ i = .int .i64 j ∧ Hid ((l.take j).all (fun c => mayB c.toNat) = true) ∧ wr = w) (fun i _ => l.length - (intOf i).toNat)
  case atStart => exact ⟨0, by omega, rfl, rfl, rfl⟩
  case round =>
    obtain ⟨j, hj, rfl, HT, rfl⟩ := hrel
    by_cases hlt : j < l.length
    · have i0 : (0 : Int) ≤ (j : Int) := by omega
      have i1 : (j : Int) < l.length := by omega
      have hx := strB_at0 hlt
      have HT1 := Lib.hid (all_take_succ hlt HT.out)
      have HA : Hid (mayB l[j].toNat = false → l.all (fun c => mayB c.toNat) = false) := fun h => by
        rw [Bool.eq_false_iff]
        intro h'
        rw [List.all_eq_true] at h'
        have := h' l[j] (List.getElem_mem hlt)
        rw [h] at this; cases this
      generalize l[j] = x at *
      cases hm : mayB x.toNat with
      | true =>
        rw [hm] at HT1
        go_wp2_with (go_at_call 61; go_must (refine (may_calls x.toNat _).mono ?_; rw [hm]; rintro e w1 ⟨rfl, rfl⟩))
        go_roundw
        case rel => exact ⟨j + 1, by omega, by go_num, HT1, by trivial⟩
        case measure => simp [intOf]; omega
      | false =>
        have HF := Lib.hid (HS.out.trans (HA.out hm))
        go_wp2_with (go_at_call 61; go_must (refine (may_calls x.toNat _).mono ?_; rw [hm]; rintro e w1 ⟨rfl, rfl⟩))
        go_ret
        exact ⟨by rw [HF.out]; rfl, rfl⟩
    · obtain rfl : j = l.length := by omega
      have HF : Hid (seg l = true) := by rw [Hid, HS.out, ← HT.out, List.take_length]
      go_wp2_with fail
      go_ret
      exact ⟨by rw [HF.out]; rfl, rfl⟩
def layIB_ren : Go.Shelf.Ren := ⟨fun | 217 => 63 | 266 => 67 | n => n, fun | 9 => 9 | 5 => 5 | 3 => 3 | n => n, fun | n => n⟩
theorem layIB : Go.Proofs.Lays.n217 Try.prog layIB_ren := {
  mixed := by kernel_rfl
  f217 := Try.func63.trans (congrArg some (by kernel_rfl))
  f266 := Try.func67.trans (congrArg some (by kernel_rfl))
  t3 := Try.underlying3
  a3 := Try.isAgg3
  z3 := Try.sizeOf3
  v3 := Try.zeroValue3
  t5 := Try.underlying5
  a5 := Try.isAgg5
  z5 := Try.sizeOf5
  v5 := Try.zeroValue5
  t9 := Try.underlying9
  a9 := Try.isAgg9
  z9 := Try.sizeOf9
  v9 := Try.zeroValue9 }
theorem indexByte_calls (s : ByteArray) (c : Int) (w : World) :
    Calls Try.prog 63 #[.string s, .int .u8 c] w fun e w' => e = .returned (.int .i64 (Lib.indexByte s.data.toList c.toNat.toUInt8)) ∧ w' = w := Any.stringslite_IndexByte layIB s c w
set_option maxHeartbeats 2000000 in
theorem index_calls (l : List UInt8) (hl : l.length ≤ 9223372036854775807) (w : World) :
    Calls Try.prog 62 #[.string (strB l), .string ⟨#[47]⟩] w fun e w' => e = .returned (.int .i64 (Lib.indexByte l 47)) ∧ w' = w := by
  have q1 : (([47] : List UInt8) == (strB l).toList) = decide (l = [47]) := by
    rw [strB_toList, Bool.eq_iff_iff]; simp; exact eq_comm
  have q2 : ((strB l).toList == ([47] : List UInt8)) = decide (l = [47]) := strB_is l [47]
  by_cases h0 : l = [47]
  · have HS : Hid (Lib.indexByte l 47 = 0) := by rw [Hid, h0]; rfl
    rw [decide_eq_true h0] at q1 q2
    clear h0
    go_enter Try.func62, Try.ntmps62
    go_wp2_with fail
    go_ret
    exact ⟨by rw [HS.out]; rfl, rfl⟩
  rw [decide_eq_false h0] at q1 q2
  go_enter Try.func62, Try.ntmps62
  go_wp2_with (go_at_call 63; go_must (refine (indexByte_calls (strB l) 47 _).mono ?_; rw [strB_data]; rintro e w1 ⟨rfl, rfl⟩))
  go_ret
  exact ⟨rfl, rfl⟩
def cutV (l : List UInt8) : Value := .tuple #[.string (strB (cutS l).1), .string (strB ((cutS l).2.getD [])), .bool (cutS l).2.isSome]
theorem strB_extr (l : List UInt8) (i j : Nat) : (strB l).extract i j = strB ((l.take j).drop i) := by
  unfold strB
  apply ByteArray.ext
  simp [ByteArray.data_extract, List.extract_eq_take_drop, List.drop_take]
theorem cut_extr {l a r : List UInt8} (h : l = a ++ 47 :: r) : (strB l).extract 0 a.length = strB a ∧ (strB l).extract (a.length + 1) l.length = strB r := by
  subst h
  rw [strB_extr, strB_extr]
  constructor <;> congr 1
  · simp
  · rw [List.take_length, show a ++ 47 :: r = (a ++ [47]) ++ r by simp, show a.length + 1 = (a ++ [47]).length by simp, List.drop_left]
set_option maxHeartbeats 2000000 in
theorem lcut_calls (l : List UInt8) (hl : l.length ≤ 4611686018427387904) (w : World) :
    Calls Try.prog 60 #[.string (strB l), .string ⟨#[47]⟩] w fun e w' => e = .returned (cutV l) ∧ ∃ n, w' = w.drewN n := by
  cases hc : (cutS l).2 with
  | none =>
    obtain ⟨h1, h2, _⟩ := cutS_none hc
    have HV : Hid (cutV l = .tuple #[.string (strB l), .string (strB []), .bool false]) := by rw [Hid]; unfold cutV; rw [hc, h1]; rfl
    clear h1 hc
    go_enter Try.func60, Try.ntmps60
    go_wp2_with (go_at_call 62; go_must (refine (index_calls l (by omega) _).mono ?_; rw [h2]; rintro e w1 ⟨rfl, rfl⟩))
    go_ret3
    exact ⟨by rw [HV.out]; rfl, 0, rfl⟩
  | some r =>
    obtain ⟨h1, h2, _⟩ := cutS_some hc
    have hlen : (cutS l).1.length + (1 + r.length) = l.length := by have := congrArg List.length h1; simp at this; omega
    have HV : Hid (cutV l = .tuple #[.string ((strB l).extract 0 (cutS l).1.length), .string ((strB l).extract ((cutS l).1.length + 1) l.length), .bool true]) := by
      rw [Hid]; unfold cutV; rw [hc, (cut_extr h1).1, (cut_extr h1).2]; rfl
    generalize (cutS l).1.length = i at *
    have i0 : (0 : Int) ≤ (i : Int) := by omega
    have i1 : (i : Int) ≤ l.length := by omega
    have i2 : (0 : Int) ≤ (i : Int) + 1 := by omega
    have i3 : (i : Int) + 1 ≤ l.length := by omega
    clear h1 hc
    go_enter Try.func60, Try.ntmps60
    go_wp2_with (go_at_call 62; go_must (refine (index_calls l (by omega) _).mono ?_; rw [h2]; rintro e w1 ⟨rfl, rfl⟩))
    go_quiet (fail)
    go_wp2_with fail
    go_ret3
    exact ⟨by rw [HV.out]; rfl, _, rfl⟩
set_option maxHeartbeats 2000000 in
theorem scut_calls (l : List UInt8) (hl : l.length ≤ 4611686018427387904) (w : World) :
    Calls Try.prog 58 #[.string (strB l), .string ⟨#[47]⟩] w fun e w' => e = .returned (cutV l) ∧ ∃ n, w' = w.drewN n := by
  have HV : Hid (cutV l = .tuple #[.string (strB (cutS l).1), .string (strB ((cutS l).2.getD [])), .bool (cutS l).2.isSome]) := rfl
  go_enter Try.func58, Try.ntmps58
  go_wp2_with (go_at_call 60; go_must (refine (lcut_calls l hl _).mono ?_; rw [HV.out]; rintro e w1 ⟨rfl, n, rfl⟩))
  go_ret3
  exact ⟨by rw [HV.out]; rfl, n, rfl⟩
def strLen : Value → Nat
  | .string b => b.size
  | _ => 0
theorem cutS_le {l r : List UInt8} (h : (cutS l).2 = some r) : (cutS l).1.length + (1 + r.length) = l.length := by
  have := congrArg List.length (cutS_some h).1
  simp at this; omega
theorem cutS_le1 (l : List UInt8) : (cutS l).1.length ≤ l.length := by
  cases h : (cutS l).2 with
  | none => rw [(cutS_none h).1]; exact Nat.le_refl _
  | some r => have := cutS_le h; omega
theorem drewN_drewN (w : World) (a b : Nat) : (w.drewN a).drewN b = w.drewN (a + b) := by
  simp [World.drewN, Nat.add_assoc]
set_option maxHeartbeats 2000000 in
theorem isP_calls (l : List UInt8) (hl : l.length ≤ 4611686018427387904) (w : World) :
    Calls Try.prog 53 #[.string (strB l)] w fun e w' => e = .returned (.bool (isP l)) ∧ ∃ n, w' = w.drewN n := by
  go_enter Try.func53, Try.ntmps53
  by_cases h1 : 60 < l.length
  · have HS : Hid (isP l = false) := by rw [Hid]; unfold isP; simp; omega
    have h1i : (60 : Int) < l.length := by omega
    go_wp2_with fail
    go_ret
    exact ⟨by rw [HS.out]; rfl, 0, rfl⟩
  have h1i : ¬ (60 : Int) < l.length := by omega
  have HS : Hid (isP l = segs l) := by rw [Hid]; unfold isP; simp; omega
  go_wp2_with fail
  go_loopw [0] (fun s wr => ∃ (k : List UInt8) (n : Nat), s = .string (strB k) ∧ k.length ≤ l.length ∧ Hid (isP l = segs k) ∧ Hid (wr = w.drewN n)) (fun s _ => strLen s)
  case atStart => exact ⟨l, 0, rfl, by omega, HS, rfl⟩
  case round =>
    obtain ⟨k, n, rfl, hk, HK, HW⟩ := hrel
    have hwr := HW.out
    subst hwr
    clear HS
    have hc1 := cutS_le1 k
    cases hs : seg (cutS k).1 with
    | false =>
      have HF : Hid (isP l = false) := by
        rw [Hid, HK.out]
        cases hc : (cutS k).2 with
        | none => rw [segs_none hc, hs]
        | some r => rw [segs_some hc, hs]; rfl
      go_wp2_with (first | (go_at_call 58; go_must (refine (scut_calls k (by omega) _).mono ?_; unfold cutV; rintro e w1 ⟨rfl, n1, rfl⟩)) | (go_at_call 59; go_must (refine (segment_calls (cutS k).1 (by omega) _).mono ?_; rw [hs]; rintro e w2 ⟨rfl, rfl⟩)))
      go_ret
      exact ⟨by rw [HF.out]; rfl, _, rfl⟩
    | true =>
      cases hc : (cutS k).2 with
      | none =>
        have HF : Hid (isP l = true) := by rw [Hid, HK.out, segs_none hc, hs]
        go_wp2_with (first | (go_at_call 58; go_must (refine (scut_calls k (by omega) _).mono ?_; unfold cutV; rw [hc]; rintro e w1 ⟨rfl, n1, rfl⟩)) | (go_at_call 59; go_must (refine (segment_calls (cutS k).1 (by omega) _).mono ?_; rw [hs]; rintro e w2 ⟨rfl, rfl⟩)))
        go_ret
        exact ⟨by rw [HF.out]; rfl, _, rfl⟩
      | some r =>
        have HF : Hid (isP l = segs r) := by rw [Hid, HK.out, segs_some hc, hs]; rfl
        have hr := cutS_le hc
        go_wp2_with (first | (go_at_call 58; go_must (refine (scut_calls k (by omega) _).mono ?_; unfold cutV; rw [hc]; rintro e w1 ⟨rfl, n1, rfl⟩)) | (go_at_call 59; go_must (refine (segment_calls (cutS k).1 (by omega) _).mono ?_; rw [hs]; rintro e w2 ⟨rfl, rfl⟩)))
        go_roundw
        case rel => exact ⟨r, _, rfl, by omega, HF, rfl⟩
        case measure => simp [strLen]; omega
end Go.Proofs.Ytldicbhjmjjfbaa
