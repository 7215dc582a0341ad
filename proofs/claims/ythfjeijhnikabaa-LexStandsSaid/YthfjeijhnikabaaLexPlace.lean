/- The walks of Place, the code's and the document's. -/
import Derived.Test.YthfjeijhnikabaaLexPure
import Derived.Test.YthfjeijhnikabaaLexShelf
import Derived.Test.YthfjeijhnikabaaMv
import Derived.Lib.LastIndexByte
namespace Go.Proofs.Ythfjeijhnikabaa
open Go.RowKit

/-- where a place is cut to -/
def cutAt (n : Nat) (a : Int) : Nat := if a < 0 then 0 else if a ≤ n then a.toNat else n
theorem cutAt_le (n : Nat) (a : Int) : cutAt n a ≤ n := by unfold cutAt; split; omega; split <;> omega
theorem list_snoc {P : List UInt8 → Prop} (h0 : P []) (h1 : ∀ l c, P l → P (l ++ [c])) : ∀ l, P l := by
  intro l
  have : ∀ n (l : List UInt8), l.length = n → P l := by
    intro n
    induction n with
    | zero => intro l e; rw [List.length_eq_zero_iff.1 e]; exact h0
    | succ n ih =>
      intro l e
      have hne : l ≠ [] := by intro e'; rw [e'] at e; simp at e
      rw [← List.dropLast_concat_getLast hne]
      exact h1 _ _ (ih _ (by simp [e]))
  exact this _ l rfl
theorem lc_count (l : List UInt8) : (lc l).1 = l.count 10 + 1 := by
  refine list_snoc (P := fun l => (lc l).1 = l.count 10 + 1) rfl ?_ l
  intro l c ih
  rw [lc_snoc, List.count_append]
  unfold lcStep
  by_cases h : c = 10
  · subst h; simp [ih]
  · rw [if_neg h]; simp [ih, h]
theorem lastIdx_take (l m : List UInt8) (c : Int) : ∀ k, k ≤ l.length → Lib.lastIdx (strB (l ++ m)) c k = Lib.lastIdx (strB l) c k := by
  intro k
  induction k with
  | zero => intro _; rfl
  | succ k ih =>
    intro hk
    have e : (strB (l ++ m)).data[k]! = (strB l).data[k]! := by
      simp [strB, getElem!_def, List.getElem?_append_left (show k < l.length by omega)]
    by_cases h : (((strB l).data[k]!).toNat : Int) = c
    · rw [Lib.lastIdx_hit _ _ _ h, Lib.lastIdx_hit _ _ _ (by rw [e]; exact h)]
    · rw [Lib.lastIdx_miss _ _ _ h, Lib.lastIdx_miss _ _ _ (by rw [e]; exact h)]
      exact ih (by omega)
theorem lc_last (l : List UInt8) : ((lc l).2 : Int) = (l.length : Int) - Lib.lastIndexByte (strB l) 10 - 1 := by
  refine list_snoc (P := fun l => ((lc l).2 : Int) = (l.length : Int) - Lib.lastIndexByte (strB l) 10 - 1) rfl ?_ l
  intro l c ih
  unfold Lib.lastIndexByte at ih ⊢
  rw [strB_size] at ih ⊢
  rw [lc_snoc, List.length_append, List.length_singleton]
  have e : (strB (l ++ [c])).data[l.length]! = c := by simp [strB]
  unfold lcStep
  by_cases h : c = 10
  · subst h
    rw [if_pos rfl, Lib.lastIdx_hit _ _ _ (by rw [e]; rfl)]
    push_cast; omega
  · rw [if_neg h, Lib.lastIdx_miss _ _ _ (by rw [e]; intro h'; apply h; rw [← UInt8.toNat_inj]; have : (10 : UInt8).toNat = 10 := rfl; omega), lastIdx_take l [c] 10 l.length (Nat.le_refl _)]
    push_cast; omega
def placeV (s : List UInt8) (k : Nat) : Value := .tuple #[.int .i64 (ln s k : Int), .int .i64 (cl s k : Int)]
theorem strB_take (s : List UInt8) (k : Nat) (_h : k ≤ s.length) : (strB s).extract 0 k = strB (s.take k) := by
  have h1 : ((strB s).extract 0 k).data.toList = s.take k := by
    rw [ByteArray.data_extract]
    simp [strB]
  rw [← h1, strB_of]
set_option maxHeartbeats 4000000 in
set_option maxRecDepth 100000 in
theorem place_calls (s : List UInt8) (a : Int) (w : World) (hs : s.length ≤ 140737488351232) (h1 : -9223372036854775808 ≤ a) (h2 : a ≤ 9223372036854775807) :
    Calls Try.prog 29 #[.string (strB s), .int .i64 a] w fun e w' => e = .returned (placeV s (cutAt s.length a)) ∧ w' = w := by
  have HSZ := strB_size s
  obtain ⟨k, hk⟩ : ∃ k, k = cutAt s.length a := ⟨_, rfl⟩
  have hkl : k ≤ s.length := by rw [hk]; exact cutAt_le _ _
  have hX := strB_take s k hkl
  have hct := lc_count (s.take k)
  have hla := lc_last (s.take k)
  have hll := ln_le s k hkl
  have hlen : (s.take k).length = k := by simp [hkl]
  rw [hlen] at hla
  have hmm : min (max a 0) (s.length : Int) = (k : Int) := by
    rw [hk]; unfold cutAt; split
    · omega
    · split <;> omega
  unfold placeV
  rw [← hk]
  obtain ⟨li, hli⟩ : ∃ li, Lib.lastIndexByte (strB (s.take k)) 10 = li := ⟨_, rfl⟩
  rw [hli] at hla
  have HLA := Lib.hid hla
  have HLI := Lib.hid hli
  have HCT := Lib.hid hct
  clear hk hla hct hli
  have i0 : (0 : Int) ≤ (k : Int) := by omega
  have i1 : (k : Int) ≤ s.length := by omega
  have e1 : ln s k = (s.take k).count 10 + 1 := HCT.out
  have e2 : (cl s k : Int) = (k : Int) - li - 1 := HLA.out
  have HR := Lib.hid hll
  have w1 : IntKind.i64.wrap (((s.take k).count 10 : Int) + 1) = ((s.take k).count 10 : Int) + 1 := by rw [IntKind.wrap_i64]; omega
  have HSZ2 := strB_size (s.take k)
  rw [hlen] at HSZ2
  have w2 : IntKind.i64.wrap ((k : Int) - li) = (k : Int) - li := by rw [IntKind.wrap_i64]; omega
  have w3 : IntKind.i64.wrap ((k : Int) - li - 1) = (k : Int) - li - 1 := by rw [IntKind.wrap_i64]; omega
  have HL1 := Lib.hid e1
  have HL2 := Lib.hid e2
  clear e1 e2 hll
  go_enter Try.func29, Try.ntmps29
  go_wp2_with fail
  refine (strings_Count_one (strB (s.take k)) 10 w).mono ?_
  rw [strB_data, show Lib.countByte (s.take k) 10 = (s.take k).count 10 from rfl]
  rintro e w' ⟨rfl, rfl⟩
  go_wp2_with fail
  refine (strings_LastIndexByte (strB (s.take k)) 10 (by rw [HSZ2]; omega) _).mono ?_
  rw [HLI.out]
  rintro e w' ⟨rfl, rfl⟩
  go_wp2_with fail
  go_ret2
  refine ⟨?_, rfl⟩
  rw [HL1.out, HL2.out]
  push_cast
  rfl
theorem lc_succ {s : List UInt8} {k : Nat} {c : UInt8} (h : s[k]? = some c) : (c = 10 → ln s (k + 1) = ln s k + 1 ∧ cl s (k + 1) = 0) ∧ (c ≠ 10 → ln s (k + 1) = ln s k ∧ cl s (k + 1) = cl s k + 1) := by
  have h1 := lc_at h
  unfold ln cl
  rw [h1]
  unfold lcStep
  refine ⟨fun e => ?_, fun e => ?_⟩
  · rw [if_pos e]; exact ⟨rfl, rfl⟩
  · rw [if_neg e]; exact ⟨rfl, rfl⟩
set_option maxHeartbeats 4000000 in
set_option maxRecDepth 100000 in
theorem refPlace_calls (s : List UInt8) (a : Int) (w : World) (hs : s.length ≤ 140737488351232) (h1 : -9223372036854775808 ≤ a) (h2 : a ≤ 9223372036854775807) :
    Calls Try.prog 30 #[.string (strB s), .int .i64 a] w fun e w' => e = .returned (placeV s (cutAt s.length a)) ∧ w' = w := by
  have HSZ := strB_size s
  unfold placeV
  go_enter Try.func30, Try.ntmps30
  go_wp2_with fail
  go_loop [6, 7, 8] (fun l c i => ∃ k : Nat, k ≤ cutAt s.length a ∧ l = .int .i64 (ln s k : Int) ∧ c = .int .i64 (cl s k : Int) ∧ i = .int .i64 k) (fun _ _ i => s.length - (intOf i).toNat)
  case atStart => exact ⟨0, Nat.zero_le _, rfl, rfl, rfl⟩
  case round =>
    obtain ⟨k, hk, rfl, rfl, rfl⟩ := hrel
    have hcl := cutAt_le s.length a
    have hll := ln_le s k (by omega)
    have i0 : (0 : Int) ≤ (k : Int) := by omega
    by_cases hlt : k < cutAt s.length a
    · have i1 : (k : Int) < s.length := by omega
      have i2 : (k : Int) < a := by unfold cutAt at hlt; split at hlt; omega; split at hlt <;> omega
      obtain ⟨x, hx⟩ : ∃ x, s[k]? = some x := ⟨_, List.getElem?_eq_getElem (by omega)⟩
      have hx' : ∀ hh, (strB s)[k]'hh = x := by
        intro hh
        obtain ⟨h1, h2⟩ := List.getElem?_eq_some_iff.1 hx
        rw [← h2]
        simp [strB, ByteArray.getElem_eq_getElem_data]
      obtain ⟨g1, g2⟩ := lc_succ hx
      have HX := Lib.hid hx
      clear hx
      by_cases h10 : x = 10
      · obtain ⟨e1, e2⟩ := g1 h10
        subst h10
        have E1 := Lib.hid e1
        have E2 := Lib.hid e2
        clear g1 g2 e1 e2
        go_wp2
        go_round
        case rel => exact ⟨k + 1, by omega, by rw [E1.out]; go_num, by rw [E2.out]; go_num, by go_num⟩
        case measure => simp [intOf] <;> omega
      · obtain ⟨e1, e2⟩ := g2 h10
        have hxn : ¬ (x.toNat : Int) = 10 := fun e => h10 (by rw [← UInt8.toNat_inj]; have : (10 : UInt8).toNat = 10 := rfl; omega)
        have E1 := Lib.hid e1
        have E2 := Lib.hid e2
        clear g1 g2 e1 e2
        go_wp2
        go_round
        case rel => exact ⟨k + 1, by omega, by rw [E1.out], by rw [E2.out]; go_num, by go_num⟩
        case measure => simp [intOf] <;> omega
    · obtain rfl : k = cutAt s.length a := by omega
      have hend : ¬ ((cutAt s.length a : Nat) : Int) < s.length ∨ ¬ ((cutAt s.length a : Nat) : Int) < a := by
        unfold cutAt; split
        · right; omega
        · split
          · right; omega
          · left; omega
      by_cases hk2 : ((cutAt s.length a : Nat) : Int) < s.length
      · have hk3 : ¬ ((cutAt s.length a : Nat) : Int) < a := by omega
        go_wp2
        go_ret2
        exact ⟨rfl, rfl⟩
      · go_wp2
        go_ret2
        exact ⟨rfl, rfl⟩
end Go.Proofs.Ythfjeijhnikabaa
