/- The walks of slices.Grow and slices.Concat at bytes. -/
import Derived.Test.YtfofgmjhfbmbaaaLEqual
import Derived.Lib.AppendZeros
namespace Go.Proofs.Ytfofgmjhfbmbaaa
open Go.RowKit

set_option maxHeartbeats 1000000 in
theorem grow_calls {J : Jm} {w : World} (hI : Inv J w) (n : Nat) (hn : n ≤ 140737488355328) :
    Calls Try.prog 38 #[.slice none 0 0, .int .i64 n] w fun e w' => ∃ v', e = .returned v' ∧ Below w.heap.size w w' ∧ Own J w' w.heap.size 5 1 v' 0 [] := by
  obtain ⟨i, hi, hz, hs, hby⟩ := info_parts_J info_u8
  by_cases h0 : 0 < n
  · have happ := Lib.run_append_nil_zeros (P := Try.prog) w 24 3 24 5 i (.int .u8 0) .i64 .i64 Try.underlying24 Try.underlying3 hi hz n h0 (by omega) (by omega) (by rw [hby]; omega)
    have hcap := grownCap_ge w n 0 5
    have hcm := grownCap_le_maxLen w n 0 5 (by simp only [maxLen]; omega)
    generalize grownCap w n 0 5 = cap at *
    have HZ : Hid ((Builtin.zeroCells (Value.int .u8 0).cells n ++ Builtin.zeroCells (Value.int .u8 0).cells (cap - n)).size = cap * 1) := by
      simp only [Hid, Array.size_append, size_zeroCells, Value.cells]; simp; omega
    generalize (Builtin.zeroCells (Value.int .u8 0).cells n ++ Builtin.zeroCells (Value.int .u8 0).cells (cap - n)) = cur at *
    have HA := Lib.hid happ
    have HC := Lib.hid hcm
    unfold maxLen at hcm
    clear happ hz hs hby
    go_enter Try.func38, Try.ntmps38
    go_wp2_with (at_builtin; go_must (refine Lib.wpList_append_run _ rfl (.tmp 20) (.tmp 21) 24 3 rfl (.slice none 0 0) (.int .i64 n) rfl rfl _ _ HA.out ?_))
    go_ret
    refine ⟨_, rfl, (Below.refl _ _).drew.alloc (Nat.le_refl _) _, ?_⟩
    exact Own.made hI.drew w.heap.size 5 1 cur cap (Nat.le_refl _) HC.out HZ.out
  · obtain rfl : n = 0 := by omega
    go_enter Try.func38, Try.ntmps38
    go_wp2
    go_ret
    exact ⟨_, rfl, Below.refl _ _, Own.nil _ _ _ _ _⟩

/-- A slice of slices of bytes reads as ls. -/
def BsL (J : Jm) (v : Value) (ls : List (List UInt8)) : Prop := ∃ vs : List Value, Sl J 1 v ls.length vs ∧ ∀ (i : Nat) (x : List UInt8), ls[i]? = some x → ∃ u, vs[i]? = some u ∧ Bs J u x
theorem BsL.mono {J J' : Jm} {v : Value} {ls : List (List UInt8)} (h : BsL J v ls) (hle : J.le J') : BsL J' v ls := by
  obtain ⟨vs, h1, h2⟩ := h
  exact ⟨vs, h1.mono hle, fun i x hx => by obtain ⟨u, hu, hb⟩ := h2 i x hx; exact ⟨u, hu, hb.mono hle⟩⟩
theorem BsL.form {J : Jm} {v : Value} {ls : List (List UInt8)} (h : BsL J v ls) : ∃ A c, v = .slice A ls.length c ∧ ls.length ≤ c ∧ c ≤ maxLen := by
  obtain ⟨vs, h1, _⟩ := h; exact h1.form
theorem BsL.cell {J : Jm} {A : Option Addr} {c m : Nat} {ls : List (List UInt8)} (h : BsL J (.slice A m c) ls) {w : World} (hI : Inv J w) {j : Nat} (hj : j < ls.length) :
    ∃ b o u, A = some ⟨b, o, none⟩ ∧ w.cell? ⟨b, o + j, none⟩ = some u ∧ Bs J u ls[j] := by
  obtain ⟨vs, h1, h2⟩ := h
  obtain ⟨u, hu, hb⟩ := h2 j _ (List.getElem?_eq_getElem hj)
  obtain ⟨b, o, hA, hc⟩ := h1.cell hI hu
  exact ⟨b, o, u, hA, hc, hb⟩
def total (ls : List (List UInt8)) : Nat := ls.flatten.length
theorem flatten_take (ls : List (List UInt8)) (k : Nat) (hk : k < ls.length) : (ls.take (k + 1)).flatten = (ls.take k).flatten ++ ls[k] := by
  rw [List.take_succ_eq_append_getElem hk, List.flatten_append]
  simp only [List.flatten_cons, List.flatten_nil, List.append_nil]
theorem total_take (ls : List (List UInt8)) (k : Nat) (hk : k < ls.length) : total (ls.take (k + 1)) = total (ls.take k) + ls[k].length := by
  unfold total
  rw [flatten_take ls k hk, List.length_append]
theorem total_take_le (ls : List (List UInt8)) (k : Nat) : total (ls.take k) ≤ total ls := by
  have : ls.flatten = (ls.take k).flatten ++ (ls.drop k).flatten := by rw [← List.flatten_append, List.take_append_drop]
  unfold total
  rw [this, List.length_append]
  omega
set_option maxHeartbeats 2000000 in
theorem concat_calls {J : Jm} {w : World} (hI : Inv J w) {v : Value} {ls : List (List UInt8)} (hb : BsL J v ls) (ht : total ls ≤ 140737488355328) :
    Calls Try.prog 30 #[v] w fun e w' => ∃ v' J', e = .returned v' ∧ Ext J w J' w' ∧ Own J' w' w.heap.size 5 1 v' (total ls) (bcs ls.flatten) := by
  obtain ⟨A, c, rfl, hn, hm⟩ := hb.form
  unfold maxLen at hm
  go_enter Try.func30, Try.ntmps30
  go_wp2
  go_loop [3, 11] (fun s i => ∃ k : Nat, k ≤ ls.length ∧ i = .int .i64 k ∧ s = .int .i64 (total (ls.take k) : Nat)) (fun _ i => ls.length - (intOf i).toNat)
  case atStart => exact ⟨0, by omega, rfl, rfl⟩
  case round =>
    obtain ⟨k, hk, rfl, rfl⟩ := hrel
    by_cases hlt : k < ls.length
    · obtain ⟨b, o, u, rfl, hc, hu⟩ := hb.cell hI hlt
      obtain ⟨A', c', rfl, _, _⟩ := hu.form
      have h1 := total_take ls k hlt
      have h2 := total_take_le ls (k + 1)
      have hq : total (ls.take k) + ls[k].length ≤ 140737488355328 := by omega
      have HT := Lib.hid h1
      clear h1 h2 hb hu
      generalize total (ls.take k) = T0 at *
      go_wp2
      go_round
      case rel => exact ⟨k + 1, by omega, by go_num, by rw [HT.out]; go_num⟩
      case measure => simp [intOf]; omega
    · obtain rfl : k = ls.length := by omega
      rw [List.take_length] at *
      go_wp2_with (go_at_call 38; go_must (refine (grow_calls hI (total ls) ht).mono ?_; rintro e w1 ⟨v1, rfl, hb1, ho1⟩))
      go_loopw [6, 27] (fun s i wr => ∃ (k : Nat) (J' : Jm), k ≤ ls.length ∧ i = .int .i64 k ∧ Ext J w J' wr ∧ Own J' wr w.heap.size 5 1 s (total (ls.take k)) (bcs (ls.take k).flatten)) (fun _ i _ => ls.length - (intOf i).toNat)
      case atStart => exact ⟨0, J, by omega, rfl, Ext.of_below hI hb1, by simpa [total] using ho1⟩
      case round =>
        obtain ⟨k, J', hk, rfl, hE, ho⟩ := hrel
        by_cases hlt : k < ls.length
        · obtain ⟨b, o, u, rfl, hc, hu⟩ := (hb.mono (hE.le hI)).cell hE.inv hlt
          obtain ⟨A', c', rfl, _, _⟩ := id hu.form
          have h1 := total_take ls k hlt
          have h2 := total_take_le ls (k + 1)
          have hq : total (ls.take k) + ls[k].length ≤ 140737488355328 := by omega
          have HT := Lib.hid h1
          have HF : Hid (bcs (ls.take (k + 1)).flatten = bcs (ls.take k).flatten ++ bcs ls[k]) := by
            rw [Hid, flatten_take ls k hlt, bcs_append]
          have HO := Lib.hid ho
          have HE := Lib.hid hE
          have HU := Lib.hid hu
          clear h1 h2 ho hE hu
          go_wp2_with (at_builtin; go_must (refine wpList_append_J (J := J') (s := .tmp 31) (x := .tmp 32) (t := 24) (e := 5) (base := w.heap.size) (v := u6) (n := total (ls.take k)) (xs := bcs (ls.take k).flatten) rfl (.int .u8 0) 1 1 rfl Try.underlying24 info_u8 rfl rfl HE.out.inv HO.out rfl HU.out (bcs_one _) (by simp only [maxLen]; omega) (by omega) HE.out.below.size ?_; intro v2 w2 J2 ho2 hg2 hv2))
          go_roundw
          case rel => exact ⟨k + 1, J2, by omega, by go_num, HE.out.grew HO.out hg2, by rw [HT.out, HF.out]; exact ho2⟩
          case measure => simp [intOf]; omega
        · obtain rfl : k = ls.length := by omega
          rw [List.take_length] at *
          go_wp2
          go_ret
          exact ⟨_, J', rfl, hE, ho⟩
end Go.Proofs.Ytfofgmjhfbmbaaa
