/- The walks of brickyardref01: Uint, Text, List. -/
import Derived.Test.YtldicbhjmjjfbaaWire
namespace Go.Proofs.Ytldicbhjmjjfbaa
open Go.RowKit

set_option maxRecDepth 100000 in
set_option maxHeartbeats 2000000 in
theorem refUint_calls {J : Jm} {w : World} (hI : Inv J w) (n : Nat) (hn : n < 18446744073709551616) :
    Calls Try.prog 35 #[.int .u64 n] w fun e w' => ∃ v' J', e = .returned v' ∧ Ext J w J' w' ∧ Own J' w' w.heap.size 5 1 v' (uv n).length (bcs (uv n)) := by
  have hlen := uv_len64 (n := n) hn
  go_enter Try.func35, Try.ntmps35
  go_wp2
  go_loopw [3, 0] (fun v u wr => ∃ (m : Nat) (pre : List UInt8) (J' : Jm), u = .int .u64 m ∧ m ≤ n ∧ Hid (pre ++ uv m = uv n) ∧ Hid (Ext J w J' wr) ∧ Hid (Own J' wr w.heap.size 5 1 v pre.length (bcs pre))) (fun _ u _ => (intOf u).toNat)
  case atStart => exact ⟨n, [], J, rfl, Nat.le_refl _, rfl, Ext.refl hI, Own.nil _ _ _ _ _⟩
  case round =>
    obtain ⟨m, pre, J', rfl, hmn, HP, HE, HO⟩ := hrel
    have hpl : pre.length ≤ 9 := by
      have := congrArg List.length HP.out
      have := uv_pos m
      simp at *; omega
    have hm64 : m < 18446744073709551616 := by omega
    clear hlen
    by_cases h : m < 128
    · have hx : bv (UInt8.ofNat m) = .int .u8 m := by rw [bv, toNat_of (by omega)]
      have HX := Lib.hid hx
      have HF : Hid (bcs (uv n) = bcs pre ++ bcs [UInt8.ofNat m]) := by rw [Hid, ← HP.out, uv_lt h, bcs_append]
      have HL : Hid ((uv n).length = pre.length + 1) := by rw [Hid, ← HP.out, uv_lt h]; simp
      clear hx
      go_wp2_with (at_builtin; go_must (refine wpList_append_lit (J := J') (s := .tmp 15) (x := .tmp 18) (t := 54) (e := 5) (base := w.heap.size) (v := u3) (n := pre.length) (xs := bcs pre) (m := 1) (news := bcs [UInt8.ofNat m]) rfl (.int .u8 0) 1 1 rfl Try.underlying54 info_u8 rfl rfl (HE.out.inv.alloc _) (HO.out.alloc _) rfl (by rw [bcs_cons, bcs_nil, HX.out]; exact heap_alloc_new _ _) rfl (bcs_one _) (by simp only [maxLen]; omega) (by omega) (by have := HE.out.below.size; simp; omega) ?_; intro v1 w1 J1 ho1 hg1 hv1; have HE1 := Lib.hid ((HE.out.alloc _).grew (HO.out.alloc _) hg1); have HO1 := Lib.hid ho1; have HV1 := Lib.hid hv1; clear ho1 hg1 hv1))
      go_ret
      exact ⟨v1, J1, rfl, HE1.out, by rw [HF.out, HL.out]; exact HO1.out⟩
    · have hx : bv (UInt8.ofNat (m % 128 + 128)) = .int .u8 ((m : Int) % 128 + 128) := by rw [bv, toNat_of (by omega)]; congr 1
      have HX := Lib.hid hx
      have HF : Hid (pre ++ [UInt8.ofNat (m % 128 + 128)] ++ uv (m / 128) = uv n) := by rw [Hid, ← HP.out, uv_ge h]; simp
      clear hx
      go_wp2_with (at_builtin; go_must (refine wpList_append_lit (J := J') (s := .tmp 6) (x := .tmp 11) (t := 54) (e := 5) (base := w.heap.size) (v := u3) (n := pre.length) (xs := bcs pre) (m := 1) (news := bcs [UInt8.ofNat (m % 128 + 128)]) rfl (.int .u8 0) 1 1 rfl Try.underlying54 info_u8 rfl rfl (HE.out.inv.alloc _) (HO.out.alloc _) rfl (by rw [bcs_cons, bcs_nil, HX.out]; exact heap_alloc_new _ _) rfl (bcs_one _) (by simp only [maxLen]; omega) (by omega) (by have := HE.out.below.size; simp; omega) ?_; intro v1 w1 J1 ho1 hg1 hv1; have HE1 := Lib.hid ((HE.out.alloc _).grew (HO.out.alloc _) hg1); have HO1 := Lib.hid ho1; have HV1 := Lib.hid hv1; clear ho1 hg1 hv1))
      go_roundw
      case rel => exact ⟨m / 128, pre ++ [UInt8.ofNat (m % 128 + 128)], J1, by go_num, by omega, HF, HE1, by rw [bcs_append, List.length_append]; exact HO1⟩
      case measure => simp [intOf]; omega
theorem take_snoc {α : Type} (l : List α) (k : Nat) (h : k < l.length) : l.take (k + 1) = l.take k ++ [l[k]] := List.take_succ_eq_append_getElem h
theorem strB_at0 {s : List UInt8} {k : Nat} (h : k < s.length) : ∀ hh, (strB s)[k]'hh = s[k]'h := fun _ => rfl
set_option maxRecDepth 100000 in
set_option maxHeartbeats 2000000 in
theorem refText_calls {J : Jm} {w : World} (hI : Inv J w) (l : List UInt8) (hn : l.length ≤ 70368744177664) :
    Calls Try.prog 34 #[.string (strB l)] w fun e w' => ∃ v' J', e = .returned v' ∧ Ext J w J' w' ∧ Own J' w' w.heap.size 5 1 v' (ut l).length (bcs (ut l)) := by
  have hlen := uv_len63 l.length (by omega)
  have HS := Lib.hid (strB_size l)
  go_enter Try.func34, Try.ntmps34
  go_wp2_with (go_at_call 35; go_must (refine (refUint_calls hI l.length (by omega)).mono ?_; rintro e w1 ⟨v1, J1, rfl, hE1, hO1⟩; have HE1 := Lib.hid hE1; have HO1 := Lib.hid hO1; clear hE1 hO1))
  go_loopw [3, 4] (fun v i wr => ∃ (k : Nat) (J' : Jm), k ≤ l.length ∧ i = .int .i64 k ∧ Hid (Ext J w J' wr) ∧ Hid (Own J' wr w.heap.size 5 1 v ((uv l.length).length + k) (bcs (uv l.length ++ l.take k)))) (fun _ i _ => l.length - (intOf i).toNat)
  case atStart => exact ⟨0, J1, by omega, rfl, HE1, by rw [List.take_zero, List.append_nil]; exact HO1⟩
  case round =>
    obtain ⟨k, J', hk, rfl, HE, HO⟩ := hrel
    by_cases hlt : k < l.length
    · have i0 : (0 : Int) ≤ (k : Int) := by omega
      have i1 : (k : Int) < l.length := by omega
      have hx := strB_at0 hlt
      have HF : Hid (bcs (uv l.length ++ l.take (k + 1)) = bcs (uv l.length ++ l.take k) ++ bcs [l[k]]) := by rw [Hid, take_snoc l k hlt, ← List.append_assoc, bcs_append]
      generalize l[k] = x at *
      go_wp2_with (at_builtin; go_must (refine wpList_append_lit (J := J') (s := .tmp 15) (x := .tmp 19) (t := 54) (e := 5) (base := w.heap.size) (v := u3) (n := (uv l.length).length + k) (xs := bcs (uv l.length ++ l.take k)) (m := 1) (news := bcs [x]) rfl (.int .u8 0) 1 1 rfl Try.underlying54 info_u8 rfl rfl (HE.out.inv.alloc _) (HO.out.alloc _) rfl (heap_alloc_new _ _) rfl (bcs_one _) (by simp only [maxLen]; omega) (by omega) (by have := HE.out.below.size; simp; omega) ?_; intro v2 w2 J2 ho2 hg2 hv2; have HE2 := Lib.hid ((HE.out.alloc _).grew (HO.out.alloc _) hg2); have HO2 := Lib.hid ho2; have HV2 := Lib.hid hv2; clear ho2 hg2 hv2))
      go_roundw
      case rel => exact ⟨k + 1, J2, by omega, by go_num, HE2, by rw [HF.out]; exact HO2⟩
      case measure => simp [intOf]; omega
    · obtain rfl : k = l.length := by omega
      have HL : Hid ((ut l).length = (uv l.length).length + l.length) := ut_len l
      have HU : Hid (ut l = uv l.length ++ l) := rfl
      rw [List.take_length] at HO
      go_wp2
      go_ret
      exact ⟨_, J', rfl, HE.out, by rw [HL.out, HU.out]; exact HO.out⟩
set_option maxRecDepth 100000 in
set_option maxHeartbeats 2000000 in
theorem refList_calls {J : Jm} {w : World} (hI : Inv J w) {v : Value} {ls : List (List UInt8)} (hb : Ss J v ls) (ht : (ul ls).length ≤ 70368744177664) :
    Calls Try.prog 36 #[v] w fun e w' => ∃ v' J', e = .returned v' ∧ Ext J w J' w' ∧ Own J' w' w.heap.size 5 1 v' (ul ls).length (bcs (ul ls)) := by
  obtain ⟨A, c, rfl, hn, hm⟩ := hb.form
  unfold maxLen at hm
  go_enter Try.func36, Try.ntmps36
  go_wp2_with (go_at_call 35; go_must (refine (refUint_calls hI ls.length (by omega)).mono ?_; rintro e w1 ⟨v1, J1, rfl, hE1, hO1⟩; have HE1 := Lib.hid hE1; have HO1 := Lib.hid hO1; clear hE1 hO1))
  go_loopw [3, 4] (fun s i wr => ∃ (k : Nat) (J' : Jm), k ≤ ls.length ∧ i = .int .i64 k ∧ Ext J w J' wr ∧ Own J' wr w.heap.size 5 1 s (upto ls k).length (bcs (upto ls k))) (fun _ i _ => ls.length - (intOf i).toNat)
  case atStart => exact ⟨0, J1, by omega, rfl, HE1.out, by rw [upto_zero]; exact HO1.out⟩
  case round =>
    obtain ⟨k, J', hk, rfl, hE, ho⟩ := hrel
    by_cases hlt : k < ls.length
    · obtain ⟨b, o, rfl, hc⟩ := (hb.mono (hE.le hI)).cell hE.inv hlt
      have i0 : (0 : Int) ≤ (k : Int) := by omega
      have i1 : (k : Int) < ls.length := by omega
      have h1 := upto_succ ls k hlt
      have h2 := upto_le ls (k + 1)
      rw [h1, List.length_append] at h2
      have hl2 : ls[k].length ≤ 70368744177664 := by have := ut_len ls[k]; omega
      have HF := Lib.hid h1
      have HO := Lib.hid ho
      have HE := Lib.hid hE
      clear h1 ho hE
      go_wp2_with (first | (go_at_call 34; go_must (refine (refText_calls HE.out.inv _ hl2).mono ?_; rintro e w2 ⟨v2, J2, rfl, hE2, hO2⟩; have HE2 := Lib.hid (HE.out.trans hE2); have HB2 := Lib.hid hO2.bs; have HO2 := Lib.hid (HO.out.ext hE2); have HF2 := Lib.hid hO2.bs.form; clear hE2 hO2; obtain ⟨A2, c2, rfl, -, -⟩ := HF2.out)) | (at_builtin; go_must (refine wpList_append_J (J := J2) (s := .tmp 15) (x := .tmp 20) (t := 54) (e := 5) (base := w.heap.size) (v := u3) (n := (upto ls k).length) (xs := bcs (upto ls k)) rfl (.int .u8 0) 1 1 rfl Try.underlying54 info_u8 rfl rfl HE2.out.inv HO2.out rfl HB2.out (bcs_one _) (by simp only [maxLen]; omega) (by omega) (by have := HE2.out.below.size; simp; omega) ?_; intro v3 w3 J3 ho3 hg3 hv3; have HE3 := Lib.hid ((HE2.out).grew (HO2.out) hg3); have HO3 := Lib.hid ho3; have HV3 := Lib.hid hv3; clear ho3 hg3 hv3)))
      go_roundw
      case rel => exact ⟨k + 1, J3, by omega, by go_num, HE3.out, by rw [HF.out, List.length_append, bcs_append]; exact HO3.out⟩
      case measure => simp [intOf]; omega
    · obtain rfl : k = ls.length := by omega
      rw [upto_all] at ho
      go_wp2
      go_ret
      exact ⟨_, J', rfl, hE, ho⟩
end Go.Proofs.Ytldicbhjmjjfbaa
