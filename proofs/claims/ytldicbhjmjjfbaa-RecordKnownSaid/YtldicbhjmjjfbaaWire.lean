/- The walks of package wire: each function computes what WirePure says. -/
import Derived.Test.YtldicbhjmjjfbaaJLib
import Derived.Test.YtldicbhjmjjfbaaLEqual
import Derived.Test.YtldicbhjmjjfbaaJStr
import Derived.Test.YtldicbhjmjjfbaaWirePure
import Derived.Laws.BitsAllLaws
import Derived.WalkSpells
import Derived.Defers
namespace Go.Proofs.Ytldicbhjmjjfbaa
open Go.RowKit

theorem or128 (x : Nat) (h : x < 256) : x ||| 128 = x % 128 + 128 := by
  have : ∀ y : Fin 256, y.val ||| 128 = y.val % 128 + 128 := by decide +kernel
  exact this ⟨x, h⟩
theorem bits_or128 (m : Nat) : bits .or .u8 ((m : Int) % 256) 128 = ((m % 128 + 128 : Nat) : Int) := by
  have h := u8_or_nat (m % 256) 128 (Nat.mod_lt _ (by decide)) (by decide)
  rw [or128 _ (Nat.mod_lt _ (by decide)), Int.natCast_emod] at h
  rw [show ((256 : Nat) : Int) = 256 from rfl, show ((128 : Nat) : Int) = 128 from rfl] at h
  rw [h]
  congr 2
  omega
set_option maxRecDepth 100000 in
set_option maxHeartbeats 2000000 in
theorem putUint_calls {J : Jm} {w : World} (hI : Inv J w) (n : Nat) (hn : n < 18446744073709551616) :
    Calls Try.prog 43 #[.int .u64 n] w fun e w' => ∃ v' J', e = .returned v' ∧ Ext J w J' w' ∧ Own J' w' w.heap.size 5 1 v' (uv n).length (bcs (uv n)) := by
  have hlen := uv_len64 (n := n) hn
  clear hn
  go_enter Try.func43, Try.ntmps43
  go_wp2
  go_step3
  go_wp2
  go_step3
  go_wp2
  go_loopw [0, 3] (fun u v wr => ∃ (m : Nat) (pre : List UInt8) (J' : Jm), u = .int .u64 m ∧ m ≤ n ∧ Hid (pre ++ uv m = uv n) ∧ Ext J w J' wr ∧ Own J' wr w.heap.size 5 1 v pre.length (bcs pre)) (fun u _ _ => (intOf u).toNat)
  case atStart => exact ⟨n, [], J, rfl, Nat.le_refl _, rfl, Ext.refl hI, Own.nil _ _ _ _ _⟩
  case round =>
    obtain ⟨m, pre, J', rfl, hmn, HP, hE, ho⟩ := hrel
    have HE := Lib.hid hE
    have HO := Lib.hid ho
    have hpl : pre.length ≤ 9 := by
      have := congrArg List.length HP.out
      have := uv_pos m
      simp at *; omega
    clear hE ho hlen
    by_cases h : m < 128
    · have hx : bv (UInt8.ofNat m) = .int .u8 m := by rw [bv, toNat_of (by omega)]
      have HX := Lib.hid hx
      have HF : Hid (bcs (uv n) = bcs pre ++ bcs [UInt8.ofNat m]) := by rw [Hid, ← HP.out, uv_lt h, bcs_append]
      have HL : Hid ((uv n).length = pre.length + 1) := by rw [Hid, ← HP.out, uv_lt h]; simp
      clear hx
      go_wp2_with (at_builtin; go_must (refine wpList_append_lit (J := J') (s := .tmp 14) (x := .tmp 17) (t := 54) (e := 5) (base := w.heap.size) (v := u3) (n := pre.length) (xs := bcs pre) (m := 1) (news := bcs [UInt8.ofNat m]) rfl (.int .u8 0) 1 1 rfl Try.underlying54 info_u8 rfl rfl (HE.out.inv.alloc _) (HO.out.alloc _) rfl (by rw [bcs_cons, bcs_nil, HX.out]; exact heap_alloc_new _ _) rfl (bcs_one _) (by simp only [maxLen]; omega) (by omega) (by have := HE.out.below.size; simp; omega) ?_; intro v1 w1 J1 ho1 hg1 hv1; have HE1 := Lib.hid ((HE.out.alloc _).grew (HO.out.alloc _) hg1); have HO1 := Lib.hid ho1; have HV1 := Lib.hid hv1; clear ho1 hg1 hv1))
      rw [Exit.noGoto_ret]
      go_ret
      exact ⟨v1, J1, rfl, HE1.out, by rw [HF.out, HL.out]; exact HO1.out⟩
    · have hx : bv (UInt8.ofNat (m % 128 + 128)) = .int .u8 (bits .or .u8 ((m : Int) % 256) 128) := by rw [bv, toNat_of (by omega), bits_or128]
      have HX := Lib.hid hx
      have HF : Hid (pre ++ [UInt8.ofNat (m % 128 + 128)] ++ uv (m / 128) = uv n) := by rw [Hid, ← HP.out, uv_ge h]; simp
      clear hx
      go_wp2_with (at_builtin; go_must (refine wpList_append_lit (J := J') (s := .tmp 6) (x := .tmp 10) (t := 54) (e := 5) (base := w.heap.size) (v := u3) (n := pre.length) (xs := bcs pre) (m := 1) (news := bcs [UInt8.ofNat (m % 128 + 128)]) rfl (.int .u8 0) 1 1 rfl Try.underlying54 info_u8 rfl rfl (HE.out.inv.alloc _) (HO.out.alloc _) rfl (by rw [bcs_cons, bcs_nil, HX.out]; exact heap_alloc_new _ _) rfl (bcs_one _) (by simp only [maxLen]; omega) (by omega) (by have := HE.out.below.size; simp; omega) ?_; intro v1 w1 J1 ho1 hg1 hv1; have HE1 := Lib.hid ((HE.out.alloc _).grew (HO.out.alloc _) hg1); have HO1 := Lib.hid ho1; have HV1 := Lib.hid hv1; clear ho1 hg1 hv1))
      go_roundw
      case rel => exact ⟨m / 128, pre ++ [UInt8.ofNat (m % 128 + 128)], J1, by go_num, by omega, HF.out, HE1.out, by rw [bcs_append, List.length_append]; exact HO1.out⟩
      case measure => simp [intOf]; omega
theorem uv_len63 (n : Nat) (h : n < 18446744073709551616) : (uv n).length ≤ 10 := uv_len64 h
set_option maxHeartbeats 2000000 in
theorem putText_calls {J : Jm} {w : World} (hI : Inv J w) (l : List UInt8) (hn : l.length ≤ 70368744177664) :
    Calls Try.prog 42 #[.string (strB l)] w fun e w' => ∃ v' J', e = .returned v' ∧ Ext J w J' w' ∧ Own J' w' w.heap.size 5 1 v' (ut l).length (bcs (ut l)) := by
  have hlen := uv_len63 l.length (by omega)
  have HS := Lib.hid (strB_size l)
  have HD := Lib.hid (strB_data l)
  go_enter Try.func42, Try.ntmps42
  go_wp2_with (first | (go_at_call 43; go_must (refine (putUint_calls hI l.length (by omega)).mono ?_; rintro e w1 ⟨v1, J1, rfl, hE1, hO1⟩; have HE1 := Lib.hid hE1; have HO1 := Lib.hid hO1; clear hE1 hO1)) | (at_builtin; go_must (refine wpList_append_str (J := J1) (s := .tmp 6) (x := .tmp 7) (t := 54) (u := 9) (e := 5) (base := w.heap.size) (v := v1) (n := (uv l.length).length) (xs := bcs (uv l.length)) rfl rfl Try.underlying54 Try.underlying9 info_u8 rfl HE1.out.inv HO1.out rfl (by rw [HS.out]; omega) (by have := HE1.out.below.size; simp; omega) ?_; intro v2 w2 J2 ho2 hg2 hv2; have HE2 := Lib.hid ((HE1.out).grew (HO1.out) hg2); have HO2 := Lib.hid ho2; have HV2 := Lib.hid hv2; clear ho2 hg2 hv2)))
  go_ret
  have h1 := HO2.out
  rw [HS.out, HD.out, ← bcs_append] at h1
  refine ⟨v2, J2, rfl, HE2.out, ?_⟩
  rw [show (ut l).length = (uv l.length).length + l.length from by simp [ut], show ut l = uv l.length ++ l from rfl]
  exact h1

theorem uts_take (ls : List (List UInt8)) (k : Nat) (hk : k < ls.length) : uts (ls.take (k + 1)) = uts (ls.take k) ++ ut ls[k] := by
  unfold uts
  rw [List.take_succ_eq_append_getElem hk, List.map_append, List.flatten_append]
  simp only [List.map_cons, List.map_nil, List.flatten_cons, List.flatten_nil, List.append_nil]
theorem ul_len (ls : List (List UInt8)) : (ul ls).length = (uv ls.length).length + (uts ls).length := by simp [ul]
theorem uts_take_le (ls : List (List UInt8)) (k : Nat) : (uts (ls.take k)).length ≤ (uts ls).length := by
  have : uts ls = uts (ls.take k) ++ uts (ls.drop k) := by unfold uts; rw [← List.flatten_append, ← List.map_append, List.take_append_drop]
  rw [this, List.length_append]; omega
theorem ut_len (l : List UInt8) : (ut l).length = (uv l.length).length + l.length := by simp [ut]
def upto (ls : List (List UInt8)) (k : Nat) : List UInt8 := uv ls.length ++ uts (ls.take k)
theorem upto_zero (ls : List (List UInt8)) : upto ls 0 = uv ls.length := by simp [upto, uts]
theorem upto_all (ls : List (List UInt8)) : upto ls ls.length = ul ls := by simp [upto, ul]
theorem upto_succ (ls : List (List UInt8)) (k : Nat) (hk : k < ls.length) : upto ls (k + 1) = upto ls k ++ ut ls[k] := by
  unfold upto; rw [uts_take ls k hk, List.append_assoc]
theorem upto_le (ls : List (List UInt8)) (k : Nat) : (upto ls k).length ≤ (ul ls).length := by
  have := uts_take_le ls k
  simp only [upto, ul, List.length_append]; omega
set_option maxHeartbeats 2000000 in
theorem putList_calls {J : Jm} {w : World} (hI : Inv J w) {v : Value} {ls : List (List UInt8)} (hb : Ss J v ls) (ht : (ul ls).length ≤ 70368744177664) :
    Calls Try.prog 44 #[v] w fun e w' => ∃ v' J', e = .returned v' ∧ Ext J w J' w' ∧ Own J' w' w.heap.size 5 1 v' (ul ls).length (bcs (ul ls)) := by
  obtain ⟨A, c, rfl, hn, hm⟩ := hb.form
  unfold maxLen at hm
  go_enter Try.func44, Try.ntmps44
  go_wp2_with (go_at_call 43; go_must (refine (putUint_calls hI ls.length (by omega)).mono ?_; rintro e w1 ⟨v1, J1, rfl, hE1, hO1⟩; have HE1 := Lib.hid hE1; have HO1 := Lib.hid hO1; clear hE1 hO1))
  go_loopw [3, 12] (fun s i wr => ∃ (k : Nat) (J' : Jm), k ≤ ls.length ∧ i = .int .i64 k ∧ Ext J w J' wr ∧ Own J' wr w.heap.size 5 1 s (upto ls k).length (bcs (upto ls k))) (fun _ i _ => ls.length - (intOf i).toNat)
  case atStart => exact ⟨0, J1, by omega, rfl, HE1.out, by rw [upto_zero]; exact HO1.out⟩
  case round =>
    obtain ⟨k, J', hk, rfl, hE, ho⟩ := hrel
    by_cases hlt : k < ls.length
    · obtain ⟨b, o, rfl, hc⟩ := (hb.mono (hE.le hI)).cell hE.inv hlt
      have h1 := upto_succ ls k hlt
      have h2 := upto_le ls (k + 1)
      rw [h1, List.length_append] at h2
      have hl2 : ls[k].length ≤ 70368744177664 := by have := ut_len ls[k]; omega
      have HF := Lib.hid h1
      have HO := Lib.hid ho
      have HE := Lib.hid hE
      clear h1 ho hE
      go_wp2_with (first | (go_at_call 42; go_must (refine (putText_calls HE.out.inv _ hl2).mono ?_; rintro e w2 ⟨v2, J2, rfl, hE2, hO2⟩; have HE2 := Lib.hid (HE.out.trans hE2); have HB2 := Lib.hid hO2.bs; have HO2 := Lib.hid (HO.out.ext hE2); have HF2 := Lib.hid hO2.bs.form; clear hE2 hO2; obtain ⟨A2, c2, rfl, -, -⟩ := HF2.out)) | (at_builtin; go_must (refine wpList_append_J (J := J2) (s := .tmp 16) (x := .tmp 18) (t := 54) (e := 5) (base := w.heap.size) (v := u3) (n := (upto ls k).length) (xs := bcs (upto ls k)) rfl (.int .u8 0) 1 1 rfl Try.underlying54 info_u8 rfl rfl HE2.out.inv HO2.out rfl HB2.out (bcs_one _) (by simp only [maxLen]; omega) (by omega) (by have := HE2.out.below.size; simp; omega) ?_; intro v3 w3 J3 ho3 hg3 hv3; have HE3 := Lib.hid ((HE2.out).grew (HO2.out) hg3); have HO3 := Lib.hid ho3; have HV3 := Lib.hid hv3; clear ho3 hg3 hv3)))
      go_roundw
      case rel => exact ⟨k + 1, J3, by omega, by go_num, HE3.out, by rw [HF.out, List.length_append, bcs_append]; exact HO3.out⟩
      case measure => simp [intOf]; omega
    · obtain rfl : k = ls.length := by omega
      rw [upto_all] at ho
      go_wp2
      go_ret
      exact ⟨_, J', rfl, hE, ho⟩
end Go.Proofs.Ytldicbhjmjjfbaa
