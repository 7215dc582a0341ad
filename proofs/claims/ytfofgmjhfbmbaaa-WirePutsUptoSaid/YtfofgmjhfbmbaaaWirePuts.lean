/- The statement WirePuts. -/
import Derived.Test.YtfofgmjhfbmbaaaWireApart
import Derived.Test.YtfofgmjhfbmbaaaWireRef
import Derived.Test.YtfofgmjhfbmbaaaLStrClone
namespace Go.Proofs.Ytfofgmjhfbmbaaa
open Go.RowKit

theorem Own.ss {J : Jm} {w : World} {base : Nat} {T : TypeId} {v : Value} {n : Nat} {l : List (List UInt8)} (h : Own J w base T 1 v n (scs l)) : Ss J v l := by
  have hs := h.sl
  have : n = l.length := by have := hs.1; simpa using this.symm
  subst this
  exact hs
set_option maxRecDepth 100000 in
set_option maxHeartbeats 8000000 in
theorem wirePuts_walk {J : Jm} {w : World} (hI : Inv J w) (n : Nat) (hn : n < 18446744073709551616) (s : List UInt8) (hs : s.length ≤ 1048576)
    {v : Value} {l : List (List UInt8)} (hl : Ss J v l) (hl0 : bulkS l ≤ 1048576) :
    Calls Try.prog 6 #[.int .u64 n, .string (strB s), v] w fun e w' => e = .returned (.bool true) ∧ Below w.heap.size w w' := by
  have hlb := ul_bulk l hl0
  have hll := bulk_len l
  go_enter Try.func6, Try.ntmps6
  go_wp2_with (first | (go_at_call 9; go_must (refine (works_calls hI).mono ?_; rintro e w1 ⟨J1, rfl, hE⟩; have HE1 := Lib.hid hE; clear hE)) | (go_at_call 22; go_must (refine (strclone_calls HE1.out.inv (hl.mono (HE1.out.le hI)) (by omega)).mono ?_; rintro e w2 ⟨v2, J2, rfl, hE, hO, -⟩; have HE2 := Lib.hid (HE1.out.trans hE); have HS2 := Lib.hid hO.ss; clear hE hO)) | (go_at_call 11; go_must (refine (putUint_calls HE2.out.inv n hn).mono ?_; rintro e w3 ⟨v3, J3, rfl, hE, hO⟩; have HE3 := Lib.hid (HE2.out.trans hE); have HS3 := Lib.hid (HS2.out.mono (hE.le HE2.out.inv)); have HB3 := Lib.hid hO.bs; clear hE hO)) | (go_at_call 23; go_must (refine (refUint_calls HE3.out.inv n hn).mono ?_; rintro e w4 ⟨v4, J4, rfl, hE, hO⟩; have HE4 := Lib.hid (HE3.out.trans hE); have HS4 := Lib.hid (HS3.out.mono (hE.le HE3.out.inv)); have HA4 := Lib.hid (HB3.out.mono (hE.le HE3.out.inv)); have HB4 := Lib.hid hO.bs; clear hE hO)) | (go_at_call 10; have mark := HB8; go_must (refine (equal_calls HE8.out.inv HA8.out HB8.out).mono ?_; rw [show (ul l == ul l) = true from beq_self_eq_true _]; rintro e w9 ⟨rfl, rfl⟩; clear mark)) | (go_at_call 10; have mark := HB6; go_must (refine (equal_calls HE6.out.inv HA6.out HB6.out).mono ?_; rw [show (ut s == ut s) = true from beq_self_eq_true _]; rintro e w9 ⟨rfl, rfl⟩; clear mark)) | (go_at_call 10; have mark := HB4; go_must (refine (equal_calls HE4.out.inv HA4.out HB4.out).mono ?_; rw [show (uv n == uv n) = true from beq_self_eq_true _]; rintro e w9 ⟨rfl, rfl⟩; clear mark)) | (go_at_call 12; go_must (refine (putText_calls HE4.out.inv s (by omega)).mono ?_; rintro e w5 ⟨v5, J5, rfl, hE, hO⟩; have HE5 := Lib.hid (HE4.out.trans hE); have HS5 := Lib.hid (HS4.out.mono (hE.le HE4.out.inv)); have HB5 := Lib.hid hO.bs; clear hE hO)) | (go_at_call 24; go_must (refine (refText_calls HE5.out.inv s (by omega)).mono ?_; rintro e w6 ⟨v6, J6, rfl, hE, hO⟩; have HE6 := Lib.hid (HE5.out.trans hE); have HS6 := Lib.hid (HS5.out.mono (hE.le HE5.out.inv)); have HA6 := Lib.hid (HB5.out.mono (hE.le HE5.out.inv)); have HB6 := Lib.hid hO.bs; clear hE hO)) | (go_at_call 13; go_must (refine (putList_calls HE6.out.inv HS6.out (by omega)).mono ?_; rintro e w7 ⟨v7, J7, rfl, hE, hO⟩; have HE7 := Lib.hid (HE6.out.trans hE); have HS7 := Lib.hid (HS6.out.mono (hE.le HE6.out.inv)); have HB7 := Lib.hid hO.bs; clear hE hO)) | (go_at_call 25; go_must (refine (refList_calls HE7.out.inv (hl.mono (HE7.out.le hI)) (by omega)).mono ?_; rintro e w8 ⟨v8, J8, rfl, hE, hO⟩; have HE8 := Lib.hid (HE7.out.trans hE); have HS8 := Lib.hid (HS7.out.mono (hE.le HE7.out.inv)); have HA8 := Lib.hid (HB7.out.mono (hE.le HE7.out.inv)); have HB8 := Lib.hid hO.bs; clear hE hO)) | (go_at_call 21; go_must (refine (sequal_calls HE8.out.inv HS8.out (hl.mono (HE8.out.le hI))).mono ?_; rw [decide_eq_true (rfl : l = l)]; rintro e w10 ⟨rfl, hB⟩; have HE10 := Lib.hid (HE8.out.step hB); clear hB)))
  go_ret
  exact ⟨rfl, HE10.out.below⟩
end Go.Proofs.Ytfofgmjhfbmbaaa
