/- The walks of the document's Quote and Show. -/
import Derived.Test.YthfjeijhnikabaaLexQuw
namespace Go.Proofs.Ythfjeijhnikabaa
open Go.RowKit

theorem Own.lit {J : Jm} {w : World} (_hI : Inv J w) (l : List UInt8) {n : Nat} (hn : l.length = n) (hm : n ≤ maxLen) :
    Own (J.put w.heap.size (bcs l)) (w.alloc (.cells (bcs l).toArray 5)) w.heap.size 5 1 (.slice (some ⟨w.heap.size, 0, none⟩) n n) n (bcs l) := by
  subst hn
  refine ⟨⟨by simp, .inr ⟨w.heap.size, l.length, (bcs l).toArray, rfl, Nat.le_refl _, heap_alloc_new _ _, Nat.le_refl _, hm, by simp, ?_⟩⟩, fun b h => ?_⟩
  · simp [List.take_of_length_le]
  · simp [Value.ownBlock] at h; subst h; exact Jm.put_same _ _ _
theorem own_snoc {J : Jm} {w : World} {base : Nat} {T : TypeId} {v : Value} {pre : List UInt8} {x : UInt8} (h : Own J w base T 1 v (pre.length + 1) (bcs pre ++ bcs [x])) : Bs J v (pre ++ [x]) := by
  rw [← bcs_append] at h
  exact Own.bs (l := pre ++ [x]) (by simpa using h)
set_option maxRecDepth 100000 in
set_option maxHeartbeats 4000000 in
theorem refQuoteC {J : Jm} {w : World} (hI : Inv J w) (s : List UInt8) (hs : s.length ≤ 1048576) :
    Calls Try.prog 22 #[.string (strB s)] w fun e w' => e = .returned (.string (strB (quoteL s))) ∧ Below w.heap.size w w' := by
  have HSZ := strB_size s
  have HE0 := Lib.hid ((Ext.refl hI).lit 5 [34])
  have HO0 := Lib.hid (Own.lit hI [34] (n := 1) rfl (by decide))
  go_enter Try.func22, Try.ntmps22
  go_wp2_with fail
  go_loopw [3, 4] (fun v i wr => ∃ (k : Nat) (v' : Value) (J' : Jm), k ≤ s.length ∧ i = .int .i64 k ∧ v = v' ∧ Hid (Ext J w J' wr) ∧ Hid (Own J' wr w.heap.size 5 1 v' (34 :: (s.take k).flatMap qb).length (bcs (34 :: (s.take k).flatMap qb)))) (fun _ i _ => s.length - (intOf i).toNat)
  case atStart => exact ⟨0, _, _, Nat.zero_le _, rfl, rfl, HE0, by rw [List.take_zero]; exact HO0⟩
  case round =>
    obtain ⟨k, v', J', hk, rfl, rfl, HE, HO⟩ := hrel
    have i0 : (0 : Int) ≤ (k : Int) := by omega
    have hfl := flat_len s k
    by_cases hlt : k < s.length
    · have i1 : (k : Int) < s.length := by omega
      obtain ⟨x, hx⟩ : ∃ x, s[k]? = some x := ⟨_, List.getElem?_eq_getElem (by omega)⟩
      have hx' := strB_at0 hx
      have HX := Lib.hid hx
      clear hx
      obtain ⟨pre, hpre⟩ : ∃ pre, pre = 34 :: (s.take k).flatMap qb := ⟨_, rfl⟩
      rw [← hpre] at hfl HO
      by_cases h34 : x = 34
      · subst h34
        have HQ : qb 34 = [92, 34] := rfl
        go_wp2_with (at_builtin; go_must (refine wpList_append_lit (J := J') (s := .tmp 24) (x := .tmp 28) (t := 38) (e := 5) (base := w.heap.size) (v := u3) (n := pre.length) (xs := bcs pre) (m := 2) (news := bcs [92, 34]) rfl (.int .u8 0) 1 1 rfl Try.underlying38 info_u8 rfl rfl (HE.out.inv.alloc _) (HO.out.alloc _) rfl (heap_alloc_new _ _) rfl (bcs_one _) (by simp only [maxLen]; omega) (by omega) (by have := HE.out.below.size; simp; omega) ?_; intro v5 w5 J5 ho5 hg5 hv5; have HE5 := Lib.hid ((HE.out.alloc _).grew (HO.out.alloc _) hg5); have HO5 := Lib.hid ho5; have HV5 := Lib.hid hv5; clear ho5 hg5 hv5))
        go_wp2_with fail
        go_roundw
        case rel => exact ⟨k + 1, _, J5, by omega, by go_num, rfl, HE5, by rw [flat_take HX.out, HQ, bcs_append, List.length_append, ← hpre]; exact HO5⟩
        case measure => simp [intOf] <;> omega
      by_cases h92 : x = 92
      · subst h92
        have HQ : qb 92 = [92, 92] := rfl
        go_wp2_with (at_builtin; go_must (refine wpList_append_lit (J := J') (s := .tmp 24) (x := .tmp 28) (t := 38) (e := 5) (base := w.heap.size) (v := u3) (n := pre.length) (xs := bcs pre) (m := 2) (news := bcs [92, 92]) rfl (.int .u8 0) 1 1 rfl Try.underlying38 info_u8 rfl rfl (HE.out.inv.alloc _) (HO.out.alloc _) rfl (heap_alloc_new _ _) rfl (bcs_one _) (by simp only [maxLen]; omega) (by omega) (by have := HE.out.below.size; simp; omega) ?_; intro v5 w5 J5 ho5 hg5 hv5; have HE5 := Lib.hid ((HE.out.alloc _).grew (HO.out.alloc _) hg5); have HO5 := Lib.hid ho5; have HV5 := Lib.hid hv5; clear ho5 hg5 hv5))
        go_wp2_with fail
        go_roundw
        case rel => exact ⟨k + 1, _, J5, by omega, by go_num, rfl, HE5, by rw [flat_take HX.out, HQ, bcs_append, List.length_append, ← hpre]; exact HO5⟩
        case measure => simp [intOf] <;> omega
      have j34 : ¬ (x.toNat : Int) = 34 := byte_ne h34
      have j92 : ¬ (x.toNat : Int) = 92 := byte_ne h92
      by_cases h10 : x = 10
      · subst h10
        have HQ : qb 10 = [92, 110] := rfl
        go_wp2_with (at_builtin; go_must (refine wpList_append_lit (J := J') (s := .tmp 32) (x := .tmp 33) (t := 38) (e := 5) (base := w.heap.size) (v := u3) (n := pre.length) (xs := bcs pre) (m := 2) (news := bcs [92, 110]) rfl (.int .u8 0) 1 1 rfl Try.underlying38 info_u8 rfl rfl (HE.out.inv.alloc _) (HO.out.alloc _) rfl (heap_alloc_new _ _) rfl (bcs_one _) (by simp only [maxLen]; omega) (by omega) (by have := HE.out.below.size; simp; omega) ?_; intro v5 w5 J5 ho5 hg5 hv5; have HE5 := Lib.hid ((HE.out.alloc _).grew (HO.out.alloc _) hg5); have HO5 := Lib.hid ho5; have HV5 := Lib.hid hv5; clear ho5 hg5 hv5))
        go_wp2_with fail
        go_roundw
        case rel => exact ⟨k + 1, _, J5, by omega, by go_num, rfl, HE5, by rw [flat_take HX.out, HQ, bcs_append, List.length_append, ← hpre]; exact HO5⟩
        case measure => simp [intOf] <;> omega
      by_cases h9 : x = 9
      · subst h9
        have HQ : qb 9 = [92, 116] := rfl
        go_wp2_with (at_builtin; go_must (refine wpList_append_lit (J := J') (s := .tmp 37) (x := .tmp 38) (t := 38) (e := 5) (base := w.heap.size) (v := u3) (n := pre.length) (xs := bcs pre) (m := 2) (news := bcs [92, 116]) rfl (.int .u8 0) 1 1 rfl Try.underlying38 info_u8 rfl rfl (HE.out.inv.alloc _) (HO.out.alloc _) rfl (heap_alloc_new _ _) rfl (bcs_one _) (by simp only [maxLen]; omega) (by omega) (by have := HE.out.below.size; simp; omega) ?_; intro v5 w5 J5 ho5 hg5 hv5; have HE5 := Lib.hid ((HE.out.alloc _).grew (HO.out.alloc _) hg5); have HO5 := Lib.hid ho5; have HV5 := Lib.hid hv5; clear ho5 hg5 hv5))
        go_wp2_with fail
        go_roundw
        case rel => exact ⟨k + 1, _, J5, by omega, by go_num, rfl, HE5, by rw [flat_take HX.out, HQ, bcs_append, List.length_append, ← hpre]; exact HO5⟩
        case measure => simp [intOf] <;> omega
      have j10 : ¬ (x.toNat : Int) = 10 := byte_ne h10
      have j9 : ¬ (x.toNat : Int) = 9 := byte_ne h9
      have HQ : qb x = [x] := by unfold qb; rw [if_neg h10, if_neg h9, if_neg (fun e => e.elim h34 h92)]
      go_wp2_with (at_builtin; go_must (refine wpList_append_lit (J := J') (s := .tmp 15) (x := .tmp 19) (t := 38) (e := 5) (base := w.heap.size) (v := u3) (n := pre.length) (xs := bcs pre) (m := 1) (news := bcs [x]) rfl (.int .u8 0) 1 1 rfl Try.underlying38 info_u8 rfl rfl (HE.out.inv.alloc _) (HO.out.alloc _) rfl (heap_alloc_new _ _) rfl (bcs_one _) (by simp only [maxLen]; omega) (by omega) (by have := HE.out.below.size; simp; omega) ?_; intro v5 w5 J5 ho5 hg5 hv5; have HE5 := Lib.hid ((HE.out.alloc _).grew (HO.out.alloc _) hg5); have HO5 := Lib.hid ho5; have HV5 := Lib.hid hv5; clear ho5 hg5 hv5))
      go_wp2_with fail
      go_roundw
      case rel => exact ⟨k + 1, _, J5, by omega, by go_num, rfl, HE5, by rw [flat_take HX.out, HQ, bcs_append, List.length_append, ← hpre]; exact HO5⟩
      case measure => simp [intOf] <;> omega
    · obtain rfl : k = s.length := by omega
      have hbs := HO.out
      rw [List.take_of_length_le (Nat.le_refl _)] at hbs hfl
      have HO := Lib.hid hbs
      clear hbs
      obtain ⟨pre, hpre⟩ : ∃ pre, pre = 34 :: s.flatMap qb := ⟨_, rfl⟩
      rw [← hpre] at hfl HO
      go_wp2_with (at_builtin; go_must (refine wpList_append_lit (J := J') (s := .tmp 40) (x := .tmp 41) (t := 38) (e := 5) (base := w.heap.size) (v := u3) (n := pre.length) (xs := bcs pre) (m := 1) (news := bcs [34]) rfl (.int .u8 0) 1 1 rfl Try.underlying38 info_u8 rfl rfl (HE.out.inv.alloc _) (HO.out.alloc _) rfl (heap_alloc_new _ _) rfl (bcs_one _) (by simp only [maxLen]; omega) (by omega) (by have := HE.out.below.size; simp; omega) ?_; intro v5 w5 J5 ho5 hg5 hv5; have HE5 := Lib.hid ((HE.out.alloc _).grew (HO.out.alloc _) hg5); have HO5 := Lib.hid ho5; have HV5 := Lib.hid hv5; clear ho5 hg5 hv5; have kc := (own_snoc HO5.out).string (P := Try.prog) HE5.out.inv 38 9 5 Try.underlying38 Try.underlying5 Try.underlying9))
      go_ret
      exact ⟨rfl, HE5.out.below⟩
set_option maxRecDepth 100000 in
set_option maxHeartbeats 4000000 in
theorem refShowC {J : Jm} {w : World} (hI : Inv J w) (s : List UInt8) (hs : s.length ≤ 1048576) :
    Calls Try.prog 23 #[.string (strB s)] w fun e w' => e = .returned (.string (strB (showL s))) ∧ Below w.heap.size w w' := by
  go_enter Try.func23, Try.ntmps23
  cases hp : plainB s with
  | true =>
    have HP : Hid (showL s = s) := by rw [Hid, showL, hp]; rfl
    go_wp2_with fail
    refine (refPlainC s w hs).mono ?_
    rw [hp]
    rintro e w1 ⟨rfl, rfl⟩
    go_wp2_with fail
    go_ret
    rw [HP.out]
    exact ⟨rfl, Below.refl _ _⟩
  | false =>
    have HP : Hid (showL s = quoteL s) := by rw [Hid, showL, hp]; rfl
    go_wp2_with fail
    refine (refPlainC s w hs).mono ?_
    rw [hp]
    rintro e w1 ⟨rfl, rfl⟩
    go_wp2_with fail
    refine (refQuoteC (J:=J) (by assumption) s hs).mono ?_
    rintro e w2 ⟨rfl, hB⟩
    go_wp2_with fail
    go_ret
    rw [HP.out]
    exact ⟨rfl, hB⟩
end Go.Proofs.Ythfjeijhnikabaa
