/- The walk of the document's Bytes. -/
import Derived.Test.YthfjeijhnikabaaLexRefP
import Derived.Test.YthfjeijhnikabaaLexTop
namespace Go.Proofs.Ythfjeijhnikabaa
open Go.RowKit

def tc1 (t : Tok) : List Value := [.int .u8 (t.c.toNat : Int), .bool (t.n == 2), .int .i64 (t.pos : Int)]
def tcs : List Tok → List Value
  | [] => []
  | t :: r => tc1 t ++ tcs r
theorem tcs_append (l k : List Tok) : tcs (l ++ k) = tcs l ++ tcs k := by
  induction l with
  | nil => rfl
  | cons a r ih => simp only [List.cons_append, tcs, ih, List.append_assoc]
theorem tcs_length (l : List Tok) : (tcs l).length = l.length * 3 := by
  induction l with
  | nil => rfl
  | cons a r ih => simp only [tcs, tc1, List.length_append, List.length_cons, List.length_nil, ih]; omega
theorem infoTk : (Try.prog.info? 59).map (fun i => (i.zero, i.size, i.bytes)) = some (some (.agg #[.int .u8 0, .bool false, .int .i64 0]), 3, 16) := by kernel_rfl
theorem tc1_one (t : Tok) : ∀ u ∈ tc1 t, u.oneCell' = true := by
  intro u hu
  simp only [tc1, List.mem_cons, List.not_mem_nil, or_false] at hu
  rcases hu with rfl | rfl | rfl <;> rfl
theorem pk_plain {s : List UInt8} {k : Nat} {x : UInt8} (hd : s.drop k = x :: s.drop (k + 1)) (h : ¬ (x = 92 ∧ s[k + 1]? = some 10)) : pk (s.drop k) = (x, 1) := by
  rw [hd]
  cases hr : s.drop (k + 1) with
  | nil => rfl
  | cons d r =>
    unfold pk
    have : s[k + 1]? = some d := by rw [← List.head?_drop, hr]; rfl
    exact if_neg (fun e => h ⟨e.1, by rw [this, e.2]⟩)
theorem pk_join {s : List UInt8} {k : Nat} (hd : s.drop k = 92 :: s.drop (k + 1)) (h : s[k + 1]? = some 10) : pk (s.drop k) = (32, 2) := by
  rw [hd]
  cases hr : s.drop (k + 1) with
  | nil => rw [← List.head?_drop, hr] at h; cases h
  | cons d r =>
    have : s[k + 1]? = some d := by rw [← List.head?_drop, hr]; rfl
    rw [this] at h
    unfold pk
    exact if_pos ⟨rfl, Option.some.inj h⟩
set_option maxRecDepth 100000 in
set_option maxHeartbeats 4000000 in
theorem bytes_calls {J : Jm} {w : World} (hI : Inv J w) (s : List UInt8) (hs : s.length ≤ 1048576) :
    Calls Try.prog 33 #[.string (strB s)] w fun e w' => ∃ v J', e = .returned v ∧ Ext J w J' w' ∧ Own J' w' w.heap.size 59 3 v (toks s 0).length (tcs (toks s 0)) := by
  have HSZ := strB_size s
  go_enter Try.func33, Try.ntmps33
  go_wp2_with fail
  go_loopw [3, 4] (fun v i wr => ∃ (k : Nat) (pre : List Tok) (J' : Jm), k ≤ s.length ∧ i = .int .i64 k ∧ pre.length ≤ k ∧ Hid (pre ++ toks (s.drop k) k = toks s 0) ∧ Hid (Ext J w J' wr) ∧ Hid (Own J' wr w.heap.size 59 3 v pre.length (tcs pre))) (fun _ i _ => s.length - (intOf i).toNat)
  case atStart => exact ⟨0, [], J, Nat.zero_le _, rfl, Nat.le_refl _, by rw [List.drop_zero]; rfl, Ext.refl hI, Own.nil _ _ _ _ _⟩
  case round =>
    obtain ⟨k, pre, J', hk, rfl, hpl, HP, HE, HO⟩ := hrel
    obtain ⟨va, vc, hv, -, -⟩ := HO.out.sl.form
    subst hv
    have i0 : (0 : Int) ≤ (k : Int) := by omega
    by_cases hlt : k < s.length
    · have i1 : (k : Int) < s.length := by omega
      obtain ⟨x, hx⟩ : ∃ x, s[k]? = some x := ⟨_, List.getElem?_eq_getElem (by omega)⟩
      have hx' := strB_at hx
      have hd : s.drop k = x :: s.drop (k + 1) := by rw [List.drop_eq_getElem_cons hlt]; congr 1; exact (List.getElem?_eq_some_iff.1 hx).2
      clear hx
      by_cases h92 : x = 92
      · subst h92
        by_cases hl2 : k + 1 < s.length
        · have i2 : (k : Int) + 1 < s.length := by omega
          have i3 : (0 : Int) ≤ (k : Int) + 1 := by omega
          obtain ⟨y, hy⟩ : ∃ y, s[k + 1]? = some y := ⟨_, List.getElem?_eq_getElem (by omega)⟩
          have hy' := strB_at hy
          by_cases h10 : y = 10
          · subst h10
            have hT := toks_at hlt (pk_join hd hy)
            clear hd hy
            go_wp2_with (at_builtin; go_must (refine wpList_append_lit (J := J') (s := .tmp 29) (x := .tmp 32) (t := 56) (e := 59) (base := w.heap.size) (v := .slice va pre.length vc) (n := pre.length) (xs := tcs pre) (m := 1) (news := tc1 (⟨32,2,k⟩:Tok)) rfl (.agg #[.int .u8 0, .bool false, .int .i64 0]) 3 16 rfl Try.underlying56 infoTk rfl rfl (HE.out.inv.alloc _) (HO.out.alloc _) rfl (heap_alloc_new _ _) rfl (tc1_one (⟨32,2,k⟩:Tok)) (by simp only [maxLen]; omega) (by omega) (by have := HE.out.below.size; simp; omega) ?_; intro v5 w5 J5 ho hg hv; have HE5 := Lib.hid ((HE.out.alloc _).grew (HO.out.alloc _) hg); have HO5 := Lib.hid ho; clear ho hg hv))
            go_roundw
            case rel => exact ⟨(k + 2), pre ++ [(⟨32,2,k⟩:Tok)], J5, by omega, by go_num, by simp only [List.length_append, List.length_cons, List.length_nil]; omega, by rw [Hid, List.append_assoc, List.singleton_append, ← hT]; exact HP.out, HE5, by rw [tcs_append, List.length_append]; simpa [tcs] using HO5⟩
            case measure => simp [intOf] <;> omega
          · have j10 : ¬ (y.toNat : Int) = 10 := byte_ne h10
            have hT := toks_at hlt (pk_plain hd (fun e => h10 (by have := e.2; rw [hy] at this; exact Option.some.inj this)))
            clear hd hy
            go_wp2_with (at_builtin; go_must (refine wpList_append_lit (J := J') (s := .tmp 36) (x := .tmp 42) (t := 56) (e := 59) (base := w.heap.size) (v := .slice va pre.length vc) (n := pre.length) (xs := tcs pre) (m := 1) (news := tc1 (⟨92,1,k⟩:Tok)) rfl (.agg #[.int .u8 0, .bool false, .int .i64 0]) 3 16 rfl Try.underlying56 infoTk rfl rfl (HE.out.inv.alloc _) (HO.out.alloc _) rfl (heap_alloc_new _ _) rfl (tc1_one (⟨92,1,k⟩:Tok)) (by simp only [maxLen]; omega) (by omega) (by have := HE.out.below.size; simp; omega) ?_; intro v5 w5 J5 ho hg hv; have HE5 := Lib.hid ((HE.out.alloc _).grew (HO.out.alloc _) hg); have HO5 := Lib.hid ho; clear ho hg hv))
            go_roundw
            case rel => exact ⟨(k + 1), pre ++ [(⟨92,1,k⟩:Tok)], J5, by omega, by go_num, by simp only [List.length_append, List.length_cons, List.length_nil]; omega, by rw [Hid, List.append_assoc, List.singleton_append, ← hT]; exact HP.out, HE5, by rw [tcs_append, List.length_append]; simpa [tcs] using HO5⟩
            case measure => simp [intOf] <;> omega
        · have i2 : ¬ (k : Int) + 1 < s.length := by omega
          have hT := toks_at hlt (pk_plain hd (fun e => by have := (List.getElem?_eq_some_iff.1 e.2).1; omega))
          clear hd
          go_wp2_with (at_builtin; go_must (refine wpList_append_lit (J := J') (s := .tmp 36) (x := .tmp 42) (t := 56) (e := 59) (base := w.heap.size) (v := .slice va pre.length vc) (n := pre.length) (xs := tcs pre) (m := 1) (news := tc1 (⟨92,1,k⟩:Tok)) rfl (.agg #[.int .u8 0, .bool false, .int .i64 0]) 3 16 rfl Try.underlying56 infoTk rfl rfl (HE.out.inv.alloc _) (HO.out.alloc _) rfl (heap_alloc_new _ _) rfl (tc1_one (⟨92,1,k⟩:Tok)) (by simp only [maxLen]; omega) (by omega) (by have := HE.out.below.size; simp; omega) ?_; intro v5 w5 J5 ho hg hv; have HE5 := Lib.hid ((HE.out.alloc _).grew (HO.out.alloc _) hg); have HO5 := Lib.hid ho; clear ho hg hv))
          go_roundw
          case rel => exact ⟨(k + 1), pre ++ [(⟨92,1,k⟩:Tok)], J5, by omega, by go_num, by simp only [List.length_append, List.length_cons, List.length_nil]; omega, by rw [Hid, List.append_assoc, List.singleton_append, ← hT]; exact HP.out, HE5, by rw [tcs_append, List.length_append]; simpa [tcs] using HO5⟩
          case measure => simp [intOf] <;> omega
      · have j92 : ¬ (x.toNat : Int) = 92 := byte_ne h92
        have hT := toks_at hlt (pk_plain hd (fun e => h92 e.1))
        clear hd
        go_wp2_with (at_builtin; go_must (refine wpList_append_lit (J := J') (s := .tmp 36) (x := .tmp 42) (t := 56) (e := 59) (base := w.heap.size) (v := .slice va pre.length vc) (n := pre.length) (xs := tcs pre) (m := 1) (news := tc1 (⟨x,1,k⟩:Tok)) rfl (.agg #[.int .u8 0, .bool false, .int .i64 0]) 3 16 rfl Try.underlying56 infoTk rfl rfl (HE.out.inv.alloc _) (HO.out.alloc _) rfl (heap_alloc_new _ _) rfl (tc1_one (⟨x,1,k⟩:Tok)) (by simp only [maxLen]; omega) (by omega) (by have := HE.out.below.size; simp; omega) ?_; intro v5 w5 J5 ho hg hv; have HE5 := Lib.hid ((HE.out.alloc _).grew (HO.out.alloc _) hg); have HO5 := Lib.hid ho; clear ho hg hv))
        go_roundw
        case rel => exact ⟨(k + 1), pre ++ [(⟨x,1,k⟩:Tok)], J5, by omega, by go_num, by simp only [List.length_append, List.length_cons, List.length_nil]; omega, by rw [Hid, List.append_assoc, List.singleton_append, ← hT]; exact HP.out, HE5, by rw [tcs_append, List.length_append]; simpa [tcs] using HO5⟩
        case measure => simp [intOf] <;> omega
    · obtain rfl : k = s.length := by omega
      have hp := HP.out
      rw [List.drop_of_length_le (Nat.le_refl _), toks_nil, List.append_nil] at hp
      have HP2 := Lib.hid hp
      clear hp
      go_wp2
      go_ret
      refine ⟨.slice va pre.length vc, J', rfl, HE.out, ?_⟩
      rw [← HP2.out]
      exact HO.out
end Go.Proofs.Ythfjeijhnikabaa
