/- The walks of package sum: each function computes what SumPure says. -/
import Derived.Test.YtmagkejehbaodaaJLib
import Derived.Test.YtmagkejehbaodaaSumPure
import Derived.Laws.BitsAllLaws
import Derived.WalkSpells
namespace Go.Proofs.Ytmagkejehbaodaa
open Go.RowKit

def tab (k : Nat) : Array Value := ((List.range 16).map fun j => Value.int .u32 (if j < k then (stpN 4 j : Nat) else 0)).toArray
theorem tab_size (k : Nat) : (tab k).size = 16 := by simp [tab]
theorem tab_get (k j : Nat) (hj : j < 16) : (tab k)[j]? = some (Value.int .u32 (if j < k then (stpN 4 j : Nat) else 0)) := by
  simp [tab, hj]
theorem tab_set (k : Nat) : (tab k).setIfInBounds k (Value.int .u32 (stpN 4 k : Nat)) = tab (k + 1) := by
  apply Array.ext_getElem?
  intro i
  rw [Array.getElem?_setIfInBounds]
  by_cases hi : i < 16
  · rw [tab_get _ _ hi, tab_get _ _ hi]
    by_cases h : k = i
    · subst h; simp [tab_size, hi]
    · have : (i < k + 1) = (i < k) := by apply propext; omega
      simp [h, this]
  · have h0 : (tab k)[i]? = none := Array.getElem?_eq_none (by rw [tab_size]; omega)
    have h1 : (tab (k + 1))[i]? = none := Array.getElem?_eq_none (by rw [tab_size]; omega)
    rw [h0, h1]
    split
    · rename_i h; subst h; simp [tab_size, hi]
    · rfl
theorem u32_low (x : Nat) (hx : x < 4294967296) : (bits .and .u32 (x : Int) 1 == 1) = decide (x % 2 = 1) := by
  have := u32_and_nat x 1 hx (by decide)
  rw [show ((1 : Nat) : Int) = 1 from rfl] at this
  rw [this, nat_mask1]
  rw [Bool.eq_iff_iff]; simp; omega
set_option maxHeartbeats 1000000 in
theorem nibbles_calls (w : World) : Calls Try.prog 20 #[] w fun e w' => e = .returned (.agg (tab 16)) ∧ Below w.heap.size w w' := by
  go_enter Try.func20, Try.ntmps20
  go_wp2
  go_loopw [5] (fun i wr => ∃ k : Nat, k ≤ 16 ∧ i = .int .i64 k ∧ ∃ o, wr = ((w.alloc (.cells (tab 0) o)).alloc (.cells (tab k) 36))) (fun i _ => 16 - (intOf i).toNat)
  case atStart => exact ⟨0, by omega, rfl, _, rfl⟩
  case round =>
    obtain ⟨k, hk, rfl, o, rfl⟩ := hrel
    by_cases hlt : k < 16
    · have hc := tab_get k k hlt
      go_wp2
      go_loop [3, 10] (fun r j => ∃ n : Nat, n ≤ 4 ∧ j = .int .i64 n ∧ r = .int .u32 (stpN n k : Nat)) (fun _ j => 4 - (intOf j).toNat)
      case atStart => exact ⟨0, by omega, rfl, rfl⟩
      case round =>
        obtain ⟨n, hn, rfl, rfl⟩ := hrel
        have hb : stpN n k < 4294967296 := stpN_lt (by omega)
        by_cases hlt2 : n < 4
        · have hq := u32_low (stpN n k) hb
          by_cases hodd : stpN n k % 2 = 1
          · have hd : (bits .and .u32 (stpN n k : Int) 1 == 1) = true := by rw [hq]; simpa using hodd
            have hx : bits .xor .u32 ((stpN n k : Int) / 2) 3988292384 = (stpN (n + 1) k : Nat) := by
              have := u32_xor_nat (stpN n k / 2) 3988292384 (by omega) (by decide)
              simp only [stpN, stp, if_pos hodd]
              rw [← this]; rfl
            have HX : Hid (bits .xor .u32 ((stpN n k : Int) / 2) 3988292384 = (stpN (n + 1) k : Nat)) := hx
            clear hx hq hodd
            go_wp2
            go_round
            case rel => exact ⟨n + 1, by omega, by go_num, by rw [HX.out]⟩
            case measure => simp [intOf]; omega
          · have hd : (bits .and .u32 (stpN n k : Int) 1 == 1) = false := by rw [hq]; simpa using hodd
            have HX : Hid (((stpN n k : Int) / 2) = (stpN (n + 1) k : Nat)) := by
              simp only [stpN, stp, if_neg hodd, Hid]; omega
            clear hq hodd
            go_wp2
            go_round
            case rel => exact ⟨n + 1, by omega, by go_num, by rw [HX.out]⟩
            case measure => simp [intOf]; omega
        · obtain rfl : n = 4 := by omega
          go_wp2
          go_roundw
          case rel => exact ⟨k + 1, by omega, by go_num, _, by rw [tab_set k]⟩
          case measure => simp [intOf]; omega
    · obtain rfl : k = 16 := by omega
      go_wp2_with (first | (refine wpList_load_row rfl 36 (.tmp 1) rfl (w.heap.size + 1) rfl 36 (tab 16) (0, 0) _ (heap_alloc2_new w _ _) Try.underlying36 rfl (by kernel_rfl) ?_) | (refine wpList_store_row rfl 36 (.tmp 0) (.tmp 25) rfl w.heap.size (tab 16) rfl rfl o (tab 0) (heap_alloc2_old w _ _) (by kernel_rfl) rfl (by kernel_rfl) ?_))
      refine bodyPost_ret (results_cell_row (P := Try.prog) rfl _ _ w.heap.size o (tab 16) (0, 0) _ rfl (setRow_heap _ _ (tab 0) _ _ _ (heap_alloc2_old w _ _)) Try.underlying36 rfl (by kernel_rfl)) rfl ⟨rfl, ?_⟩
      exact below_setRow (((Below.refl _ _).alloc (Nat.le_refl _) _).alloc (by simp) _) (Nat.le_refl _) _

theorem nib_step (r q : Nat) (hr : r < 4294967296) (hq : q = r % 16) : bits .and .u32 (r : Int) 15 = (q : Int) ∧ q < 16 ∧ bits .xor .u32 (stpN 4 q : Nat) ((r : Int) / 16) = (stpN 4 r : Nat) := by
  subst hq
  refine ⟨?_, by omega, ?_⟩
  · have := u32_and_nat r 15 hr (by decide)
    rw [nat_mask4] at this
    exact this
  · have := u32_xor_nat (stpN 4 (r % 16)) (r / 16) (stpN_lt (by omega)) (by omega)
    rw [stpN4] at this
    rw [← this]; rfl
set_option maxHeartbeats 1000000 in
theorem more_calls {J : Jm} {w : World} (hI : Inv J w) (s : Nat) (hs : s < 4294967296) {v : Value} {l : List UInt8} (hb : Bs J v l) :
    Calls Try.prog 12 #[.int .u32 s, v] w fun e w' => e = .returned (.int .u32 (more s l : Nat)) ∧ Below w.heap.size w w' := by
  obtain ⟨A, c, rfl, hn, hm⟩ := hb.form
  unfold maxLen at hm
  go_enter Try.func12, Try.ntmps12
  go_wp2_with (first | (go_at_call 20; refine (nibbles_calls _).mono ?_; rintro e w1 ⟨rfl, hb1⟩) | (refine wpList_store_row rfl 36 (.tmp 5) (.tmp 9) rfl _ (tab 16) rfl rfl 36 _ (heap_alloc_new _ _) (by kernel_rfl) rfl (by kernel_rfl) ?_))
  generalize hWd : World.setRow _ _ _ = W
  have hWg : W.heap[w1.heap.size]? = some (.cells (tab 16) 36 (0, 0)) := by subst hWd; exact setRow_heap _ _ _ _ _ _ (heap_alloc_new _ _)
  have hWB : Below w.heap.size w W := by subst hWd; exact below_setRow (hb1.alloc hb1.size _) hb1.size _
  have hWI : Inv J W := hI.below hWB
  clear hWd
  generalize w1.heap.size = g at *
  have hx0 : bits .xor .u32 (IntKind.max .u32) s = ((s ^^^ 4294967295 : Nat) : Int) := by
    have := u32_xor_nat 4294967295 s (by decide) hs
    rw [Nat.xor_comm] at this
    exact this
  rw [hx0]
  clear hx0
  have hs' : s ^^^ 4294967295 < 4294967296 := Nat.xor_lt_two_pow (n := 32) (by omega) (by decide)
  have HM : Hid (more s l = regs (s ^^^ 4294967295) l ^^^ 4294967295) := rfl
  generalize s ^^^ 4294967295 = S at *
  go_loop [6, 14] (fun r i => ∃ k : Nat, k ≤ l.length ∧ i = .int .i64 k ∧ r = .int .u32 (regs S (l.take k) : Nat)) (fun _ i => l.length - (intOf i).toNat)
  case atStart => exact ⟨0, by omega, rfl, rfl⟩
  case round =>
    obtain ⟨k, hk, rfl, rfl⟩ := hrel
    have hR : regs S (l.take k) < 4294967296 := regs_lt hs' _
    by_cases hlt : k < l.length
    · obtain ⟨b, o, rfl, hc⟩ := hb.cell hWI hlt
      have HN : Hid (regs S (l.take (k + 1)) = stpN 4 (stpN 4 (regs S (l.take k) ^^^ l[k].toNat))) := by
        rw [Hid, List.take_succ_eq_append_getElem hlt, regs_snoc, ← stpN_add]
      generalize regs S (l.take k) = R at *
      have hx := l[k].toNat_lt
      generalize l[k].toNat = x at *
      have f1 := u32_xor_nat R x hR (by omega)
      have h1 : R ^^^ x < 4294967296 := Nat.xor_lt_two_pow (n := 32) (by omega) (by omega)
      generalize R ^^^ x = r1 at *
      obtain ⟨q1, hq1⟩ : ∃ q, q = r1 % 16 := ⟨_, rfl⟩
      obtain ⟨f2, hq1', f3⟩ := nib_step r1 q1 h1 hq1
      have c1 : W.cell? ⟨g, q1, none⟩ = some (.int .u32 (stpN 4 q1 : Nat)) := by rw [cell_of_row W g q1 _ _ _ hWg, tab_get 16 q1 hq1', if_pos hq1']
      have h2 : stpN 4 r1 < 4294967296 := stpN_lt h1
      generalize stpN 4 r1 = r2 at *
      obtain ⟨q2, hq2⟩ : ∃ q, q = r2 % 16 := ⟨_, rfl⟩
      obtain ⟨g2, hq2', g3⟩ := nib_step r2 q2 h2 hq2
      have c2 : W.cell? ⟨g, q2, none⟩ = some (.int .u32 (stpN 4 q2 : Nat)) := by rw [cell_of_row W g q2 _ _ _ hWg, tab_get 16 q2 hq2', if_pos hq2']
      clear hq1 hq2 HM hb
      go_wp2
      go_round
      case rel => exact ⟨k + 1, by omega, by go_num, by rw [HN.out]⟩
      case measure => simp [intOf]; omega
    · obtain rfl : k = l.length := by omega
      have f1 := u32_xor_nat 4294967295 (regs S l) (by decide) (regs_lt hs' _)
      have F1 : Hid (bits .xor .u32 (IntKind.max .u32) (regs S l : Nat) = ((regs S l ^^^ 4294967295 : Nat) : Int)) := by rw [Nat.xor_comm] at f1; exact f1
      rw [List.take_length] at *
      clear f1 hR
      go_wp2
      go_ret
      exact ⟨by rw [HM.out, ← F1.out]; rfl, hWB⟩

theorem of_calls {J : Jm} {w : World} (hI : Inv J w) {v : Value} {l : List UInt8} (hb : Bs J v l) :
    Calls Try.prog 11 #[v] w fun e w' => e = .returned (.int .u32 (more 0 l : Nat)) ∧ Below w.heap.size w w' := by
  go_enter Try.func11, Try.ntmps11
  go_wp2_with (go_at_call 12; refine (more_calls hI 0 (by omega) hb).mono ?_; rintro e w1 ⟨rfl, hb1⟩)
  go_ret
  exact ⟨rfl, hb1⟩

theorem equal_calls {J : Jm} {w : World} (hI : Inv J w) {v u : Value} {l k : List UInt8} (hb : Bs J v l) (hc : Bs J u k) :
    Calls Try.prog 13 #[v, u] w fun e w' => e = .returned (.bool (l == k)) ∧ w = w' := by
  have h1 := hb.string hI 23 9 5 Try.underlying23 Try.underlying5 Try.underlying9
  have h2 := hc.string hI 23 9 5 Try.underlying23 Try.underlying5 Try.underlying9
  go_enter Try.func13, Try.ntmps13
  go_wp2
  go_ret
  refine ⟨?_, rfl⟩
  have : ((strB l).toList == (strB k).toList) = (l == k) := by rw [strB_toList, strB_toList]
  rw [← this]; rfl

theorem info_u8 : (Try.prog.info? 5).map (fun i => (i.zero, i.size, i.bytes)) = some (some (.int .u8 0), 1, 1) := by kernel_rfl

set_option maxHeartbeats 1000000 in
theorem bclone_calls {J : Jm} {w : World} (hI : Inv J w) {v : Value} {l : List UInt8} (hb : Bs J v l) (hl : l.length ≤ 140737488355328) :
    Calls Try.prog 19 #[v] w fun e w' => ∃ v' J', e = .returned v' ∧ Ext J w J' w' ∧ Own J' w' w.heap.size 5 1 v' l.length (bcs l) ∧ (v' = .slice none 0 0 ↔ v = .slice none 0 0) := by
  obtain ⟨A, c, rfl, hn, hm⟩ := hb.form
  have hm' := hm
  unfold maxLen at hm'
  cases A with
  | none =>
    have h0 : c = 0 := by obtain ⟨_, A, c', hv, _, _, h0, _⟩ := hb; cases hv; exact h0 rfl
    subst h0
    have hl0 : l = [] := List.eq_nil_of_length_eq_zero (by omega)
    subst hl0
    have hq := fun (W : World) => Lib.run_eql_slice_nil (P := Try.prog) W 23 5 none 0 0 0 0 Try.underlying23
    go_enter Try.func19, Try.ntmps19
    go_wp2
    go_ret
    exact ⟨_, J, rfl, Ext.refl hI, Own.nil _ _ _ _ _, by simp⟩
  | some a =>
    have hq := fun (W : World) => Lib.run_eql_slice_nil (P := Try.prog) W 23 5 (some a) l.length c 0 0 Try.underlying23
    go_enter Try.func19, Try.ntmps19
    go_wp2_with (first | (at_builtin; go_must (refine wpList_append_J (J := J) (s := .tmp 5) (x := .tmp 6) (t := 23) (e := 5) (base := w.heap.size) (v := .slice (some ⟨w.heap.size, 0, none⟩) 0 0) (n := 0) (xs := []) rfl (.int .u8 0) 1 1 rfl Try.underlying23 info_u8 rfl rfl (hI.alloc _) (Own.made hI _ _ 1 #[] 0 (Nat.le_refl _) (by decide) rfl) rfl hb (bcs_one l) (by simp only [maxLen]; omega) (by omega) (by simp) ?_; intro v' w' J' ho hg hv')))
    go_ret
    have hE : Ext J w J' w' := ((Ext.refl hI).alloc _).grew (Own.made hI _ _ 1 #[] 0 (Nat.le_refl _) (by decide) rfl) hg
    refine ⟨v', J', rfl, hE, ?_, ?_⟩
    · simpa using ho
    · rw [hv']; simp

set_option maxHeartbeats 1000000 in
theorem sclone_calls {J : Jm} {w : World} (hI : Inv J w) {v : Value} {l : List UInt8} (hb : Bs J v l) (hl : l.length ≤ 140737488355328) :
    Calls Try.prog 15 #[v] w fun e w' => ∃ v' J', e = .returned v' ∧ Ext J w J' w' ∧ Own J' w' w.heap.size 5 1 v' l.length (bcs l) ∧ (v' = .slice none 0 0 ↔ v = .slice none 0 0) := by
  obtain ⟨A, c, rfl, hn, hm⟩ := hb.form
  have hm' := hm
  unfold maxLen at hm'
  cases A with
  | none =>
    have h0 : c = 0 := by obtain ⟨_, A, c', hv, _, _, h0, _⟩ := hb; cases hv; exact h0 rfl
    subst h0
    have hl0 : l = [] := List.eq_nil_of_length_eq_zero (by omega)
    subst hl0
    have hq := fun (W : World) => Lib.run_eql_slice_nil (P := Try.prog) W 23 5 none 0 0 0 0 Try.underlying23
    go_enter Try.func15, Try.ntmps15
    go_wp2
    go_ret
    exact ⟨_, J, rfl, Ext.refl hI, Own.nil _ _ _ _ _, by simp⟩
  | some a =>
    have hq := fun (W : World) => Lib.run_eql_slice_nil (P := Try.prog) W 23 5 (some a) l.length c 0 0 Try.underlying23
    go_enter Try.func15, Try.ntmps15
    go_wp2_with (first | (at_builtin; go_must (refine wpList_append_J (J := J) (s := .tmp 5) (x := .tmp 6) (t := 23) (e := 5) (base := w.heap.size) (v := .slice (some ⟨w.heap.size, 0, none⟩) 0 0) (n := 0) (xs := []) rfl (.int .u8 0) 1 1 rfl Try.underlying23 info_u8 rfl rfl (hI.alloc _) (Own.made hI _ _ 1 #[] 0 (Nat.le_refl _) (by decide) rfl) rfl hb (bcs_one l) (by simp only [maxLen]; omega) (by omega) (by simp) ?_; intro v' w' J' ho hg hv')))
    go_ret
    have hE : Ext J w J' w' := ((Ext.refl hI).alloc _).grew (Own.made hI _ _ 1 #[] 0 (Nat.le_refl _) (by decide) rfl) hg
    refine ⟨v', J', rfl, hE, ?_, ?_⟩
    · simpa using ho
    · rw [hv']; simp

theorem seal_step (l : List UInt8) (n k : Nat) (hk : k < 4) : (bcs (l ++ (four n).take k ++ List.replicate (4 - k) 0)).set (l.length + k) (.int .u8 ((n : Int) / 2 ^ (8 * k) % 256)) =
    bcs (l ++ (four n).take (k + 1) ++ List.replicate (4 - (k + 1)) 0) := by
  have key : ∀ m : Nat, (Value.int .u8 ((m : Int) % 256)) = bv (UInt8.ofNat m) := by intro m; simp [bv]
  have hv : Value.int .u8 ((n : Int) / 2 ^ (8 * k) % 256) = bv (UInt8.ofNat (n / 2 ^ (8 * k))) := by
    rw [← key]; simp
  rw [hv, bcs_set]
  congr 1
  have : k = 0 ∨ k = 1 ∨ k = 2 ∨ k = 3 := by omega
  rcases this with rfl | rfl | rfl | rfl <;> simp [four, List.replicate_succ]
theorem seal_get (l : List UInt8) (n k : Nat) (hk : k < 4) : (bcs (l ++ (four n).take k ++ List.replicate (4 - k) 0))[l.length + k]? = some (bv 0) := by
  rw [bcs_get]
  have : k = 0 ∨ k = 1 ∨ k = 2 ∨ k = 3 := by omega
  rcases this with rfl | rfl | rfl | rfl <;> simp [four, List.replicate_succ]
set_option maxHeartbeats 1000000 in
theorem seal_calls {J : Jm} {w : World} (hI : Inv J w) {v : Value} {l : List UInt8} (hb : Bs J v l) (hl : l.length ≤ 140737488355000) :
    Calls Try.prog 14 #[v] w fun e w' => ∃ g J', e = .returned (.slice (some ⟨g, 0, none⟩) (l.length + 4) (l.length + 4)) ∧ Ext J w J' w' ∧ w.heap.size ≤ g ∧
      w'.heap[g]? = some (.cells (bcs (sealed l)).toArray 5 (0, 0)) ∧ J' g = [] := by
  obtain ⟨A, c, rfl, hn, hm⟩ := hb.form
  have hm' := hm
  unfold maxLen at hm'
  have hmk := run_make_J (P := Try.prog) (t := 23) Try.underlying23 info_u8 ((l.length : Int) + 4) (l.length + 4) (by omega) (by omega) (by omega)
  rw [Nat.mul_one] at hmk
  simp only [madeCells_u8] at hmk
  go_enter Try.func14, Try.ntmps14
  go_wp2_with (first | (go_at_call 11; go_must (refine (of_calls hI hb).mono ?_; rintro e w1 ⟨rfl, hb1⟩)) | (refine wpList_copy_J (J := J) (d := .tmp 13) (s := .tmp 14) rfl rfl Try.underlying23 (by kernel_rfl) (g := w1.heap.size) (off := 0) rfl (heap_alloc_new _ _) (by simp) rfl ((hI.below hb1).alloc _) hb (bcs_one l) ?_))
  generalize hWd : World.setRow _ _ _ = W
  have hWg : W.heap[w1.heap.size]? = some (.cells (bcs (l ++ [0, 0, 0, 0])).toArray 5 (0, 0)) := by
    subst hWd
    rw [setRow_heap _ _ _ _ _ _ (heap_alloc_new _ _)]
    congr 2
    simp [bcs, List.take_of_length_le]
  have hWB : Ext J w J W := by
    subst hWd
    exact Ext.of_below hI (below_setRow (hb1.alloc hb1.size _) hb1.size _)
  have hge := hb1.size
  have hJg : J w1.heap.size = [] := hI.nil hb1.size
  clear hWd hb1
  generalize w1.heap.size = g at *
  go_loopw [16] (fun i wr => ∃ k : Nat, k ≤ 4 ∧ i = .int .i64 k ∧ Ext J w J wr ∧ wr.heap[g]? = some (.cells (bcs (l ++ (four (more 0 l)).take k ++ List.replicate (4 - k) 0)).toArray 5 (0, 0))) (fun i _ => 4 - (intOf i).toNat)
  case atStart => exact ⟨0, by omega, rfl, hWB, by rw [hWg]; simp⟩
  case round =>
    obtain ⟨k, hk, rfl, hE, hg⟩ := hrel
    by_cases hlt : k < 4
    · have hc := blk_cell_J hg (l.length + k) (v := bv 0) (seal_get l _ k hlt)
      have hf := frozen_of_row wr g (l.length + k) _ _ hg
      have HG := Lib.hid hg
      have HE := Lib.hid hE
      clear hg hE
      go_wp2
      all_goals (go_roundw; (case rel => exact ⟨k + 1, by omega, by go_num, HE.out.setCell hge hJg _, by rw [blk_set_J HG.out, seal_step l _ k hlt]⟩); (case measure => simp [intOf]; omega))
    · obtain rfl : k = 4 := by omega
      go_wp2
      go_ret
      exact ⟨g, J, rfl, hE, hge, by rw [hg]; simp [sealed, four], hJg⟩

theorem sealed_length (l : List UInt8) : (sealed l).length = l.length + 4 := by simp [sealed, four]
/-- what Open answers -/
def opens (l : List UInt8) : Bool := decide (4 ≤ l.length) && (l == sealed (l.take (l.length - 4)))
set_option maxHeartbeats 1000000 in
theorem open_no {J : Jm} {w : World} (hI : Inv J w) {v : Value} {l : List UInt8} (hb : Bs J v l) (hl : l.length ≤ 140737488355000) (ho : opens l = false) :
    Calls Try.prog 10 #[v] w fun e w' => e = .returned (.tuple #[.slice none 0 0, .bool false]) ∧ Below w.heap.size w w' := by
  obtain ⟨A, c, rfl, hn, hm⟩ := hb.form
  have hm' := hm
  unfold maxLen at hm'
  by_cases h4 : l.length < 4
  · go_enter Try.func10, Try.ntmps10
    go_wp2
    go_ret2
    exact ⟨rfl, Below.refl _ _⟩
  · obtain ⟨n, hn4⟩ : ∃ n, l.length = n + 4 := ⟨l.length - 4, by omega⟩
    have HN := Lib.hid hn4
    have hq : (l == sealed (l.take n)) = false := by
      unfold opens at ho
      rw [hn4] at ho
      simpa using ho
    have hb' := hb.take n (by omega)
    have hnb : n ≤ 140737488355000 := by omega
    have hl' : (l.take n).length = n := by simp; omega
    have HL := Lib.hid hl'
    have hbn : Bs J (.slice A (n + 4) c) l := by rw [← hn4]; exact hb
    have hnc : n + 4 ≤ c := by omega
    rw [hn4]
    clear ho hn4 hl' hb hn hl
    go_enter Try.func10, Try.ntmps10
    have hseal : (sealed (l.take n)).length = n + 4 := by rw [sealed_length, HL.out]
    have HSL := Lib.hid hseal
    clear hseal
    go_wp2_with (first | (go_at_call 14; go_must (refine (seal_calls hI hb' (by rw [HL.out]; omega)).mono ?_; rw [HL.out]; rintro e w1 ⟨g, J1, rfl, hE, hge, hg, hJg⟩; have hE2 := hE.put hge hg (cs := bcs (sealed (l.take n))) (by simp); have hb2 := hbn.mono (hE2.le hI); have hs2 := Bs.of_block J1 (g := g) (n := n + 4) HSL.out (by simp only [maxLen]; omega); have HB := Lib.hid hE.below; clear hE hge hg hJg)) | (go_at_call 13; go_must (refine (equal_calls hE2.inv hb2 hs2).mono ?_; rw [hq]; rintro e w2 ⟨rfl, rfl⟩)))
    go_ret2
    exact ⟨rfl, HB.out⟩

set_option maxHeartbeats 1000000 in
theorem open_yes {J : Jm} {w : World} (hI : Inv J w) {v : Value} {l : List UInt8} (hb : Bs J v l) (hl : l.length ≤ 140737488355000) (ho : opens l = true) :
    Calls Try.prog 10 #[v] w fun e w' => ∃ v' J', e = .returned (.tuple #[v', .bool true]) ∧ Ext J w J' w' ∧ Own J' w' w.heap.size 5 1 v' (l.length - 4) (bcs (l.take (l.length - 4))) ∧ (v' = .slice none 0 0 ↔ l.length = 4) := by
  obtain ⟨A, c, rfl, hn, hm⟩ := hb.form
  have hm' := hm
  unfold maxLen at hm'
  simp only [opens, Bool.and_eq_true, decide_eq_true_eq] at ho
  obtain ⟨n, hn4⟩ : ∃ n, l.length = n + 4 := ⟨l.length - 4, by omega⟩
  have HN := Lib.hid hn4
  have hq : (l == sealed (l.take n)) = true := by
    have := ho.2
    rw [hn4] at this
    simpa using this
  have hb' := hb.take n (by omega)
  have hnb : n ≤ 140737488355000 := by omega
  have hl' : (l.take n).length = n := by simp; omega
  have HL := Lib.hid hl'
  have hbn : Bs J (.slice A (n + 4) c) l := by rw [← hn4]; exact hb
  have hnc : n + 4 ≤ c := by omega
  rw [hn4]
  have hA : A ≠ none := by
    rintro rfl
    obtain ⟨_, A, c', hv, _, _, h0, _⟩ := hb
    cases hv
    have := h0 rfl; omega
  clear ho hn4 hl' hb hn hl
  have hseal : (sealed (l.take n)).length = n + 4 := by rw [sealed_length, HL.out]
  have HSL := Lib.hid hseal
  clear hseal
  have hn0 : n + 4 - 4 = n := by omega
  rw [hn0]
  clear hn0
  by_cases h0 : n = 0
  · subst h0
    go_enter Try.func10, Try.ntmps10
    go_wp2_with (first | (go_at_call 14; go_must (refine (seal_calls hI hb' (by rw [HL.out]; omega)).mono ?_; rw [HL.out]; rintro e w1 ⟨g, J1, rfl, hE, hge, hg, hJg⟩; have hE2 := hE.put hge hg (cs := bcs (sealed (l.take 0))) (by simp); have hb2 := hbn.mono (hE2.le hI); have hs2 := Bs.of_block J1 (g := g) (n := 0 + 4) HSL.out (by simp only [maxLen]; omega); have HB := Lib.hid hE; clear hE hge hg hJg)) | (go_at_call 13; go_must (refine (equal_calls hE2.inv hb2 hs2).mono ?_; rw [hq]; rintro e w2 ⟨rfl, rfl⟩)))
    go_ret2
    exact ⟨_, _, rfl, HB.out, by simpa using Own.nil _ _ _ _ _, by simp⟩
  · have h0' : ((n : Int) == 0) = false := by simpa using h0
    have H0 := Lib.hid h0
    clear h0
    go_enter Try.func10, Try.ntmps10
    go_wp2_with (first | (go_at_call 14; go_must (refine (seal_calls hI hb' (by rw [HL.out]; omega)).mono ?_; rw [HL.out]; rintro e w1 ⟨g, J1, rfl, hE, hge, hg, hJg⟩; have hE2 := hE.put hge hg (cs := bcs (sealed (l.take n))) (by simp); have hb2 := hbn.mono (hE2.le hI); have hs2 := Bs.of_block J1 (g := g) (n := n + 4) HSL.out (by simp only [maxLen]; omega); clear hE hge hg hJg)) | (go_at_call 13; go_must (refine (equal_calls hE2.inv hb2 hs2).mono ?_; rw [hq]; rintro e w2 ⟨rfl, rfl⟩)) | (go_at_call 19; go_must (refine (bclone_calls hE2.inv (hb'.mono (hE2.le hI)) (by rw [HL.out]; omega)).mono ?_; rw [HL.out]; rintro e w3 ⟨v3, J3, rfl, hE3, ho3, hv3⟩; have HE3 := Lib.hid hE3; have HO3 := Lib.hid ho3; have HV3 := Lib.hid hv3; clear hE3 ho3 hv3)))
    go_ret2
    refine ⟨v3, J3, rfl, hE2.trans HE3.out, HO3.out.lower hE2.below.size, ?_⟩
    rw [HV3.out]
    have := H0.out
    cases A with
    | none => exact absurd rfl hA
    | some a => simp; omega
end Go.Proofs.Ytmagkejehbaodaa
