/- The walks of package brickyardref02: the reference computes what SumPure says. -/
import Derived.Test.YtmagkejehbaodaaSum
namespace Go.Proofs.Ytmagkejehbaodaa
open Go.RowKit

theorem ref_step (R X j N : Nat) (h : R ^^^ X = stpN j N) :
    (if (R % 2 ^^^ X % 2) = 1 then R / 2 ^^^ 3988292384 else R / 2) ^^^ (X / 2) = stpN (j + 1) N := by
  have h1 : R % 2 ^^^ X % 2 = (R ^^^ X) % 2 := by
    rw [xor_mod2]
    have ha := Nat.mod_two_eq_zero_or_one R
    have hb := Nat.mod_two_eq_zero_or_one X
    rcases ha with ha | ha <;> rcases hb with hb | hb <;> simp [ha, hb] <;> omega
  rw [h1]
  simp only [stpN]
  rw [← h, stp, xor_div2]
  split
  · rw [Nat.xor_assoc, Nat.xor_comm 3988292384, Nat.xor_assoc]
  · rfl
set_option maxHeartbeats 2000000 in
theorem refof_calls {J : Jm} {w : World} (hI : Inv J w) {v : Value} {l : List UInt8} (hb : Bs J v l) :
    Calls Try.prog 16 #[v] w fun e w' => e = .returned (.int .u32 (more 0 l : Nat)) ∧ w = w' := by
  obtain ⟨A, c, rfl, hn, hm⟩ := hb.form
  unfold maxLen at hm
  go_enter Try.func16, Try.ntmps16
  go_wp2
  go_loop [3, 4] (fun r i => ∃ k : Nat, k ≤ l.length ∧ i = .int .i64 k ∧ r = .int .u32 (regs 4294967295 (l.take k) : Nat)) (fun _ i => l.length - (intOf i).toNat)
  case atStart => exact ⟨0, by omega, rfl, rfl⟩
  case round =>
    obtain ⟨k, hk, rfl, rfl⟩ := hrel
    have hR : regs 4294967295 (l.take k) < 4294967296 := regs_lt (by decide) _
    by_cases hlt : k < l.length
    · obtain ⟨b, o, rfl, hc⟩ := hb.cell hI hlt
      have HN : Hid (regs 4294967295 (l.take (k + 1)) = stpN 8 (regs 4294967295 (l.take k) ^^^ l[k].toNat)) := by
        rw [Hid, List.take_succ_eq_append_getElem hlt, regs_snoc]
      generalize regs 4294967295 (l.take k) = R at *
      have hx := l[k].toNat_lt
      generalize l[k].toNat = x at *
      clear hb
      go_wp2
      go_loop [3, 5, 6] (fun r y i => ∃ j Rj Xj : Nat, j ≤ 8 ∧ i = .int .i64 j ∧ r = .int .u32 Rj ∧ y = .int .u8 Xj ∧ Rj < 4294967296 ∧ Xj < 2 ^ (8 - j) ∧ Hid (Rj ^^^ Xj = stpN j (R ^^^ x))) (fun _ _ i => 8 - (intOf i).toNat)
      case atStart => exact ⟨0, R, x, by omega, rfl, rfl, rfl, hR, by omega, rfl⟩
      case round =>
        obtain ⟨j, Rj, Xj, hj, rfl, rfl, rfl, hRj, hXj, HS⟩ := hrel
        by_cases hlt2 : j < 8
        · have hX : Xj < 256 := Nat.lt_of_lt_of_le hXj (show 2 ^ (8 - j) ≤ 2 ^ 8 from Nat.pow_le_pow_right (by decide) (by omega))
          have hX2 : Hid (Xj / 2 < 2 ^ (8 - (j + 1))) := by
            have e : 8 - j = (8 - (j + 1)) + 1 := by omega
            rw [e, Nat.pow_succ] at hXj
            simp only [Hid]; omega
          have HN2 := ref_step Rj Xj j _ HS.out
          have f1 : bits .xor .u32 ((Rj : Int) % 2) ((Xj : Int) % 2) = ((Rj % 2 ^^^ Xj % 2 : Nat) : Int) := u32_xor_nat (Rj % 2) (Xj % 2) (by omega) (by omega)
          obtain ⟨t, ht⟩ : ∃ t, t = Rj % 2 ^^^ Xj % 2 := ⟨_, rfl⟩
          rw [← ht] at f1 HN2
          by_cases h1 : t = 1
          · rw [if_pos h1] at HN2
            have g1 : ((t : Int) == 1) = true := by simp; omega
            have f2 : bits .xor .u32 ((Rj : Int) / 2) 3988292384 = ((Rj / 2 ^^^ 3988292384 : Nat) : Int) := u32_xor_nat (Rj / 2) 3988292384 (by omega) (by decide)
            have hq : Hid (Rj / 2 ^^^ 3988292384 < 4294967296) := Nat.xor_lt_two_pow (n := 32) (by omega) (by decide)
            have HN3 := Lib.hid HN2
            generalize Rj / 2 ^^^ 3988292384 = Rn at *
            clear HN2 ht h1 hXj
            go_wp2
            go_round
            case rel => exact ⟨j + 1, Rn, Xj / 2, by omega, by go_num, rfl, rfl, hq.out, hX2.out, HN3.out⟩
            case measure => simp [intOf]; omega
          · rw [if_neg h1] at HN2
            have g1 : ((t : Int) == 1) = false := by simp; omega
            have HN3 := Lib.hid HN2
            clear HN2 ht h1 hXj
            go_wp2
            go_round
            case rel => exact ⟨j + 1, Rj / 2, Xj / 2, by omega, by go_num, rfl, rfl, by omega, hX2.out, HN3.out⟩
            case measure => simp [intOf]; omega
        · obtain rfl : j = 8 := by omega
          have h0 : Xj = 0 := by simpa using hXj
          subst h0
          have HS2 : Hid (Rj = stpN 8 (R ^^^ x)) := by have := HS.out; simp only [Nat.xor_zero] at this; exact this
          clear hXj HS
          go_wp2
          go_round
          case rel => exact ⟨k + 1, by omega, by go_num, by rw [HN.out, HS2.out]⟩
          case measure => simp [intOf]; omega
    · obtain rfl : k = l.length := by omega
      have f1 := u32_xor_nat 4294967295 (regs 4294967295 l) (by decide) (regs_lt (by decide) _)
      have F1 : Hid (bits .xor .u32 (IntKind.max .u32) (regs 4294967295 l : Nat) = ((more 0 l : Nat) : Int)) := by rw [Nat.xor_comm] at f1; simp only [more, Nat.zero_xor]; exact f1
      rw [List.take_length] at *
      clear f1 hR
      go_wp2
      go_ret
      exact ⟨by rw [← F1.out]; rfl, rfl⟩

set_option maxHeartbeats 2000000 in
theorem refseal_calls {J : Jm} {w : World} (hI : Inv J w) {v : Value} {l : List UInt8} (hb : Bs J v l) (hl : l.length ≤ 140737488355000) :
    Calls Try.prog 17 #[v] w fun e w' => ∃ v' J', e = .returned v' ∧ Ext J w J' w' ∧ Own J' w' w.heap.size 5 1 v' (l.length + 4) (bcs (sealed l)) := by
  obtain ⟨A, c, rfl, hn, hm⟩ := hb.form
  have hm' := hm
  unfold maxLen at hm'
  have hlt := more_lt (s := 0) (by decide) l
  have HB : Hid (bcs (sealed l) = bcs l ++ bcs (four (more 0 l))) := by rw [sealed, bcs_append]; rfl
  have hfour : Hid ([Value.int .u8 ((more 0 l : Int) % 256), Value.int .u8 ((more 0 l : Int) / 256 % 256), Value.int .u8 ((more 0 l : Int) / 65536 % 256), Value.int .u8 ((more 0 l : Int) / 16777216)] = bcs (four (more 0 l))) := by
    simp [four, bcs, bv, Hid]; omega
  have HL : Hid ((bcs (four (more 0 l))).length = 4) := by simp [four, Hid]
  go_enter Try.func17, Try.ntmps17
  go_wp2_with (first | (go_at_call 16; go_must (refine (refof_calls hI hb).mono ?_; rintro e w1 ⟨rfl, rfl⟩)) | (at_builtin; (refine wpList_append_J (J := J) (s := .tmp 7) (x := .tmp 8) (t := 23) (e := 5) (base := w.heap.size) (v := .slice (some ⟨w.heap.size, 0, none⟩) 0 0) (n := 0) (xs := []) rfl (.int .u8 0) 1 1 rfl Try.underlying23 info_u8 rfl rfl (hI.alloc _) (Own.made hI _ _ 1 #[] 0 (Nat.le_refl _) (by decide) rfl) rfl hb (bcs_one l) (by simp only [maxLen]; omega) (by omega) (by simp) ?_; intro v1 w1 J1 ho hg hv'; have hE : Ext J w J1 w1 := ((Ext.refl hI).alloc _).grew (Own.made hI _ _ 1 #[] 0 (Nat.le_refl _) (by decide) rfl) hg; have HO := Lib.hid ho; have HE := Lib.hid hE; clear ho hE hg hv')) | (at_builtin; go_must (refine wpList_append_lit (J := J1) (s := .tmp 10) (x := .tmp 25) (t := 23) (e := 5) (base := w.heap.size) (v := v1) (n := 0 + l.length) (xs := [] ++ bcs l) (m := 4) (news := bcs (four (more 0 l))) rfl (.int .u8 0) 1 1 rfl Try.underlying23 info_u8 rfl rfl (HE.out.inv.alloc _) (HO.out.alloc _) rfl (by rw [← hfour.out]; exact heap_alloc_new _ _) HL.out (bcs_one _) (by simp only [maxLen]; omega) (by omega) (by have := HE.out.below.size; simp; omega) ?_; intro v2 w2 J2 ho2 hg2 hv2)))
  go_ret
  refine ⟨v2, J2, rfl, (HE.out.alloc _).grew (HO.out.alloc _) hg2, ?_⟩
  rw [HB.out]
  simpa using ho2
end Go.Proofs.Ytmagkejehbaodaa
